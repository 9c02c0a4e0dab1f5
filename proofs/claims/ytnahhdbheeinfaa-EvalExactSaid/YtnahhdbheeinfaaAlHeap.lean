/- An abstract layer over the walk, 6: new rows, rows that are written, rows that end. No program in sight. -/
import Derived.Test.YtnahhdbheeinfaaAlSlice
import Derived.Laws.CopyRow
namespace Go.AL

/-- w' is w with one block more. -/
structure Pushed (w w' : World) (o : Obj) : Prop where
  heap : w'.heap = w.heap.push o
  os : w'.os = w.os
  tape : w'.tape = w.tape
  output : w'.output = w.output

theorem Pushed.old {w w' : World} {o : Obj} (h : Pushed w w' o) {b : Nat} (hb : b < w.heap.size) : w'.heap[b]? = w.heap[b]? := by
  rw [h.heap, Array.getElem?_push, if_neg (by omega)]
theorem Pushed.new {w w' : World} {o : Obj} (h : Pushed w w' o) : w'.heap[w.heap.size]? = some o := by
  rw [h.heap, Array.getElem?_push, if_pos rfl]
theorem Pushed.size {w w' : World} {o : Obj} (h : Pushed w w' o) : w'.heap.size = w.heap.size + 1 := by rw [h.heap]; simp

theorem cell_eq {w w' : World} {b : Nat} (h : w'.heap[b]? = w.heap[b]?) (o : Nat) : w'.cell? ⟨b, o, none⟩ = w.cell? ⟨b, o, none⟩ := by simp [World.cell?, h]
theorem shape_eq {w w' : World} {b : Nat} (h : w'.heap[b]? = w.heap[b]?) : w'.shape? b = w.shape? b := by simp [World.shape?, h]
theorem lt_of_shape {w : World} {b t n : Nat} (h : w.shape? b = some (t, n)) : b < w.heap.size := by
  unfold World.shape? at h
  cases hb : w.heap[b]? with
  | none => simp [hb] at h
  | some o => exact (Array.getElem?_eq_some_iff.1 hb).1

theorem Pushed.adv {w w' : World} {o : Obj} (h : Pushed w w' o) (F : Fz) {F' : Fz} (hF : ∀ b x, b < w.heap.size → F' b x → F b x) : Adv w F w' F' where
  os := h.os
  tape := h.tape
  output := h.output
  size := by rw [h.size]; omega
  cell := fun b x u hc _ => by rw [cell_eq (h.old (lt_of_cell hc))]; exact hc
  mono := hF
  shape := fun b t n hs => by rw [shape_eq (h.old (lt_of_shape hs))]; exact hs
  block := fun b hb _ => h.old hb

/-- The elements es, laid into the cells cs from bs on. -/
def Laid (P : Program) (w : World) (F : Fz) (μ : Mu) (ty sz : Nat) (es : List A) (cur : Array Value) (bs : Nat) : Prop :=
  ∀ (k : Nat) (e : A), es[k]? = some e → shp P ty e = true ∧ ∃ V, Rep P w F μ e V ∧ ∀ (j : Nat) (u : Value), V.cells[j]? = some u → cur[bs + k * sz + j]? = some u

theorem Laid.adv {P : Program} {w w' : World} {F F' : Fz} {μ μ' : Mu} {ty sz : Nat} {es : List A} {cur : Array Value} {bs : Nat} (h : Laid P w F μ ty sz es cur bs) (hA : Adv w F w' F') (hp : μ <+: μ') : Laid P w' F' μ' ty sz es cur bs := by
  intro k e he
  obtain ⟨h1, V, h2, h3⟩ := h k e he
  exact ⟨h1, V, h2.adv hA hp, h3⟩

theorem Fof_app {μ : Mu} {H : List Row} (hl : μ.length = H.length) {b bs : Nat} {r : Row} {b' o : Nat} (h : Fof (μ ++ [(b, bs)]) (H ++ [r]) b' o) : Fof μ H b' o ∨ (b' = b ∧ r.live = true ∧ bs + r.f * r.sz ≤ o) := by
  obtain ⟨i, r', bs', h1, h2, h3, h4⟩ := h
  by_cases hi : i < H.length
  · rw [List.getElem?_append_left hi] at h1
    rw [List.getElem?_append_left (by omega)] at h3
    exact .inl ⟨i, r', bs', h1, h2, h3, h4⟩
  · rw [List.getElem?_append_right (by omega)] at h1 h3
    have : i - H.length = 0 := by
      rcases Nat.eq_zero_or_pos (i - H.length) with h0 | h0
      · exact h0
      · rw [List.getElem?_eq_none (by simp; omega)] at h1; cases h1
    rw [this] at h1
    rw [hl, this] at h3
    simp at h1 h3
    obtain ⟨rfl, rfl⟩ := h3
    subst h1
    exact .inr ⟨rfl, h2, h4⟩

theorem HS.newRow {P : Program} {w w' : World} {F0 : Fz} {μ : Mu} {H : List Row} (hs : HS P w F0 μ H) {cells : Array Value} {ty sz : Nat} {es : List A} (f : Nat) (hp : Pushed w w' (.cells cells ty))
    (hsz : sz = P.cellsOf ty) (hz : sz ≠ 0) (hfit : es.length * sz ≤ cells.size) (hl : Laid P w (Ft F0 μ H) μ ty sz es cells 0) :
    HS P w' F0 (μ ++ [(w.heap.size, 0)]) (H ++ [⟨ty, sz, es, f, true⟩]) ∧ Adv w (Fof μ H) w' (Fof (μ ++ [(w.heap.size, 0)]) (H ++ [⟨ty, sz, es, f, true⟩])) := by
  have hmono : ∀ b x, b < w.heap.size → Fof (μ ++ [(w.heap.size, 0)]) (H ++ [⟨ty, sz, es, f, true⟩]) b x → Fof μ H b x := by
    intro b x hb hf
    rcases Fof_app hs.len hf with h | ⟨rfl, _, _⟩
    · exact h
    · omega
  have hA := hp.adv (Fof μ H) hmono
  have hpre : μ <+: μ ++ [(w.heap.size, 0)] := List.prefix_append _ _
  refine ⟨⟨by simp [hs.len], fun b o h => by rw [hp.size]; have := hs.bound b o h; omega, ?_, ?_, ?_⟩, hA⟩
  · intro i r b bs hr hlive hb
    by_cases hi : i < H.length
    · rw [List.getElem?_append_left hi] at hr
      rw [List.getElem?_append_left (by rw [hs.len]; exact hi)] at hb
      have hlt : b < w.heap.size := hs.lt (o := bs + r.f * r.sz) (.inr ⟨i, r, bs, hr, hlive, hb, Nat.le_refl _⟩)
      rcases hs.row i r b bs hr hlive hb with h1 | h1
      · exact .inl (h1.adv (hA.join F0) hpre (hp.old hlt))
      · exact .inr (h1.adv (hA.join F0) (hp.old hlt))
    · rw [List.getElem?_append_right (by omega)] at hr
      rw [List.getElem?_append_right (by rw [hs.len]; omega), hs.len] at hb
      have : i - H.length = 0 := by
        rcases Nat.eq_zero_or_pos (i - H.length) with h0 | h0
        · exact h0
        · rw [List.getElem?_eq_none (by simp; omega)] at hr; cases hr
      rw [this] at hr hb
      simp at hr hb
      obtain ⟨rfl, rfl⟩ := hb
      subst hr
      exact .inl ⟨cells, hp.new, hsz, hz, by simpa using hfit, Laid.adv hl (hA.join F0) hpre⟩
  · intro i j r r' b bs bs' hr hlr hr' hlr' hb hb'
    have old : ∀ (i : Nat) (r : Row) (b bs : Nat), (H ++ [⟨ty, sz, es, f, true⟩])[i]? = some r → r.live = true → (μ ++ [(w.heap.size, 0)])[i]? = some (b, bs) → (i < H.length ∧ H[i]? = some r ∧ μ[i]? = some (b, bs) ∧ b < w.heap.size) ∨ (i = H.length ∧ b = w.heap.size) := by
      intro i r b bs hr hlive hb
      by_cases hi : i < H.length
      · rw [List.getElem?_append_left hi] at hr
        rw [List.getElem?_append_left (by rw [hs.len]; exact hi)] at hb
        exact .inl ⟨hi, hr, hb, hs.lt (o := bs + r.f * r.sz) (.inr ⟨i, r, bs, hr, hlive, hb, Nat.le_refl _⟩)⟩
      · rw [List.getElem?_append_right (by omega)] at hr
        rw [List.getElem?_append_right (by rw [hs.len]; omega), hs.len] at hb
        have : i - H.length = 0 := by
          rcases Nat.eq_zero_or_pos (i - H.length) with h0 | h0
          · exact h0
          · rw [List.getElem?_eq_none (by simp; omega)] at hr; cases hr
        rw [this] at hb
        simp at hb
        exact .inr ⟨by omega, hb.1.symm⟩
    rcases old i r b bs hr hlr hb with ⟨h1, h2, h3, h4⟩ | ⟨h1, h2⟩ <;> rcases old j r' b bs' hr' hlr' hb' with ⟨k1, k2, k3, k4⟩ | ⟨k1, k2⟩
    · exact hs.inj i j r r' b bs bs' h2 hlr k2 hlr' h3 k3
    · omega
    · omega
    · omega
  · intro i r b bs o hr hlive hb hf
    have hlt := hs.bound b o hf
    by_cases hi : i < H.length
    · rw [List.getElem?_append_left hi] at hr
      rw [List.getElem?_append_left (by rw [hs.len]; exact hi)] at hb
      exact hs.sep i r b bs o hr hlive hb hf
    · rw [List.getElem?_append_right (by rw [hs.len]; omega), hs.len] at hb
      have : i - H.length = 0 := by
        rcases Nat.eq_zero_or_pos (i - H.length) with h0 | h0
        · exact h0
        · rw [List.getElem?_eq_none (by simp; omega)] at hb; cases hb
      rw [this] at hb
      simp at hb
      omega

theorem Fof_set {μ : Mu} {H : List Row} {id : Nat} {r r' : Row} (hr : H[id]? = some r) (hf : r.live = true ∧ r.f * r.sz ≤ r'.f * r'.sz) {b o : Nat} (h : Fof μ (H.set id r') b o) : Fof μ H b o := by
  obtain ⟨i, x, bs, h1, h2, h3, h4⟩ := h
  rw [List.getElem?_set] at h1
  split at h1
  · rename_i hi
    subst hi
    split at h1
    · cases h1
      exact ⟨id, r, bs, hr, hf.1, h3, by omega⟩
    · cases h1
  · exact ⟨i, x, bs, h1, h2, h3, h4⟩

/-- A row ends (or is frozen further). -/
theorem HS.less {P : Program} {w : World} {F0 : Fz} {μ : Mu} {H : List Row} (hs : HS P w F0 μ H) {id : Nat} {r r' : Row} (hr : H[id]? = some r) (hlive : r.live = true) (hty : r'.ty = r.ty) (hsz : r'.sz = r.sz) (hes : r'.es = r.es) (hf : r.f ≤ r'.f) :
    HS P w F0 μ (H.set id r') ∧ Adv w (Fof μ H) w (Fof μ (H.set id r')) := by
  have hm : ∀ b o, Fof μ (H.set id r') b o → Fof μ H b o := fun b o h => Fof_set hr ⟨hlive, by rw [hsz]; exact Nat.mul_le_mul_right _ hf⟩ h
  have hA : Adv w (Fof μ H) w (Fof μ (H.set id r')) := ⟨rfl, rfl, rfl, Nat.le_refl _, fun _ _ _ h _ => h, fun b o _ h => hm b o h, fun _ _ _ h => h, fun _ _ _ => rfl⟩
  have get : ∀ (i : Nat) (x : Row), (H.set id r')[i]? = some x → x.live = true → ∃ y, H[i]? = some y ∧ y.live = true ∧ x.ty = y.ty ∧ x.sz = y.sz ∧ x.es = y.es := by
    intro i x hx hl
    rw [List.getElem?_set] at hx
    split at hx
    · rename_i hi; subst hi
      split at hx
      · cases hx; exact ⟨r, hr, hlive, hty, hsz, hes⟩
      · cases hx
    · exact ⟨x, hx, hl, rfl, rfl, rfl⟩
  refine ⟨⟨by simp [hs.len], hs.bound, ?_, ?_, ?_⟩, hA⟩
  · intro i x b bs hx hl hb
    obtain ⟨y, hy, hyl, e1, e2, e3⟩ := get i x hx hl
    rcases hs.row i y b bs hy hyl hb with ⟨cur, h1, h2, h3, h4, h5⟩ | ⟨h1, h2, h3, ms, clock, h4, h5⟩
    · refine .inl ?_
      unfold CellsOK
      rw [e1, e2, e3]
      exact ⟨cur, h1, h2, h3, h4, Laid.adv h5 (hA.join F0) (List.prefix_refl _)⟩
    · refine .inr ?_
      unfold MapOK
      rw [e1, e2, e3]
      exact ⟨h1, h2, h3, ms, clock, h4, h5.adv (hA.join F0)⟩
  · intro i j x x' b bs bs' hx hl hx' hl' hb hb'
    obtain ⟨y, hy, hyl, _⟩ := get i x hx hl
    obtain ⟨y', hy', hyl', _⟩ := get j x' hx' hl'
    exact hs.inj i j y y' b bs bs' hy hyl hy' hyl' hb hb'
  · intro i x b bs o hx hl hb
    obtain ⟨y, hy, hyl, _⟩ := get i x hx hl
    exact hs.sep i y b bs o hy hyl hb

/-- A row is written, from its place f on. -/
theorem HS.write {P : Program} {w w' : World} {F0 : Fz} {μ : Mu} {H : List Row} (hs : HS P w F0 μ H) {id b bs : Nat} {r : Row} {cur cur' : Array Value} {es' : List A} (hr : H[id]? = some r) (hlive : r.live = true) (hb : μ[id]? = some (b, bs))
    (hc : w.heap[b]? = some (.cells cur r.ty (0, 0))) (hw : w' = w.setRow b cur') (hcs : cur'.size = cur.size) (hold : ∀ o, o < bs + r.f * r.sz → cur'[o]? = cur[o]?) (hfit : bs + es'.length * r.sz ≤ cur.size)
    (hl : Laid P w (Ft F0 μ H) μ r.ty r.sz es' cur' bs) :
    HS P w' F0 μ (H.set id { r with es := es' }) ∧ Adv w (Fof μ H) w' (Fof μ (H.set id { r with es := es' })) := by
  subst hw
  have hm : ∀ b o, Fof μ (H.set id { r with es := es' }) b o → Fof μ H b o := fun b o h => Fof_set (r' := { r with es := es' }) hr ⟨hlive, Nat.le_refl _⟩ h
  have hA : Adv w (Fof μ H) (w.setRow b cur') (Fof μ (H.set id { r with es := es' })) := by
    refine ⟨rfl, rfl, rfl, by simp, ?_, fun b o _ h => hm b o h, ?_, ?_⟩
    · intro b' o u hu hf
      by_cases hbb : b' = b
      · subst hbb
        rw [cell_setRow_same w b' o cur cur' r.ty (0, 0) hc]
        have h1 : cur[o]? = some u := by rw [← cell_of_row w b' o cur r.ty (0, 0) hc]; exact hu
        rw [hold o ?_, h1]
        apply Nat.lt_of_not_le
        intro hle
        exact hf ⟨id, r, bs, hr, hlive, hb, hle⟩
      · rw [cell_setRow_other w b cur' _ hbb]; exact hu
    · intro b' t n hsh
      by_cases hbb : b' = b
      · subst hbb
        simp only [World.shape?, hc] at hsh
        simp only [World.shape?, setRow_heap w b' cur cur' r.ty (0, 0) hc, hcs]; exact hsh
      · rw [shape_eq (setRow_other w b b' cur' hbb)]; exact hsh
    · intro b' hlt hf
      refine setRow_other w b b' cur' ?_
      rintro rfl
      exact hf _ ⟨id, r, bs, hr, hlive, hb, Nat.le_refl _⟩
  refine ⟨⟨by simp [hs.len], fun b o h => by simp; exact hs.bound b o h, ?_, ?_, ?_⟩, hA⟩
  · intro i x b' bs' hx hl' hb'
    rw [List.getElem?_set] at hx
    split at hx
    · rename_i hi; subst hi
      split at hx
      · cases hx
        rw [hb] at hb'; cases hb'
        obtain ⟨_, _, h2, h3, _⟩ := hs.cells hr hlive hb (x := (r.ty, cur.size)) (by simp [World.shape?, hc])
        exact .inl ⟨cur', setRow_heap w b cur cur' r.ty (0, 0) hc, h2, h3, by rw [hcs]; exact hfit, Laid.adv hl (hA.join F0) (List.prefix_refl _)⟩
      · cases hx
    · rename_i hi
      have hne : b' ≠ b := by
        rintro rfl
        exact hi (hs.inj id i r x b' bs bs' hr hlive hx hl' hb hb')
      rcases hs.row i x b' bs' hx hl' hb' with h1 | h1
      · exact .inl (h1.adv (hA.join F0) (List.prefix_refl _) (setRow_other w b b' cur' hne))
      · exact .inr (h1.adv (hA.join F0) (setRow_other w b b' cur' hne))
  · intro i j x x' b1 bs1 bs2 hx hl1 hx' hl2 hb1 hb2
    have get : ∀ (i : Nat) (x : Row), (H.set id { r with es := es' })[i]? = some x → x.live = true → ∃ y, H[i]? = some y ∧ y.live = true := by
      intro i x hx hl
      rw [List.getElem?_set] at hx
      split at hx
      · rename_i hi; subst hi; exact ⟨r, hr, hlive⟩
      · exact ⟨x, hx, hl⟩
    obtain ⟨y, hy, hyl⟩ := get i x hx hl1
    obtain ⟨y', hy', hyl'⟩ := get j x' hx' hl2
    exact hs.inj i j y y' b1 bs1 bs2 hy hyl hy' hyl' hb1 hb2
  · intro i x b1 bs1 o hx hl1 hb1
    rw [List.getElem?_set] at hx
    split at hx
    · rename_i hi; subst hi; exact hs.sep id r b1 bs1 o hr hlive hb1
    · exact hs.sep i x b1 bs1 o hx hl1 hb1

theorem Fof_dead {μ : Mu} {H : List Row} {id : Nat} {d : Row} (hd : d.live = false) {b o : Nat} (h : Fof μ (H.set id d) b o) : Fof μ H b o := by
  obtain ⟨i, x, bs, h1, h2, h3, h4⟩ := h
  rw [List.getElem?_set] at h1
  split at h1
  · split at h1
    · cases h1; rw [hd] at h2; cases h2
    · cases h1
  · exact ⟨i, x, bs, h1, h2, h3, h4⟩

/-- A row ends. -/
theorem HS.kill {P : Program} {w : World} {F0 : Fz} {μ : Mu} {H : List Row} (hs : HS P w F0 μ H) {id : Nat} {d : Row} (hd : d.live = false) :
    HS P w F0 μ (H.set id d) ∧ Adv w (Fof μ H) w (Fof μ (H.set id d)) := by
  have hA : Adv w (Fof μ H) w (Fof μ (H.set id d)) := ⟨rfl, rfl, rfl, Nat.le_refl _, fun _ _ _ h _ => h, fun b o _ h => Fof_dead hd h, fun _ _ _ h => h, fun _ _ _ => rfl⟩
  have get : ∀ (i : Nat) (x : Row), (H.set id d)[i]? = some x → x.live = true → H[i]? = some x := by
    intro i x hx hl
    rw [List.getElem?_set] at hx
    split at hx
    · split at hx
      · cases hx; rw [hd] at hl; cases hl
      · cases hx
    · exact hx
  refine ⟨⟨by simp [hs.len], hs.bound, ?_, ?_, ?_⟩, hA⟩
  · intro i x b bs hx hl hb
    rcases hs.row i x b bs (get i x hx hl) hl hb with h1 | h1
    · exact .inl (h1.adv (hA.join F0) (List.prefix_refl _) rfl)
    · exact .inr (h1.adv (hA.join F0) rfl)
  · intro i j x x' b bs bs' hx hl hx' hl' hb hb'
    exact hs.inj i j x x' b bs bs' (get i x hx hl) hl (get j x' hx' hl') hl' hb hb'
  · intro i x b bs o hx hl hb
    exact hs.sep i x b bs o (get i x hx hl) hl hb

/-- A row goes on under a new number, from its element off on. -/
theorem HS.rebase {P : Program} {w : World} {F0 : Fz} {μ : Mu} {H : List Row} (hs : HS P w F0 μ H) {id b bs off f' : Nat} {r d : Row} (hd : d.live = false) (hr : H[id]? = some r) (hlive : r.live = true) (hb : μ[id]? = some (b, bs)) (ho : off ≤ r.es.length) (hf : r.f ≤ off + f') {xsh : TypeId × Nat} (hsh : w.shape? b = some xsh) :
    HS P w F0 (μ ++ [(b, bs + off * r.sz)]) (H.set id d ++ [⟨r.ty, r.sz, r.es.drop off, f', true⟩]) ∧
    Adv w (Fof μ H) w (Fof (μ ++ [(b, bs + off * r.sz)]) (H.set id d ++ [⟨r.ty, r.sz, r.es.drop off, f', true⟩])) := by
  have hm : ∀ b' o, Fof (μ ++ [(b, bs + off * r.sz)]) (H.set id d ++ [⟨r.ty, r.sz, r.es.drop off, f', true⟩]) b' o → Fof μ H b' o := by
    intro b' o h
    rcases Fof_app (by simp [hs.len]) h with h | ⟨rfl, _, h⟩
    · exact Fof_dead hd h
    · refine ⟨id, r, bs, hr, hlive, hb, ?_⟩
      have := Nat.mul_le_mul_right r.sz hf
      rw [Nat.add_mul] at this
      simp only at h
      omega
  have hA : Adv w (Fof μ H) w (Fof (μ ++ [(b, bs + off * r.sz)]) (H.set id d ++ [⟨r.ty, r.sz, r.es.drop off, f', true⟩])) := ⟨rfl, rfl, rfl, Nat.le_refl _, fun _ _ _ h _ => h, fun b o _ h => hm b o h, fun _ _ _ h => h, fun _ _ _ => rfl⟩
  have hpre : μ <+: μ ++ [(b, bs + off * r.sz)] := List.prefix_append _ _
  have get : ∀ (i : Nat) (x : Row) (b1 bs1 : Nat), (H.set id d ++ [⟨r.ty, r.sz, r.es.drop off, f', true⟩])[i]? = some x → x.live = true → (μ ++ [(b, bs + off * r.sz)])[i]? = some (b1, bs1) →
      (i ≠ id ∧ i < H.length ∧ H[i]? = some x ∧ μ[i]? = some (b1, bs1)) ∨ (i = H.length ∧ x = ⟨r.ty, r.sz, r.es.drop off, f', true⟩ ∧ b1 = b ∧ bs1 = bs + off * r.sz) := by
    intro i x b1 bs1 hx hl hb1
    by_cases hi : i < H.length
    · rw [List.getElem?_append_left (by simpa using hi)] at hx
      rw [List.getElem?_append_left (by rw [hs.len]; exact hi)] at hb1
      rw [List.getElem?_set] at hx
      split at hx
      · split at hx
        · cases hx; rw [hd] at hl; cases hl
        · cases hx
      · rename_i hne; exact .inl ⟨fun h => hne h.symm, hi, hx, hb1⟩
    · rw [List.getElem?_append_right (by simp; omega)] at hx
      rw [List.getElem?_append_right (by rw [hs.len]; omega), hs.len] at hb1
      simp only [List.length_set] at hx
      have : i - H.length = 0 := by
        rcases Nat.eq_zero_or_pos (i - H.length) with h0 | h0
        · exact h0
        · rw [List.getElem?_eq_none (by simp; omega)] at hx; cases hx
      rw [this] at hx hb1
      simp at hx hb1
      exact .inr ⟨by omega, hx.symm, hb1.1.symm, hb1.2.symm⟩
  obtain ⟨cur, h1, h2, h3, h4, h5⟩ := hs.cells hr hlive hb hsh
  refine ⟨⟨by simp [hs.len], hs.bound, ?_, ?_, ?_⟩, hA⟩
  · intro i x b1 bs1 hx hl hb1
    rcases get i x b1 bs1 hx hl hb1 with ⟨_, _, g1, g2⟩ | ⟨_, rfl, rfl, rfl⟩
    · rcases hs.row i x b1 bs1 g1 hl g2 with k1 | k1
      · exact .inl (k1.adv (hA.join F0) hpre rfl)
      · exact .inr (k1.adv (hA.join F0) rfl)
    · refine .inl ⟨cur, h1, h2, h3, ?_, ?_⟩
      · simp only [List.length_drop]
        have : off * r.sz + (r.es.length - off) * r.sz = r.es.length * r.sz := by rw [← Nat.add_mul]; congr 1; omega
        omega
      · refine Laid.adv ?_ (hA.join F0) hpre
        intro k e he
        simp only [List.getElem?_drop] at he
        obtain ⟨g1, V, g2, g3⟩ := h5 _ e he
        refine ⟨g1, V, g2, fun j u hu => ?_⟩
        have := g3 j u hu
        rw [show bs + off * r.sz + k * r.sz + j = bs + (off + k) * r.sz + j by rw [Nat.add_mul]; omega]
        exact this
  · intro i j x x' b1 bs1 bs2 hx hl1 hx' hl2 hb1 hb2
    rcases get i x b1 bs1 hx hl1 hb1 with ⟨g0, g1, g2, g3⟩ | ⟨g1, _, g2, _⟩ <;> rcases get j x' b1 bs2 hx' hl2 hb2 with ⟨k0, k1, k2, k3⟩ | ⟨k1, _, k2, _⟩
    · exact hs.inj i j x x' b1 bs1 bs2 g2 hl1 k2 hl2 g3 k3
    · subst k2; exact (g0 (hs.inj i id x r b1 bs1 bs g2 hl1 hr hlive g3 hb)).elim
    · subst g2; exact (k0 (hs.inj j id x' r b1 bs2 bs k2 hl2 hr hlive k3 hb)).elim
    · omega
  · intro i x b1 bs1 o hx hl hb1
    rcases get i x b1 bs1 hx hl hb1 with ⟨_, _, g1, g2⟩ | ⟨_, _, rfl, _⟩
    · exact hs.sep i x b1 bs1 o g1 hl g2
    · exact hs.sep id r b1 bs o hr hlive hb
end Go.AL
