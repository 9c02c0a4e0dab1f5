/- An abstract layer over the walk, 7: append. No program in sight. -/
import Derived.Test.YtnahhdbheeinfaaAlHeap
namespace Go.AL

/-- The elements' cells, one element behind the other. -/
def Flat (P : Program) (w : World) (F : Fz) (μ : Mu) (ty sz : Nat) : List A → List Value → Prop
  | [], news => news = []
  | x :: es, news => ∃ V rest, news = V.cells.toList ++ rest ∧ shp P ty x = true ∧ Rep P w F μ x V ∧ V.cells.size = sz ∧ (∀ u ∈ V.cells.toList, u.oneCell' = true) ∧ Flat P w F μ ty sz es rest

section
variable {P : Program} {w : World} {F : Fz} {μ : Mu} {ty sz : Nat}

theorem Flat.len : ∀ {es : List A} {news : List Value}, Flat P w F μ ty sz es news → news.length = es.length * sz
  | [], _, h => by simp [Flat] at h; subst h; simp
  | x :: es, news, ⟨V, rest, h1, _, _, h4, _, h6⟩ => by
    subst h1
    simp only [List.length_append, List.length_cons, Array.length_toList, h4, h6.len, Nat.add_mul]
    omega

theorem Flat.one : ∀ {es : List A} {news : List Value}, Flat P w F μ ty sz es news → ∀ u ∈ news, u.oneCell' = true
  | [], _, h => by simp [Flat] at h; subst h; simp
  | x :: es, news, ⟨V, rest, h1, _, _, _, h5, h6⟩ => by
    subst h1
    intro u hu
    rcases List.mem_append.1 hu with hu | hu
    · exact h5 u hu
    · exact h6.one u hu

theorem Flat.app : ∀ {es es2 : List A} {news news2 : List Value}, Flat P w F μ ty sz es news → Flat P w F μ ty sz es2 news2 → Flat P w F μ ty sz (es ++ es2) (news ++ news2)
  | [], _, _, _, h, k => by simp [Flat] at h; subst h; simpa using k
  | x :: es, es2, news, news2, ⟨V, rest, h1, h2, h3, h4, h5, h6⟩, k => ⟨V, rest ++ news2, by rw [h1, List.append_assoc], h2, h3, h4, h5, h6.app k⟩

theorem Flat.at : ∀ {es : List A} {news : List Value}, Flat P w F μ ty sz es news → ∀ (k : Nat) (e : A), es[k]? = some e → shp P ty e = true ∧ ∃ V, Rep P w F μ e V ∧ ∀ (j : Nat) (u : Value), V.cells[j]? = some u → news[k * sz + j]? = some u
  | [], _, _, k, e, he => by simp at he
  | x :: es, news, ⟨V, rest, h1, h2, h3, h4, h5, h6⟩, 0, e, he => by
    simp at he; subst he; subst h1
    refine ⟨h2, V, h3, fun j u hu => ?_⟩
    have hj := (Array.getElem?_eq_some_iff.1 hu).1
    rw [Nat.zero_mul, Nat.zero_add, List.getElem?_append_left (by simpa using hj)]
    simpa using hu
  | x :: es, news, ⟨V, rest, h1, h2, h3, h4, h5, h6⟩, k + 1, e, he => by
    simp at he; subst h1
    obtain ⟨g1, V', g2, g3⟩ := h6.at k e he
    refine ⟨g1, V', g2, fun j u hu => ?_⟩
    have := g3 j u hu
    have hl : V.cells.toList.length = sz := by simpa using h4
    rw [List.getElem?_append_right (by rw [hl, Nat.add_mul]; omega), hl]
    rw [show (k + 1) * sz + j - sz = k * sz + j by rw [Nat.add_mul]; omega]
    exact this

theorem Flat.laid {es : List A} {news : List Value} (h : Flat P w F μ ty sz es news) {cur : Array Value} {bs : Nat} (hc : ∀ (k : Nat) (u : Value), news[k]? = some u → cur[bs + k]? = some u) : Laid P w F μ ty sz es cur bs := by
  intro k e he
  obtain ⟨g1, V, g2, g3⟩ := h.at k e he
  exact ⟨g1, V, g2, fun j u hu => by rw [Nat.add_assoc]; exact hc _ u (g3 j u hu)⟩

theorem flat_of (hz : sz = P.cellsOf ty) (hz0 : sz ≠ 0) (get : Nat → Option Value) : ∀ (es : List A) (o : Nat), (∀ (k : Nat) (e : A), es[k]? = some e → shp P ty e = true ∧ ∃ V, Rep P w F μ e V ∧ ∀ (j : Nat) (u : Value), V.cells[j]? = some u → get (o + k * sz + j) = some u) →
    ∃ news, Flat P w F μ ty sz es news ∧ ∀ (k : Nat) (u : Value), news[k]? = some u → get (o + k) = some u
  | [], _, _ => ⟨[], rfl, by simp⟩
  | x :: es, o, h => by
    obtain ⟨h1, V, h2, h3⟩ := h 0 x (by simp)
    obtain ⟨hs, h1c⟩ := shp_cells h1 h2 (by omega)
    obtain ⟨rest, g1, g2⟩ := flat_of hz hz0 get es (o + sz) (fun k e he => by
      obtain ⟨k1, V', k2, k3⟩ := h (k + 1) e (by simpa using he)
      exact ⟨k1, V', k2, fun j u hu => by have := k3 j u hu; rw [show o + sz + k * sz + j = o + (k + 1) * sz + j by rw [Nat.add_mul]; omega]; exact this⟩)
    refine ⟨V.cells.toList ++ rest, ⟨V, rest, rfl, h1, h2, by omega, h1c, g1⟩, ?_⟩
    intro k u hu
    have hl : V.cells.toList.length = sz := by simp; omega
    by_cases hk : k < sz
    · rw [List.getElem?_append_left (by omega)] at hu
      have := h3 k u (by simpa using hu)
      simpa using this
    · rw [List.getElem?_append_right (by omega), hl] at hu
      have := g2 _ u hu
      rw [show o + sz + (k - sz) = o + k by omega] at this
      exact this
end

/-- The elements of a slice that is read. -/
def asrc (P : Program) (H : List Row) (e : TypeId) (x : A) : Option (List A) :=
  match x with
  | .sl _ es => if es.all (fun x => shp P e x) then some es else none
  | .own id off len _ _ => if len = 0 then some [] else (H[id]?).bind fun r => if r.live = true ∧ r.ty = e ∧ off + len ≤ r.es.length then some ((r.es.drop off).take len) else none
  | _ => none

theorem s_asrc {P : Program} {H : List Row} {e : TypeId} {x : A} {es : List A} {v : Value} {w : World} {F0 : Fz} {μ : Mu} (hs : HS P w F0 μ H) (hx : Rep P w (Ft F0 μ H) μ x v) (hz : P.cellsOf e ≠ 0) (h : asrc P H e x = some es) :
    ∃ a c news, v = .slice a es.length c ∧ Flat P w (Ft F0 μ H) μ e (P.cellsOf e) es news ∧ (a = none → es = []) ∧ es.length ≤ c ∧
      (es = [] ∨ ∀ ad, a = some ad → ∃ b o, ad = ⟨b, o, none⟩ ∧ ∀ (k : Nat) (u : Value), news[k]? = some u → w.cell? ⟨b, o + k, none⟩ = some u) := by
  unfold asrc at h
  split at h
  · rename_i full es'
    split at h
    · rename_i ha; cases h
      cases hx with
      | slnil _ _ a => exact ⟨a, 0, [], rfl, rfl, fun _ => rfl, Nat.le_refl _, .inl rfl⟩
      | sl _ _ _ b off n cap sz V hn hcap hmax hfull hsz hrep hcell =>
        obtain ⟨news, h1, h2⟩ := flat_of (P := P) (w := w) (F := Ft F0 μ H) (μ := μ) (ty := e) rfl hz (fun o => w.cell? ⟨b, o, none⟩) es off (fun k x hx => by
          have hsh := List.all_eq_true.1 ha x (List.mem_of_getElem? hx)
          refine ⟨hsh, V k, (hrep k x hx).mono (fun _ _ _ h => h) List.nil_prefix, fun j u hu => ?_⟩
          have := (hcell k x hx j u hu).2.1
          have hss := hsz k x hx
          rw [shp_ncells hsh hz] at hss
          rw [hss]; exact this)
        exact ⟨_, cap, news, by rw [hn], h1, (by intro h; cases h), by omega, .inr fun ad had => by cases had; exact ⟨b, off, rfl, h2⟩⟩
    · cases h
  · rename_i id off len cb ex
    by_cases hl0 : len = 0
    · subst hl0
      simp at h; subst h
      cases hx with
      | own _ _ _ _ _ _ b bs cap ty n hμ hsh hfit hlen hcb hmax hex ao hat => exact ⟨_, cap, [], rfl, rfl, fun _ => rfl, Nat.zero_le _, .inl rfl⟩
      | ownn _ _ _ a => exact ⟨a, 0, [], rfl, rfl, fun _ => rfl, Nat.zero_le _, .inl rfl⟩
    rw [if_neg hl0] at h
    obtain ⟨r, hr, h⟩ := Option.bind_eq_some_iff.1 h
    split at h
    · rename_i hc; cases h
      obtain ⟨hl, hty, hle⟩ := hc
      cases hx with | ownn _ _ _ a => exact (hl0 rfl).elim | own _ _ _ _ _ _ b bs cap ty n hμ hsh hfit hlen hcb hmax hex ao hat =>
      obtain rfl := hat (by omega)
      obtain ⟨cur, h1, h2, h3, h4, h5⟩ := hs.cells hr hl hμ hsh
      have hte : ty = e := by
        simp only [World.shape?, h1] at hsh
        simp at hsh; rw [← hsh.1, hty]
      subst hte
      rw [hty] at h2
      obtain ⟨news, g1, g2⟩ := flat_of (P := P) (w := w) (F := Ft F0 μ H) (μ := μ) (ty := ty) rfl hz (fun o => w.cell? ⟨b, o, none⟩) ((r.es.drop off).take len) (bs + off * P.cellsOf ty) (fun k x hx => by
        simp only [List.getElem?_take, List.getElem?_drop] at hx
        split at hx
        · obtain ⟨k1, V, k2, k3⟩ := h5 _ x hx
          rw [hty] at k1
          refine ⟨k1, V, k2, fun j u hu => ?_⟩
          have := k3 j u hu
          show w.cell? _ = _
          rw [cell_of_row w b _ cur r.ty (0, 0) h1]
          rw [h2] at this
          rw [show bs + off * P.cellsOf ty + k * P.cellsOf ty + j = bs + (off + k) * P.cellsOf ty + j by rw [Nat.add_mul]; omega]
          exact this
        · cases hx)
      have hlen' : ((r.es.drop off).take len).length = len := by simp; omega
      exact ⟨_, cap, news, by rw [hlen'], g1, (by intro h; cases h), by omega, .inr fun ad had => by cases had; exact ⟨b, _, rfl, g2⟩⟩
    · cases h
  · cases h

section
variable {P : Program}

theorem run_first {w : World} {size n : Nat} {a : Option Addr} {m c : Nat} {news : List Value} (hl : news.length = n * size) (hn : a = none → n = 0)
    (hc : n = 0 ∨ ∀ ad, a = some ad → ∃ b o, ad = ⟨b, o, none⟩ ∧ ∀ (k : Nat) (u : Value), news[k]? = some u → w.cell? ⟨b, o + k, none⟩ = some u) (w' : World) (hw : w'.heap = w.heap) :
    (Builtin.firstCells size n (.slice a m c)).run P w' = .ok news.toArray w' := by
  cases a with
  | none =>
    have : n = 0 := hn rfl
    subst this
    have : news = [] := by simpa using hl
    subst this
    simp [Builtin.firstCells]
  | some ad =>
    refine run_firstCells_some w' size n _ m c news hl ?_
    rcases hc with rfl | hc
    · have : news = [] := by simpa using hl
      subst this
      intro j v hv
      simp at hv
    obtain ⟨b, o, rfl, hc2⟩ := hc ad rfl
    intro j v hv
    rw [Addr.add_lit]
    have := hc2 j v hv
    simpa [World.cell?, hw] using this

theorem run_appendGrow (w : World) (t ty e : TypeId) (ts : Array TypeId) (i : TypeInfo) (z : Value) (h0 : ts[0]? = some t) (h1 : ∃ t', ts[1]? = some t' ∧ ∃ e', P.underlying t' = some (.slice e')) (ht : P.underlying t = some (.slice e)) (hi : P.info? e = some i) (hz : i.zero = some z)
    (sa xa : Option Addr) (sLen sCap n c : Nat) (olds news : List Value)
    (hfo : ∀ w', w'.heap = w.heap → (Builtin.firstCells i.size sLen (.slice sa sLen sCap)).run P w' = .ok olds.toArray w')
    (hf : ∀ w', w'.heap = w.heap → (Builtin.firstCells i.size n (.slice xa n c)).run P w' = .ok news.toArray w')
    (hg : sCap < sLen + n) (h63 : sLen + n ≤ 9223372036854775807) (hfit : (sLen + n) * i.bytes ≤ 140737488355328) :
    (Builtin.append_ ts ty #[.slice sa sLen sCap, .slice xa n c]).run P w =
      .ok (.slice (some ⟨w.heap.size, 0, none⟩) (sLen + n) (grownCap w (sLen + n) sCap e))
        (w.drew.alloc (.cells (olds.toArray ++ news.toArray ++ Builtin.zeroCells z.cells (grownCap w (sLen + n) sCap e - (sLen + n))) e)) := by
  obtain ⟨t', h1, e', hu'⟩ := h1
  have hn : ¬ (sLen + n ≤ sCap) := by omega
  have h63' : ¬ (9223372036854775807 < ((sLen : Int) + (n : Int))) := by omega
  have hng := growslice_fits (bytes := i.bytes) hg hfit
  have h48' : ¬ (281474976710656 < Builtin.nextslicecap (sLen + n) sCap * i.bytes) := by omega
  have a1 := hfo w.drew rfl
  have a2 := hf w.drew rfl
  simp [Builtin.append_, h0, h1, run_underlying ht, run_underlying hu', sizeOf, typeInfo, zeroValue, hi, hz, Builtin.lenOf, hn, h63', h48', Question.forced, a1, a2, newRow, grownCap]
  congr 2
  apply Array.ext'
  simp

theorem run_appendRoom (w : World) (t ty e : TypeId) (ts : Array TypeId) (i : TypeInfo) (h0 : ts[0]? = some t) (h1 : ∃ t', ts[1]? = some t' ∧ ∃ e', P.underlying t' = some (.slice e')) (ht : P.underlying t = some (.slice e)) (hi : P.info? e = some i)
    (xa : Option Addr) (b o sLen sCap n c : Nat) (news : List Value) (cur : Array Value) (cty : TypeId)
    (hf : (Builtin.firstCells i.size n (.slice xa n c)).run P w = .ok news.toArray w)
    (hc : w.heap[b]? = some (.cells cur cty (0, 0))) (hroom : sLen + n ≤ sCap) (hfit : o + sLen * i.size + news.length ≤ cur.size) (hone : ∀ u ∈ news, u.oneCell' = true) :
    (Builtin.append_ ts ty #[.slice (some ⟨b, o, none⟩) sLen sCap, .slice xa n c]).run P w =
      .ok (.slice (some ⟨b, o, none⟩) (sLen + n) sCap) (w.setRow b (cur.toList.take (o + sLen * i.size) ++ news ++ cur.toList.drop (o + sLen * i.size + news.length)).toArray) := by
  obtain ⟨t', h1, e', hu'⟩ := h1
  have hst := run_storeCells_at P b (o + sLen * i.size) cty news 0 cur w hc (by omega) hone
  simp only [Nat.add_zero] at hst
  simp [Builtin.append_, h0, h1, run_underlying ht, run_underlying hu', sizeOf, typeInfo, hi, Builtin.lenOf, hroom, hf, Addr.add_lit, hst]

theorem run_appendNone (w : World) (t ty e : TypeId) (ts : Array TypeId) (i : TypeInfo) (h0 : ts[0]? = some t) (h1 : ∃ t', ts[1]? = some t' ∧ ∃ e', P.underlying t' = some (.slice e')) (ht : P.underlying t = some (.slice e)) (hi : P.info? e = some i)
    (sa xa : Option Addr) (sLen sCap c : Nat) (hf : (Builtin.firstCells i.size 0 (.slice xa 0 c)).run P w = .ok #[] w) (hroom : sLen ≤ sCap) :
    (Builtin.append_ ts ty #[.slice sa sLen sCap, .slice xa 0 c]).run P w = .ok (.slice sa sLen sCap) w := by
  obtain ⟨t', h1, e', hu'⟩ := h1
  cases sa with
  | none => simp [Builtin.append_, h0, h1, run_underlying ht, run_underlying hu', sizeOf, typeInfo, hi, Builtin.lenOf, hroom, hf]
  | some a => simp [Builtin.append_, h0, h1, run_underlying ht, run_underlying hu', sizeOf, typeInfo, hi, Builtin.lenOf, hroom, hf, storeCells]
end

def isSliceT (P : Program) (t : TypeId) : Bool := match P.underlying t with | some (.slice _) => true | _ => false

/-- A row that nobody knows of. -/
def dead0 : Row := ⟨0, 1, [], 0, false⟩

/-- Behind the elements that are there: those that come. -/
def agrow (P : Program) (H : List Row) (e : TypeId) (s : A) (olds news : List A) : Option (A × List Row) :=
  match s with
  | .sl full _ =>
    if news.length = 0 then some (s, H)
    else if full then some (.own H.length 0 (olds.length + news.length) (olds.length + news.length) false, H ++ [⟨e, P.cellsOf e, olds ++ news, 0, true⟩])
    else none
  | .own id off len cb ex =>
    if news.length = 0 then some (s, H)
    else if ex && cb == len then some (.own H.length 0 (olds.length + news.length) (olds.length + news.length) false, (if len = 0 then H.set id dead0 else H) ++ [⟨e, P.cellsOf e, olds ++ news, 0, true⟩])
    else (H[id]?).bind fun r =>
      if r.live = true ∧ r.ty = e ∧ off + len ≤ r.es.length then
        if len + news.length ≤ cb ∧ off + len + news.length ≤ r.es.length ∧ r.f ≤ off + len then
          some (.own id off (len + news.length) cb ex, H.set id { r with es := r.es.take (off + len) ++ news ++ r.es.drop (off + len + news.length) })
        else if off + len = r.es.length ∧ r.f ≤ off + len then
          some (.own H.length 0 (olds.length + news.length) (olds.length + news.length) false, H.set id dead0 ++ [⟨e, P.cellsOf e, olds ++ news, r.f - off, true⟩])
        else none
      else none
  | _ => none

def aappend (P : Program) (H : List Row) (ts : Array TypeId) (s x : A) : Option (A × List Row) :=
  match ts[0]?, ts[1]? with
  | some t, some t' =>
    match P.underlying t with
    | some (.slice e) =>
      match zbox P e with
      | some (_, bytes) =>
        if isSliceT P t' ∧ P.cellsOf e ≠ 0 then
          (asrc P H e s).bind fun olds => (asrc P H e x).bind fun news =>
            if olds.length + news.length ≤ 9223372036854775807 ∧ (olds.length + news.length) * bytes ≤ 140737488355328 then agrow P H e s olds news
            else none
        else none
      | none => none
    | _ => none
  | _, _ => none

theorem maxLen_eq : maxLen = 9223372036854775807 := by unfold maxLen; decide

theorem grown_le (w : World) (need old : Nat) (e : TypeId) (h : need ≤ 9223372036854775807) : need ≤ grownCap w need old e ∧ grownCap w need old e ≤ maxLen :=
  ⟨grownCap_ge w need old e, grownCap_le_maxLen w need old e (by rw [maxLen_eq]; exact h)⟩

/-- A new row behind a draw. -/
theorem newOwn {P : Program} {w : World} {F0 : Fz} {μ : Mu} {H : List Row} (hs : HS P w F0 μ H) {e cap : Nat} {es : List A} {vals : List Value} {pad : Array Value} (hz : P.cellsOf e ≠ 0) (hfl : Flat P w (Ft F0 μ H) μ e (P.cellsOf e) es vals)
    (hmax : cap ≤ maxLen) (hpad : vals.length + pad.size = cap * P.cellsOf e) (cb : Nat) (ex : Bool) (f : Nat) (hcb : es.length ≤ cb) (hcc : cb ≤ cap) (hex : ex = true → cap = cb) (w' : World) (hp : Pushed w w' (.cells (vals.toArray ++ pad) e)) :
    HS P w' F0 (μ ++ [(w.heap.size, 0)]) (H ++ [⟨e, P.cellsOf e, es, f, true⟩]) ∧ Adv w (Fof μ H) w' (Fof (μ ++ [(w.heap.size, 0)]) (H ++ [⟨e, P.cellsOf e, es, f, true⟩])) ∧
    Rep P w' (Ft F0 (μ ++ [(w.heap.size, 0)]) (H ++ [⟨e, P.cellsOf e, es, f, true⟩])) (μ ++ [(w.heap.size, 0)]) (.own H.length 0 es.length cb ex) (.slice (some ⟨w.heap.size, 0, none⟩) es.length cap) := by
  have hl := hfl.len
  obtain ⟨h1, h2⟩ := hs.newRow (f := f) hp rfl hz (by simp; omega) (hfl.laid (fun k u hu => by
    have hk := (List.getElem?_eq_some_iff.1 hu).1
    rw [Nat.zero_add, Array.getElem?_append_left (by simpa using hk)]
    simpa using hu))
  refine ⟨h1, h2, ?_⟩
  have := Rep.own (P := P) (w := w') (F := Ft F0 (μ ++ [(w.heap.size, 0)]) (H ++ [⟨e, P.cellsOf e, es, f, true⟩])) (μ ++ [(w.heap.size, 0)]) H.length 0 es.length cb ex w.heap.size 0 cap e (cap * P.cellsOf e) (by
      rw [List.getElem?_append_right (by rw [hs.len]; exact Nat.le_refl _), hs.len]; simp) (by
      simp only [World.shape?, hp.new]; simp; omega) (by simp) hcb hcc hmax hex
  simpa using this 0 (fun _ => by simp)

def Res (P : Program) (w : World) (F0 : Fz) (μ : Mu) (H : List Row) (v' : Value) (w' : World) (r : A) (H' : List Row) : Prop :=
  ∃ μ', HS P w' F0 μ' H' ∧ Adv w (Fof μ H) w' (Fof μ' H') ∧ μ <+: μ' ∧ Rep P w' (Ft F0 μ' H') μ' r v'

theorem Res.same {P : Program} {w : World} {F0 : Fz} {μ : Mu} {H : List Row} {v : Value} {r : A} (hs : HS P w F0 μ H) (hr : Rep P w (Ft F0 μ H) μ r v) : Res P w F0 μ H v w r H :=
  ⟨μ, hs, Adv.refl _ _, List.prefix_refl _, hr⟩

theorem Adv.drew {w : World} (F : Fz) : Adv w F w.drew F := ⟨rfl, rfl, rfl, Nat.le_refl _, fun _ _ _ h _ => h, fun _ _ _ h => h, fun _ _ _ h => h, fun _ _ _ => rfl⟩

theorem pushed_drew_alloc (w : World) (o : Obj) : Pushed w (w.drew.alloc o) o := ⟨rfl, rfl, rfl, rfl⟩
theorem pushed_alloc (w : World) (o : Obj) : Pushed w (w.alloc o) o := ⟨rfl, rfl, rfl, rfl⟩

theorem size_zeroC (z : Array Value) (n : Nat) : (Builtin.zeroCells z n).size = n * z.size := by simp [Builtin.zeroCells]

/-- 'append' that makes a new array. -/
theorem s_grow {P : Program} {w : World} {F0 : Fz} {μ : Mu} {H : List Row} (hs : HS P w F0 μ H) {t ty e : TypeId} {ts : Array TypeId} {inf : TypeInfo} {z : Value} (h0 : ts[0]? = some t) (h1 : ∃ t', ts[1]? = some t' ∧ ∃ e', P.underlying t' = some (.slice e'))
    (ht : P.underlying t = some (.slice e)) (hi : P.info? e = some inf) (hz : inf.zero = some z) (hzs : z.cells.size = inf.size) (hnz : P.cellsOf e ≠ 0) {olds news : List A} {va vx : Option Addr} {ca cx : Nat} {lo ln : List Value}
    (fo : Flat P w (Ft F0 μ H) μ e (P.cellsOf e) olds lo) (no : va = none → olds = []) (co : olds = [] ∨ ∀ ad, va = some ad → ∃ b o, ad = ⟨b, o, none⟩ ∧ ∀ (k : Nat) (u : Value), lo[k]? = some u → w.cell? ⟨b, o + k, none⟩ = some u)
    (fn : Flat P w (Ft F0 μ H) μ e (P.cellsOf e) news ln) (nn : vx = none → news = []) (cn : news = [] ∨ ∀ ad, vx = some ad → ∃ b o, ad = ⟨b, o, none⟩ ∧ ∀ (k : Nat) (u : Value), ln[k]? = some u → w.cell? ⟨b, o + k, none⟩ = some u)
    (hlen : olds.length + news.length ≤ 9223372036854775807) (hby : (olds.length + news.length) * inf.bytes ≤ 140737488355328) (hg : ca < olds.length + news.length) (f : Nat) :
    ∃ v' w', (Builtin.append_ ts ty #[.slice va olds.length ca, .slice vx news.length cx]).run P w = .ok v' w' ∧
      Res P w F0 μ H v' w' (.own H.length 0 (olds.length + news.length) (olds.length + news.length) false) (H ++ [⟨e, P.cellsOf e, olds ++ news, f, true⟩]) := by
  have hci := cellsOf_info hi
  have r := run_appendGrow (P := P) w t ty e ts inf z h0 h1 ht hi hz va vx olds.length ca news.length cx lo ln
    (fun w' hw => run_first (by rw [fo.len, hci]) (fun h => by simp [no h]) (co.imp (fun h => by simp [h]) id) w' hw) (fun w' hw => run_first (by rw [fn.len, hci]) (fun h => by simp [nn h]) (cn.imp (fun h => by simp [h]) id) w' hw) hg hlen hby
  refine ⟨_, _, r, ?_⟩
  have hgc := grown_le w (olds.length + news.length) ca e hlen
  have hd : (lo.toArray ++ ln.toArray : Array Value) = (lo ++ ln).toArray := by simp
  rw [hd]
  have := newOwn hs (e := e) (cap := grownCap w (olds.length + news.length) ca e) (es := olds ++ news) (vals := lo ++ ln) (pad := Builtin.zeroCells z.cells (grownCap w (olds.length + news.length) ca e - (olds.length + news.length))) hnz (fo.app fn)
    hgc.2 (by rw [size_zeroC, hzs, ← hci, List.length_append, fo.len, fn.len, ← Nat.add_mul, ← Nat.add_mul]; congr 1; omega) (olds.length + news.length) false f (by simp) (by omega) (by simp) _ (pushed_drew_alloc w _)
  obtain ⟨k1, k2, k3⟩ := this
  refine ⟨_, k1, k2, List.prefix_append _ _, ?_⟩
  simpa using k3

theorem zero_size {P : Program} {t : TypeId} {inf : TypeInfo} {z : Value} (_ : P.info? t = some inf) (_ : inf.zero = some z) (h : z.cells.size = inf.size) : z.cells.size = inf.size := h

theorem splice_size (cur : Array Value) (ln : List Value) (q : Nat) (h : q + ln.length ≤ cur.size) : (cur.toList.take q ++ ln ++ cur.toList.drop (q + ln.length)).toArray.size = cur.size := by
  simp; omega

theorem splice_get (cur : Array Value) (ln : List Value) (q : Nat) (h : q + ln.length ≤ cur.size) (x : Nat) :
    (cur.toList.take q ++ ln ++ cur.toList.drop (q + ln.length)).toArray[x]? = if x < q then cur[x]? else if x < q + ln.length then ln[x - q]? else cur[x]? := by
  have h1 : (cur.toList.take q).length = q := by simp; omega
  simp only [List.getElem?_toArray]
  by_cases hx : x < q
  · rw [if_pos hx, List.append_assoc, List.getElem?_append_left (by omega), List.getElem?_take, if_pos hx]; simp
  · rw [if_neg hx]
    by_cases hy : x < q + ln.length
    · rw [if_pos hy, List.getElem?_append_left (by simp; omega), List.getElem?_append_right (by omega), h1]
    · rw [if_neg hy, List.getElem?_append_right (by simp; omega)]
      simp only [List.length_append, h1, List.getElem?_drop]
      rw [show q + ln.length + (x - (q + ln.length)) = x by omega]; simp

theorem Laid.to {P : Program} {w : World} {F : Fz} {μ : Mu} {ty sz ty' sz' : Nat} {es : List A} {cur : Array Value} {bs : Nat} (h : Laid P w F μ ty sz es cur bs) (h1 : ty = ty') (h2 : sz = sz') : Laid P w F μ ty' sz' es cur bs := by
  subst h1; subst h2; exact h

/-- Rows of which a middle part has been written. -/
theorem laid_splice {P : Program} {w : World} {F : Fz} {μ : Mu} {ty p q bs : Nat} {es news : List A} {ln : List Value} {cur cur' : Array Value} (h : Laid P w F μ ty (P.cellsOf ty) es cur bs) (fn : Flat P w F μ ty (P.cellsOf ty) news ln)
    (hz : P.cellsOf ty ≠ 0) (hp : p ≤ es.length) (hq : bs + p * P.cellsOf ty = q) (g1 : ∀ x, x < q → cur'[x]? = cur[x]?) (g2 : ∀ (k : Nat) (u : Value), ln[k]? = some u → cur'[q + k]? = some u)
    (g3 : ∀ x, q + news.length * P.cellsOf ty ≤ x → cur'[x]? = cur[x]?) : Laid P w F μ ty (P.cellsOf ty) (es.take p ++ news ++ es.drop (p + news.length)) cur' bs := by
  intro k e he
  have hl1 : (es.take p).length = p := by simp; omega
  by_cases hk : k < p
  · rw [List.append_assoc, List.getElem?_append_left (by omega), List.getElem?_take, if_pos hk] at he
    obtain ⟨k1, V, k2, k3⟩ := h k e he
    refine ⟨k1, V, k2, fun j u hu => ?_⟩
    have hj : j < P.cellsOf ty := by have := (Array.getElem?_eq_some_iff.1 hu).1; rw [(shp_cells k1 k2 hz).1] at this; exact this
    rw [g1 _ ?_]
    · exact k3 j u hu
    · have := Nat.mul_le_mul_right (P.cellsOf ty) (show k + 1 ≤ p by omega)
      rw [Nat.add_mul] at this; omega
  · by_cases hk2 : k < p + news.length
    · rw [List.getElem?_append_left (by simp; omega), List.getElem?_append_right (by omega), hl1] at he
      obtain ⟨k1, V, k2, k3⟩ := fn.at _ e he
      refine ⟨k1, V, k2, fun j u hu => ?_⟩
      have := g2 _ u (k3 j u hu)
      rw [← hq] at this
      have e1 : k * P.cellsOf ty = p * P.cellsOf ty + (k - p) * P.cellsOf ty := by rw [← Nat.add_mul]; congr 1; omega
      rw [show bs + k * P.cellsOf ty + j = bs + p * P.cellsOf ty + ((k - p) * P.cellsOf ty + j) by omega]
      exact this
    · rw [List.getElem?_append_right (by simp; omega)] at he
      simp only [List.length_append, hl1, List.getElem?_drop] at he
      rw [show p + news.length + (k - (p + news.length)) = k by omega] at he
      obtain ⟨k1, V, k2, k3⟩ := h k e he
      refine ⟨k1, V, k2, fun j u hu => ?_⟩
      rw [g3 _ ?_]
      · exact k3 j u hu
      · have := Nat.mul_le_mul_right (P.cellsOf ty) (show p + news.length ≤ k by omega)
        rw [Nat.add_mul] at this; omega

def zeroOK (inf : TypeInfo) : Bool := match inf.zero with | some z => z.cells.size == inf.size | none => false

theorem s_aappend {P : Program} {w : World} {F0 : Fz} {μ : Mu} {H H' : List Row} {ts : Array TypeId} {ty : TypeId} {s x r : A} {vs vx : Value} (hs : HS P w F0 μ H)
    (hS : Rep P w (Ft F0 μ H) μ s vs) (hX : Rep P w (Ft F0 μ H) μ x vx) (h : aappend P H ts s x = some (r, H')) :
    ∃ v' w', (Builtin.append_ ts ty #[vs, vx]).run P w = .ok v' w' ∧ Res P w F0 μ H v' w' r H' := by
  unfold aappend at h
  split at h
  case h_2 => cases h
  rename_i t t' ht0 ht1
  split at h
  case h_2 => cases h
  rename_i e hu
  split at h
  case h_2 => cases h
  rename_i z0 bytes hzb
  obtain ⟨inf, z, hinf, hz, hzs, _, rfl⟩ := zbox_some hzb
  split at h
  case isFalse => cases h
  rename_i hc
  obtain ⟨hst, hnz⟩ := hc
  have h1 : ∃ t', ts[1]? = some t' ∧ ∃ e', P.underlying t' = some (.slice e') := by
    refine ⟨t', ht1, ?_⟩
    unfold isSliceT at hst
    split at hst
    · rename_i e' he'; exact ⟨e', he'⟩
    · cases hst
  obtain ⟨olds, ho, h⟩ := Option.bind_eq_some_iff.1 h
  obtain ⟨news, hn, h⟩ := Option.bind_eq_some_iff.1 h
  split at h
  case isFalse => cases h
  rename_i hb
  obtain ⟨hlen, hby⟩ := hb
  obtain ⟨va, ca, lo, rfl, fo, no, hca, co⟩ := s_asrc hs hS hnz ho
  obtain ⟨vb, cb', ln, rfl, fn, nn, hcb', cn⟩ := s_asrc hs hX hnz hn
  have hci := cellsOf_info hinf
  have hfn := run_first (P := P) (size := inf.size) (m := news.length) (c := cb') (by rw [fn.len, hci]) (fun h => by simp [nn h]) (cn.imp (fun h => by simp [h]) id) w rfl
  have same : news.length = 0 → ∃ v' w', (Builtin.append_ ts ty #[.slice va olds.length ca, .slice vb news.length cb']).run P w = .ok v' w' ∧ Res P w F0 μ H v' w' s H := by
    intro h0
    have hn0 : news = [] := by simpa using h0
    subst hn0
    have hl0 : ln = [] := by have := fn.len; simpa using this
    subst hl0
    exact ⟨_, _, run_appendNone w t ty e ts inf ht0 h1 hu hinf va vb olds.length ca cb' (by simpa using hfn) hca, Res.same hs hS⟩
  unfold agrow at h
  split at h
  · rename_i full es
    split at h
    · rename_i h0; cases h; exact same h0
    · split at h
      · rename_i hnf; cases h
        have hcap : ca = olds.length := by
          unfold asrc at ho
          try simp only at ho
          split at ho
          · cases ho
            generalize hv : Value.slice va _ ca = v at hS
            cases hS with
            | slnil _ _ _ => cases hv; rfl
            | sl _ _ _ b off n cap sz V hn' hcap hmax hfull hsz hrep hcell =>
              cases hv
              exact hfull hnf
          · cases ho
        exact s_grow hs ht0 h1 hu hinf hz hzs hnz fo no co fn nn cn hlen hby (by omega) 0
      · cases h
  · rename_i id off len cb ex _ _
    split at h
    · rename_i h0; cases h; exact same h0
    rename_i hM0
    split at h
    · rename_i hfull
      cases h
      simp at hfull
      have hcap : ca = olds.length := by
        generalize hv : Value.slice va olds.length ca = v at hS
        cases hS with
        | own _ id off len cb ex b bs cap tyr n hμ hsh hfit hlen2 hcb hmax hex ao hat => cases hv; rw [hex hfull.1, hfull.2]
        | ownn _ _ _ a => simp at hv; omega
      have hg := s_grow (ty := ty) (ca := ca) (cx := cb') hs ht0 h1 hu hinf hz hzs hnz fo no co fn nn cn hlen hby (by omega) 0
      by_cases hl0 : len = 0
      · rw [if_pos hl0]
        obtain ⟨v', w', hrun, μ', hs1, hA1, hp1, hr1⟩ := hg
        refine ⟨v', w', hrun, ?_⟩
        by_cases hid : id < H.length
        · obtain ⟨hs2, hA2⟩ := hs1.kill (id := id) (d := dead0) rfl
          rw [List.set_append_left _ _ hid] at hs2 hA2
          exact ⟨μ', hs2, hA1.trans hA2, hp1, hr1.adv (hA2.join F0) (List.prefix_refl _)⟩
        · rw [List.set_eq_of_length_le (by omega)]
          exact ⟨μ', hs1, hA1, hp1, hr1⟩
      · rw [if_neg hl0]
        exact hg
    · rename_i hnfull
      generalize hv : Value.slice va olds.length ca = v at hS
      have hS' := hS
      cases hS with | ownn _ _ _ a => exact (hnfull rfl).elim | own _ id off len cb ex b bs cap tyr n hμ hsh hfit hlen2 hcb hmax hex ao hat =>
      cases hv
      have hll : olds.length = olds.length := rfl
      obtain ⟨row, hrow, h⟩ := Option.bind_eq_some_iff.1 h
      split at h
      case isFalse => cases h
      rename_i hro
      have ho : some ((row.es.drop off).take olds.length) = some olds := by
        simp only [asrc, hrow, Option.bind_some] at ho
        split at ho
        · rename_i hz0
          have : olds = [] := by simpa using hz0
          subst this
          simp
        · first | exact ho | (rw [if_pos hro] at ho; exact ho)
      have ho' := Option.some.inj ho
      obtain ⟨hlive, hrty, hrle⟩ := hro
      obtain ⟨cur, c1, c2, c3, c4, c5⟩ := hs.cells hrow hlive hμ hsh
      have htye : tyr = e := by
        simp only [World.shape?, c1] at hsh
        simp at hsh; rw [← hsh.1, hrty]
      subst htye
      have hcs : cur.size = n := by
        simp only [World.shape?, c1] at hsh
        simp at hsh; exact hsh.2
      have hrs : row.sz = P.cellsOf tyr := by rw [c2, hrty]
      obtain ⟨rty, rsz, res, rf, rl⟩ := row
      simp only at hrty hrs hlive hrle ho' c1 c2 c3 c4 c5 h
      subst hrty hrs hlive
      have hid : id < H.length := (List.getElem?_eq_some_iff.1 hrow).1
      generalize hN : olds.length = N at *
      generalize hM : news.length = M at *
      have hlnl : ln.length = M * P.cellsOf rty := by rw [fn.len, hM]
      split at h
      · rename_i hB
        obtain ⟨hB1, hB2, hB3⟩ := hB
        cases h
        obtain rfl := hat (by omega)
        have hmul : (off + N + M) * P.cellsOf rty ≤ res.length * P.cellsOf rty := Nat.mul_le_mul_right _ hB2
        have e1 : (off + N + M) * P.cellsOf rty = off * P.cellsOf rty + N * P.cellsOf rty + M * P.cellsOf rty := by rw [Nat.add_mul, Nat.add_mul]
        have hrun := run_appendRoom (P := P) w t ty rty ts inf ht0 h1 hu hinf vb b (bs + off * P.cellsOf rty) N ca M cb' ln cur rty hfn c1 (by omega) (by rw [← hci, hlnl]; omega) fn.one
        refine ⟨_, _, hrun, ?_⟩
        have hp : bs + off * P.cellsOf rty + N * inf.size = bs + (off + N) * P.cellsOf rty := by rw [← hci, Nat.add_mul]; omega
        rw [hp]
        generalize hq : bs + (off + N) * P.cellsOf rty = q
        have hqn : q + ln.length ≤ cur.size := by rw [← hq, hlnl, Nat.add_mul]; omega
        have hget := splice_get cur ln q hqn
        have hw := hs.write (es' := res.take (off + N) ++ news ++ res.drop (off + N + M)) (cur' := (cur.toList.take q ++ ln ++ cur.toList.drop (q + ln.length)).toArray) hrow rfl hμ c1 rfl (splice_size cur ln q hqn)
          (by
            intro o ho
            rw [hget, if_pos]
            have := Nat.mul_le_mul_right (P.cellsOf rty) hB3
            simp only at ho; omega)
          (by
            have : (res.take (off + N) ++ news ++ res.drop (off + N + M)).length = res.length := by simp; omega
            rw [this]; exact c4)
          (by
            simp only
            rw [← hM]
            refine laid_splice c5 fn (by omega) (by omega) hq ?_ ?_ ?_
            · intro x hx; rw [hget, if_pos hx]
            · intro k u hk; rw [hget, if_neg (by omega), if_pos (by have := (List.getElem?_eq_some_iff.1 hk).1; omega), show q + k - q = k by omega]; exact hk
            · intro x hx; rw [hM] at hx; rw [hget, if_neg (by omega), if_neg (by rw [hlnl]; omega)])
        refine ⟨μ, hw.1, hw.2, List.prefix_refl _, ?_⟩
        refine .own _ _ _ _ _ _ b bs ca rty n hμ ?_ hfit (by omega) hcb hmax hex _ (fun _ => rfl)
        have := hw.2.shape b rty n hsh
        exact this
      · split at h
        · rename_i hC
          obtain ⟨hC1, hC2⟩ := hC
          cases h
          have hdrop : res.drop off = olds := by
            rw [← ho', List.take_of_length_le (by simp; omega)]
          by_cases hroom : N + M ≤ ca
          · obtain rfl := hat (by omega)
            have hrun := run_appendRoom (P := P) w t ty rty ts inf ht0 h1 hu hinf vb b (bs + off * P.cellsOf rty) N ca M cb' ln cur rty hfn c1 hroom (by
              have := Nat.mul_le_mul_right (P.cellsOf rty) (show off + (N + M) ≤ off + ca by omega)
              have e2 : (off + (N + M)) * P.cellsOf rty = off * P.cellsOf rty + N * P.cellsOf rty + M * P.cellsOf rty := by rw [Nat.add_mul, Nat.add_mul]; omega
              rw [← hci, hlnl, hcs]; omega) fn.one
            refine ⟨_, _, hrun, ?_⟩
            have hp : bs + off * P.cellsOf rty + N * inf.size = bs + (off + N) * P.cellsOf rty := by rw [← hci, Nat.add_mul]; omega
            rw [hp]
            generalize hq : bs + (off + N) * P.cellsOf rty = q
            have hqn : q + ln.length ≤ cur.size := by
              have := Nat.mul_le_mul_right (P.cellsOf rty) (show off + (N + M) ≤ off + ca by omega)
              have e2 : (off + (N + M)) * P.cellsOf rty = (off + N) * P.cellsOf rty + M * P.cellsOf rty := by rw [← Nat.add_mul]; congr 1; omega
              rw [← hq, hlnl, hcs]; omega
            have hget := splice_get cur ln q hqn
            have hw := hs.write (es' := res.take (off + N) ++ news ++ res.drop (off + N + M)) (cur' := (cur.toList.take q ++ ln ++ cur.toList.drop (q + ln.length)).toArray) hrow rfl hμ c1 rfl (splice_size cur ln q hqn)
              (by
                intro o ho
                rw [hget, if_pos]
                have := Nat.mul_le_mul_right (P.cellsOf rty) hC2
                simp only at ho; omega)
              (by
                have : (res.take (off + N) ++ news ++ res.drop (off + N + M)).length = off + N + M := by simp; omega
                have e3 : (off + N + M) * P.cellsOf rty = (off + N) * P.cellsOf rty + M * P.cellsOf rty := by rw [Nat.add_mul]
                rw [this]; simp only; omega)
              (by
                simp only
                rw [← hM]
                refine laid_splice c5 fn (by omega) (by omega) hq ?_ ?_ ?_
                · intro x hx; rw [hget, if_pos hx]
                · intro k u hk; rw [hget, if_neg (by omega), if_pos (by have := (List.getElem?_eq_some_iff.1 hk).1; omega), show q + k - q = k by omega]; exact hk
                · intro x hx; rw [hM] at hx; rw [hget, if_neg (by omega), if_neg (by rw [hlnl]; omega)])
            obtain ⟨hs1, hA1⟩ := hw
            have hes : res.take (off + N) ++ news ++ res.drop (off + N + M) = res ++ news := by
              rw [List.take_of_length_le (by omega), List.drop_of_length_le (by omega), List.append_nil]
            rw [hes] at hs1 hA1
            obtain ⟨hs2, hA2⟩ := hs1.rebase (d := dead0) (off := off) (f' := rf - off) (r := { (⟨rty, P.cellsOf rty, res, rf, true⟩ : Row) with es := res ++ news }) rfl (by rw [List.getElem?_set_self hid]) rfl hμ (by simp; omega) (by simp; omega) (hA1.shape b rty n hsh)
            simp only [List.set_set] at hs2 hA2
            rw [List.drop_append_of_le_length (by omega), hdrop] at hs2 hA2
            refine ⟨_, hs2, hA1.trans hA2, List.prefix_append _ _, ?_⟩
            have hsh2 := (hA1.trans hA2).shape b rty n hsh
            have := Rep.own (P := P) (w := (w.setRow b (cur.toList.take q ++ ln ++ cur.toList.drop (q + ln.length)).toArray)) (F := Ft F0 (μ ++ [(b, bs + off * P.cellsOf rty)]) (H.set id dead0 ++ [⟨rty, P.cellsOf rty, olds ++ news, rf - off, true⟩])) (μ ++ [(b, bs + off * P.cellsOf rty)]) H.length 0 (N + M) (N + M) false b (bs + off * P.cellsOf rty) ca rty n
              (by rw [List.getElem?_append_right (by rw [hs.len]; exact Nat.le_refl _), hs.len]; simp) hsh2 (by rw [Nat.zero_add]; have e9 := Nat.add_mul off ca (P.cellsOf rty); omega) (Nat.le_refl _) hroom hmax (by simp) (bs + off * P.cellsOf rty) (fun _ => by simp)
            simpa using this
          · subst hN; subst hM
            obtain ⟨v', w', hrun, μ', hs1, hA1, hp1, hr1⟩ := s_grow (ty := ty) (ca := ca) (cx := cb') hs ht0 h1 hu hinf hz hzs hnz fo no co fn nn cn hlen hby (by omega) (rf - off)
            refine ⟨v', w', hrun, ?_⟩
            obtain ⟨hs2, hA2⟩ := hs1.kill (id := id) (d := dead0) rfl
            rw [List.set_append_left _ _ hid] at hs2 hA2
            exact ⟨μ', hs2, hA1.trans hA2, hp1, hr1.adv (hA2.join F0) (List.prefix_refl _)⟩
        · cases h
  · cases h
end Go.AL
