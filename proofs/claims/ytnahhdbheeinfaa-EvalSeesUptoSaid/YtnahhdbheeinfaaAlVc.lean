/- An abstract layer over the walk, 11: calls, and the code as one condition. No program in sight. -/
import Derived.Test.YtnahhdbheeinfaaAlOps
namespace Go.AL

/-- A value with its rows read off: what it is when nobody writes any more. -/
def resA (P : Program) (H : List Row) : Nat → A → Option A
  | 0, a => if a.noid then some a else none
  | n + 1, a =>
    if a.noid then some a else
    match a with
    | .own id off len _ _ => if len = 0 then some (.sl false []) else (H[id]?).bind fun r =>
      if r.live = true ∧ off + len ≤ r.es.length then
        if noidL ((r.es.drop off).take len) then some (.sl false ((r.es.drop off).take len))
        else (((r.es.drop off).take len).mapM (resA P H n)).map (.sl false)
      else none
    | .pto id sz j co => (H[id]?).bind fun r => if r.live = true ∧ co = 0 ∧ r.sz = sz ∧ r.sz ≠ 0 then (r.es[j]?).bind fun e => (resA P H n e).map .ptr else none
    | .agg cs => (cs.mapM (resA P H n)).map .agg
    | .tup cs => (cs.mapM (resA P H n)).map .tup
    | .fn f cs => (cs.mapM (resA P H n)).map (.fn f)
    | _ => none

theorem mapM_get {α β : Type} {f : α → Option β} : ∀ {l : List α} {r : List β}, l.mapM f = some r → r.length = l.length ∧ ∀ (i : Nat) (y : β), r[i]? = some y → ∃ x, l[i]? = some x ∧ f x = some y
  | [], r, h => by simp at h; subst h; simp
  | a :: l, r, h => by
    simp only [List.mapM_cons, Option.bind_eq_bind, Option.pure_def] at h
    obtain ⟨b, hb, h⟩ := Option.bind_eq_some_iff.1 h
    obtain ⟨bs, hbs, h⟩ := Option.bind_eq_some_iff.1 h
    cases h
    obtain ⟨h1, h2⟩ := mapM_get hbs
    refine ⟨by simp [h1], ?_⟩
    intro i y hy
    cases i with
    | zero => simp at hy; subst hy; exact ⟨a, by simp, hb⟩
    | succ i => simp at hy; obtain ⟨x, hx, hf⟩ := h2 i y hy; exact ⟨x, by simpa using hx, hf⟩

theorem resA_ncells {P : Program} {H : List Row} : ∀ {n : Nat} {a a' : A}, resA P H n a = some a' → a'.ncells = a.ncells := by
  intro n
  induction n with
  | zero => intro a a' h; simp only [resA] at h; split at h <;> cases h; rfl
  | succ n ih =>
    intro a a' h
    simp only [resA] at h
    split at h
    · cases h; rfl
    · split at h
      · split at h
        · cases h; rfl
        obtain ⟨r, _, h⟩ := Option.bind_eq_some_iff.1 h
        split at h
        · split at h
          · cases h; rfl
          · obtain ⟨q, _, h⟩ := Option.map_eq_some_iff.1 h; subst h; rfl
        · cases h
      · obtain ⟨r, _, h⟩ := Option.bind_eq_some_iff.1 h
        split at h
        · obtain ⟨e, _, h⟩ := Option.bind_eq_some_iff.1 h
          obtain ⟨q, _, h⟩ := Option.map_eq_some_iff.1 h; subst h; rfl
        · cases h
      · obtain ⟨q, hq, h⟩ := Option.map_eq_some_iff.1 h; subst h
        exact (mapM_get hq).1
      · obtain ⟨q, _, h⟩ := Option.map_eq_some_iff.1 h; subst h; rfl
      · obtain ⟨q, _, h⟩ := Option.map_eq_some_iff.1 h; subst h; rfl
      · cases h

theorem s_resA {P : Program} {w : World} {F0 F' : Fz} {μ : Mu} {H : List Row} (hs : HS P w F0 μ H) (hF : ∀ b o, F' b o → Ft F0 μ H b o) (hrow : ∀ (i : Nat) (r : Row) (b bs o : Nat), H[i]? = some r → r.live = true → μ[i]? = some (b, bs) → o < bs + r.es.length * r.sz → ¬ F' b o) :
    ∀ {n : Nat} {a a' : A} {v : Value}, Rep P w (Ft F0 μ H) μ a v → resA P H n a = some a' → Rep P w F' [] a' v := by
  intro n
  induction n with
  | zero =>
    intro a a' v hr h
    simp only [resA] at h
    split at h
    · rename_i hn; cases h; exact (hr.noid hn).mono (fun b o _ hf => hF b o hf) (List.prefix_refl _)
    · cases h
  | succ n ih =>
    intro a a' v hr h
    have hmono : ∀ {a : A} {v : Value}, Rep P w (Ft F0 μ H) μ a v → a.noid = true → Rep P w F' [] a v := fun hr hn => (hr.noid hn).mono (fun b o _ hf => hF b o hf) (List.prefix_refl _)
    simp only [resA] at h
    split at h
    · rename_i hn; cases h; exact hmono hr hn
    · split at h
      · rename_i id off len cb ex _
        by_cases hl0 : len = 0
        · subst hl0
          simp at h; subst h
          cases hr with
          | own _ id off len cb ex b bs cap tyr m hμ hsh hfit hlen hcb hmax hex ao hat => exact .sl _ _ [] b ao 0 cap 0 (fun _ => undef) rfl (by omega) hmax (by simp) (by simp) (by simp) (by simp)
          | ownn _ _ _ a => exact .slnil _ _ _
        rw [if_neg hl0] at h
        obtain ⟨r, hrow', h⟩ := Option.bind_eq_some_iff.1 h
        split at h
        case isFalse => cases h
        rename_i hc
        obtain ⟨hl, hle⟩ := hc
        cases hr with | ownn _ _ _ a => exact (hl0 rfl).elim | own _ id off len cb ex b bs cap tyr m hμ hsh hfit hlen hcb hmax hex ao hat =>
        obtain ⟨cur, c1, c2, c3, c4, c5⟩ := hs.cells hrow' hl hμ hsh
        have hty : tyr = r.ty := by
          simp only [World.shape?, c1] at hsh
          simp at hsh; exact hsh.1.symm
        have hfin : ∀ es' : List A, es'.length = len → (∀ (k : Nat) (x : A), es'[k]? = some x → x.ncells = r.sz ∧ ∃ V, Rep P w F' [] x V ∧ V.cells.size = r.sz ∧ (∀ u ∈ V.cells.toList, u.oneCell' = true) ∧ ∀ (j : Nat) (u : Value), V.cells[j]? = some u → cur[bs + (off + k) * r.sz + j]? = some u) →
            Rep P w F' [] (.sl false es') (.slice (some ⟨b, ao, none⟩) len cap) := by
          intro es' hlen' hh
          obtain rfl := hat (by omega)
          have hV : ∀ k : Nat, ∃ V, ∀ x, es'[k]? = some x → Rep P w F' [] x V ∧ V.cells.size = r.sz ∧ (∀ u ∈ V.cells.toList, u.oneCell' = true) ∧ ∀ (j : Nat) (u : Value), V.cells[j]? = some u → cur[bs + (off + k) * r.sz + j]? = some u := by
            intro k
            cases hk : es'[k]? with
            | none => exact ⟨undef, fun x hx => by cases hx⟩
            | some x => obtain ⟨_, V, h1⟩ := hh k x hk; exact ⟨V, fun y hy => by cases hy; exact h1⟩
          have hV' := fun k => Classical.choose_spec (hV k)
          refine .sl _ _ es' b _ len cap r.sz (fun k => Classical.choose (hV k)) hlen'.symm (by omega) hmax ?_ (fun k x hx => (hh k x hx).1) (fun k x hx => (hV' k x hx).1) ?_
          · intro h
            cases h
          · intro k x hx j u hu
            obtain ⟨g1, g2, g3, g4⟩ := hV' k x hx
            have hj : j < r.sz := by have := (Array.getElem?_eq_some_iff.1 hu).1; omega
            have hk : k < len := by have := (List.getElem?_eq_some_iff.1 hx).1; omega
            have e1 : bs + off * P.cellsOf tyr + k * r.sz + j = bs + (off + k) * r.sz + j := by rw [hty, ← c2, Nat.add_mul]; omega
            refine ⟨g3 u (List.mem_of_getElem? (by simpa using hu)), ?_, ?_⟩
            · rw [cell_of_row w b _ cur r.ty (0, 0) c1, e1]; exact g4 j u hu
            · refine hrow id r b bs _ hrow' hl hμ ?_
              rw [e1]
              have := Nat.mul_le_mul_right r.sz (show off + k + 1 ≤ r.es.length by omega)
              rw [Nat.add_mul _ 1] at this
              omega
        have hget : ∀ (k : Nat) (x : A), ((r.es.drop off).take len)[k]? = some x → r.es[off + k]? = some x := by
          intro k x hx
          simp only [List.getElem?_take, List.getElem?_drop] at hx
          split at hx
          · exact hx
          · cases hx
        split at h
        · rename_i hnl; cases h
          refine hfin _ (by simp; omega) ?_
          intro k x hx
          obtain ⟨k1, V, k2, k3⟩ := c5 _ x (hget k x hx)
          have hz := shp_cells k1 k2 (by rw [← c2]; exact c3)
          refine ⟨by rw [shp_ncells k1 (by rw [← c2]; exact c3), c2], V, hmono k2 (noidL_get hnl k x hx), by rw [hz.1, c2], hz.2, k3⟩
        · obtain ⟨q, hq, h⟩ := Option.map_eq_some_iff.1 h
          subst h
          obtain ⟨hql, hqg⟩ := mapM_get hq
          refine hfin q (by rw [hql]; simp; omega) ?_
          intro k y hy
          obtain ⟨x, hx, hxy⟩ := hqg k y hy
          obtain ⟨k1, V, k2, k3⟩ := c5 _ x (hget k x hx)
          have hz := shp_cells k1 k2 (by rw [← c2]; exact c3)
          refine ⟨by rw [resA_ncells hxy, shp_ncells k1 (by rw [← c2]; exact c3), c2], V, ih k2 hxy, by rw [hz.1, c2], hz.2, k3⟩
      · rename_i id sz j co _
        obtain ⟨r, hrow', hB⟩ := Option.bind_eq_some_iff.1 h
        clear h
        split at hB
        case isFalse => cases hB
        rename_i hc
        obtain ⟨hl, hco, hsz, hnz⟩ := hc
        subst hco
        obtain ⟨e, he, hC⟩ := Option.bind_eq_some_iff.1 hB
        obtain ⟨q, hq, hD⟩ := Option.map_eq_some_iff.1 hC
        subst hD
        cases hr with | pto _ _ _ _ _ b bs hμ =>
        obtain ⟨cur, c1, c2, c3, c4, c5⟩ := hs.cellsZ hrow' hl hμ hnz
        obtain ⟨k1, V, k2, k3⟩ := c5 j e he
        have hz := shp_cells k1 k2 (by rw [← c2]; exact c3)
        refine .ptr _ q b _ V (ih k2 hq) (by rw [resA_ncells hq, shp_ncells k1 (by rw [← c2]; exact c3), ← c2]; exact c3) ?_
        intro i u hu
        have hi : i < r.sz := by have := (Array.getElem?_eq_some_iff.1 hu).1; rw [hz.1, ← c2] at this; exact this
        have hj := (List.getElem?_eq_some_iff.1 he).1
        refine ⟨hz.2 u (List.mem_of_getElem? (by simpa using hu)), ?_, ?_⟩
        · rw [cell_of_row w b _ cur r.ty (0, 0) c1, ← hsz]; simpa using k3 i u hu
        · refine hrow id r b bs _ hrow' hl hμ ?_
          rw [← hsz]
          have := Nat.mul_le_mul_right r.sz (show j + 1 ≤ r.es.length by omega)
          rw [Nat.add_mul] at this
          omega
      · obtain ⟨q, hq, h⟩ := Option.map_eq_some_iff.1 h
        subst h
        obtain ⟨hql, hqg⟩ := mapM_get hq
        cases hr with | agg _ cs vs hl h1 hh =>
        refine .agg _ q vs (by rw [hql, hl]) h1 ?_
        intro i c u hc hu
        obtain ⟨x, hx, hxc⟩ := hqg i c hc
        exact ih (hh i x u hx hu) hxc
      · obtain ⟨q, hq, h⟩ := Option.map_eq_some_iff.1 h
        subst h
        obtain ⟨hql, hqg⟩ := mapM_get hq
        cases hr with | tup _ cs vs hl hh =>
        refine .tup _ q vs (by rw [hql, hl]) ?_
        intro i c u hc hu
        obtain ⟨x, hx, hxc⟩ := hqg i c hc
        exact ih (hh i x u hx hu) hxc
      · obtain ⟨q, hq, h⟩ := Option.map_eq_some_iff.1 h
        subst h
        obtain ⟨hql, hqg⟩ := mapM_get hq
        cases hr with | fn _ f cs vs hl hh =>
        refine .fn _ _ q vs (by rw [hql, hl]) ?_
        intro i c u hc hu
        obtain ⟨x, hx, hxc⟩ := hqg i c hc
        exact ih (hh i x u hx hu) hxc
      · cases h

/-! Less is said of the room behind a slice. -/
mutual
def wkA : A → A
  | .sl _ es => .sl false (wkL es)
  | .agg cs => .agg (wkL cs)
  | .tup cs => .tup (wkL cs)
  | .fn f cs => .fn f (wkL cs)
  | .ptr d => .ptr (wkA d)
  | a => a
def wkL : List A → List A
  | [] => []
  | x :: xs => wkA x :: wkL xs
end

theorem wkL_map : ∀ xs : List A, wkL xs = xs.map wkA
  | [] => by simp [wkL]
  | x :: xs => by simp [wkL, wkL_map xs]

theorem wkL_get {xs : List A} {i : Nat} {y : A} (h : (wkL xs)[i]? = some y) : ∃ x, xs[i]? = some x ∧ y = wkA x := by
  rw [wkL_map, List.getElem?_map] at h
  obtain ⟨x, h1, h2⟩ := Option.map_eq_some_iff.1 h
  exact ⟨x, h1, h2.symm⟩

theorem wkL_length (xs : List A) : (wkL xs).length = xs.length := by rw [wkL_map]; simp

theorem wkA_ncells (a : A) : (wkA a).ncells = a.ncells := by
  cases a <;> simp [wkA, A.ncells, wkL_length]

theorem Rep.wk {P : Program} {w : World} {F : Fz} {μ : Mu} {a : A} {v : Value} (h : Rep P w F μ a v) : Rep P w F μ (wkA a) v := by
  induction h with
  | int μ k n => exact .int _ k n
  | bool μ b => exact .bool _ b
  | ub μ b => exact .ub _ b
  | str μ l => exact .str _ l
  | slnil μ full a => exact .slnil _ _ _
  | sl μ full es b off n cap sz V hn hcap hmax hfull hsz hrep hcell ih =>
    refine .sl _ _ (wkL es) b off n cap sz V (by rw [wkL_length]; exact hn) hcap hmax (by simp) ?_ ?_ ?_
    · intro i e he
      obtain ⟨x, hx, rfl⟩ := wkL_get he
      rw [wkA_ncells]; exact hsz i x hx
    · intro i e he
      obtain ⟨x, hx, rfl⟩ := wkL_get he
      exact ih i x hx
    · intro i e he
      obtain ⟨x, hx, rfl⟩ := wkL_get he
      exact hcell i x hx
  | own μ id off len cb ex b bs cap ty n hμ hs hfit hlen hcb hmax hex ao hat => exact .own _ id off len cb ex b bs cap ty n hμ hs hfit hlen hcb hmax hex ao hat
  | ownn μ id off a => exact .ownn _ id off a
  | ptr μ d b off v hrep hnc hcell ih => exact .ptr _ _ b off v ih (by rw [wkA_ncells]; exact hnc) hcell
  | pto μ id sz i co b bs hμ => exact .pto _ id sz i co b bs hμ
  | nptr μ => exact .nptr _
  | agg μ cs vs hl h1 h ih =>
    refine .agg _ (wkL cs) vs (by rw [wkL_length]; exact hl) h1 fun i c u hc hu => ?_
    obtain ⟨x, hx, rfl⟩ := wkL_get hc
    exact ih i x u hx hu
  | tup μ cs vs hl h ih =>
    refine .tup _ (wkL cs) vs (by rw [wkL_length]; exact hl) fun i c u hc hu => ?_
    obtain ⟨x, hx, rfl⟩ := wkL_get hc
    exact ih i x u hx hu
  | fn μ f cs vs hl h ih =>
    refine .fn _ f (wkL cs) vs (by rw [wkL_length]; exact hl) fun i c u hc hu => ?_
    obtain ⟨x, hx, rfl⟩ := wkL_get hc
    exact ih i x u hx hu
  | nfn μ => exact .nfn _
  | mp μ id b hμ => exact .mp _ id b hμ
  | any μ v => exact .any _ v
end Go.AL
