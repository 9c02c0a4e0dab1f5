/- An abstract layer over the walk, 21b: a variable in memory that is not written any more. No program in sight. -/
import Derived.Test.YtnahhdbheeinfaaAlBlk
namespace Go.AL

def A.isTup : A → Bool
  | .tup _ => true
  | _ => false

def fzA (id sz : Nat) (e : A) (x : A) : A :=
  match x with
  | .pto i s 0 0 => if i = id ∧ s = sz then .ptr e else x
  | x => x

theorem fzA_or (id sz : Nat) (e x : A) : fzA id sz e x = x ∨ (x = .pto id sz 0 0 ∧ fzA id sz e x = .ptr e) := by
  unfold fzA
  split
  · rename_i i s
    split
    · rename_i h; exact .inr ⟨by rw [h.1, h.2], rfl⟩
    · exact .inl rfl
  · exact .inl rfl

theorem Wk.fz {P : Program} {X : Ctx} {t : List A} {H : List Row} (id ty sz f : Nat) (e : A) (h : H[id]? = some ⟨ty, sz, [e], f, true⟩) (hn : (e.noid && !e.isTup) = true) : Wk P X ⟨t, H⟩ ⟨t.map (fzA id sz e), H.set id dead0⟩ := by
  simp only [Bool.and_eq_true, Bool.not_eq_true'] at hn
  obtain ⟨hn, htup⟩ := hn
  intro a w μ hs
  have hlen : id < μ.length := by rw [hs.hs.len]; exact (List.getElem?_eq_some_iff.1 h).1
  obtain ⟨⟨b, bs⟩, hμ⟩ : ∃ p, μ[id]? = some p := ⟨_, List.getElem?_eq_getElem hlen⟩
  have hco : CellsOK P w (Ft X.F0 μ H) μ ⟨ty, sz, [e], f, true⟩ b bs := by
    rcases hs.hs.row id _ b bs h rfl hμ with h1 | ⟨_, _, _, ms, _, _, h1, h2⟩
    · exact h1
    · simp at h1
      obtain ⟨m, hm⟩ : ∃ m, ms.toList[0]? = some m := ⟨_, List.getElem?_eq_getElem (by simp; omega)⟩
      obtain ⟨ka, va, rfl, _⟩ := h2 0 e m rfl hm
      cases htup
  obtain ⟨cur, h1, h2, h3, h4, h5⟩ := hco
  simp only at h2 h3
  obtain ⟨k1, V, k2, k3⟩ := h5 0 e rfl
  obtain ⟨g1, g2⟩ := hs.hs.kill (id := id) (d := dead0) rfl
  have hz := shp_cells k1 k2 (by rw [← h2]; exact h3)
  have hsub : ∀ b o, Ft X.F0 μ (H.set id dead0) b o → Ft X.F0 μ H b o := by
    rintro b o (hf | ⟨i, r, bs, h1, h2, h3, h4⟩)
    · exact .inl hf
    · refine .inr ⟨i, r, bs, ?_, h2, h3, h4⟩
      rw [List.getElem?_set] at h1
      split at h1
      · split at h1
        · cases h1; cases h2
        · cases h1
      · exact h1
  have hptr : Rep P w (Ft X.F0 μ (H.set id dead0)) μ (.ptr e) (.pointer (some ⟨b, bs, none⟩)) := by
    refine .ptr _ e b bs V ((k2.noid hn).mono (fun b o _ hf => hsub b o hf) (List.prefix_refl _)) (by rw [shp_ncells k1 (by rw [← h2]; exact h3), ← h2]; exact h3) ?_
    intro j u hu
    refine ⟨hz.2 u (List.mem_of_getElem? (by simpa using hu)), ?_, ?_⟩
    · rw [cell_of_row w b _ cur ty (0, 0) h1]; simpa using k3 j u hu
    · rintro (hf | ⟨i, r, bs', q1, q2, q3, q4⟩)
      · exact hs.hs.sep id _ b bs _ h rfl hμ hf
      · rw [List.getElem?_set] at q1
        split at q1
        · split at q1
          · cases q1; cases q2
          · cases q1
        · rename_i hne
          exact hne (hs.hs.inj id i _ r b bs bs' h rfl q1 q2 hμ q3)
  refine ⟨μ, by rw [hs.len]; simp, ?_, g1, hs.adv.trans g2, hs.pre, hs.defers⟩
  intro i x hx
  obtain ⟨y, hy, rfl⟩ : ∃ y, t[i]? = some y ∧ fzA id sz e y = x := by simpa using hx
  have hr := hs.rep i y hy
  rcases fzA_or id sz e y with h0 | ⟨rfl, h0⟩
  · rw [h0]; exact hr.mono (fun b o _ hf => hsub b o hf) (List.prefix_refl _)
  · rw [h0]
    generalize a.tmps.getD i undef = v at hr
    cases hr with | pto _ _ _ _ _ b' bs' hμ' =>
    rw [hμ] at hμ'
    cases hμ'
    simpa using hptr

/-- From here on the variable is not written any more. -/
theorem awp_fz {P : Program} {X : Ctx} {c : Code} {Q : AX → S → Prop} {t : List A} {H : List Row} (id : Nat) {ty sz f : Nat} {e : A} (h : H[id]? = some ⟨ty, sz, [e], f, true⟩) (hn : (e.noid && !e.isTup) = true) (hA : awp P X c Q ⟨t.map (fzA id sz e), H.set id dead0⟩) : awp P X c Q ⟨t, H⟩ :=
  awp_weaken (Wk.fz id ty sz f e h hn) hA
/-- The same, the row behind those of a caller. -/
theorem awp_fzH {P : Program} {X : Ctx} {c : Code} {Q : AX → S → Prop} {t : List A} {H L : List Row} {ty sz f : Nat} {e : A} (hn : (e.noid && !e.isTup) = true) (hA : awp P X c Q ⟨t.map (fzA H.length sz e), H ++ dead0 :: L⟩) : awp P X c Q ⟨t, H ++ ⟨ty, sz, [e], f, true⟩ :: L⟩ := by
  refine awp_fz (ty := ty) (sz := sz) (f := f) (e := e) H.length (by simp) hn ?_
  simpa using hA
attribute [simp] A.isTup
@[simp] theorem isTup_enc {α : Type} [Enc α] (x : α) : (Enc.enc x).isTup = false := by
  have h := Enc.nc x
  have hp : Enc.sz α ≠ 0 := Enc.pos
  cases hx : Enc.enc x with
  | tup l => rw [hx] at h; exact (hp h.symm).elim
  | _ => rfl
@[simp] theorem isTup_Ls {α : Type} [Enc α] (f : Bool) (l : List α) : (Ls f l).isTup = false := rfl
section
variable (id sz : Nat) (e : A)
@[simp] theorem fzA_pto (i s : Nat) : fzA id sz e (.pto i s 0 0) = if i = id ∧ s = sz then .ptr e else .pto i s 0 0 := rfl
@[simp] theorem fzA_ptoC (i s j co : Nat) (h : j ≠ 0 ∨ co ≠ 0) : fzA id sz e (.pto i s j co) = .pto i s j co := by
  unfold fzA
  split
  · rename_i i s heq
    cases heq
    simp at h
  · rfl
@[simp] theorem fzA_int (k : IntKind) (n : Int) : fzA id sz e (.int k n) = .int k n := rfl
@[simp] theorem fzA_bool (b : Bool) : fzA id sz e (.bool b) = .bool b := rfl
@[simp] theorem fzA_ub : fzA id sz e .ub = .ub := rfl
@[simp] theorem fzA_str (l : List UInt8) : fzA id sz e (.str l) = .str l := rfl
@[simp] theorem fzA_sl (f : Bool) (l : List A) : fzA id sz e (.sl f l) = .sl f l := rfl
@[simp] theorem fzA_own (i o l c : Nat) (x : Bool) : fzA id sz e (.own i o l c x) = .own i o l c x := rfl
@[simp] theorem fzA_ptr (d : A) : fzA id sz e (.ptr d) = .ptr d := rfl
@[simp] theorem fzA_nptr : fzA id sz e .nptr = .nptr := rfl
@[simp] theorem fzA_agg (l : List A) : fzA id sz e (.agg l) = .agg l := rfl
@[simp] theorem fzA_tup (l : List A) : fzA id sz e (.tup l) = .tup l := rfl
@[simp] theorem fzA_fn (f : FuncId) (l : List A) : fzA id sz e (.fn f l) = .fn f l := rfl
@[simp] theorem fzA_nfn : fzA id sz e .nfn = .nfn := rfl
@[simp] theorem fzA_any : fzA id sz e .any = .any := rfl
@[simp] theorem fzA_Ls {α : Type} [Enc α] (f : Bool) (l : List α) : fzA id sz e (Ls f l) = Ls f l := rfl
@[simp] theorem fzA_B {α : Type} (i : Nat) (l : List α) : fzA id sz e (B i l) = B i l := rfl
end

section
variable {P : Program}
theorem astore_at {H : List Row} (id : Nat) (ty t : TypeId) (l : List Int) (f j : Nat) (x : Int) (hr : H[id]? = some (RF ty l f)) (hc : P.cellsOf t = 1) (hs : shp P ty (.int .i64 x) = true) :
    astore P H t (.pto id 1 j 0) (.int .i64 x) = if f ≤ j ∧ j < l.length then some (H.set id (RF ty (l.set j x) f)) else none := by
  unfold astore
  by_cases h0 : l = []
  · subst h0
    simp [hr, dead0]
  · have h1 : l.set j x ≠ [] := by
      intro h; have := congrArg List.length h; simp at this; exact h0 this
    rw [RF_ne h0] at hr
    rw [RF_ne h1]
    simp only [hr, Option.bind_some, hc, List.getElem?_map, A.ncells]
    by_cases hf : f ≤ j
    · rw [if_pos ⟨trivial, by simp, hf, trivial, by decide⟩]
      by_cases hj : j < l.length
      · rw [if_pos ⟨hf, hj⟩, List.getElem?_eq_getElem hj]
        simp [hs, List.map_set]
      · rw [if_neg (fun h => hj h.2), List.getElem?_eq_none (by omega)]
        rfl
    · rw [if_neg (fun h => hf h.2.2.1), if_neg (fun h => hf h.1)]
@[simp high] theorem astore_RF0 (H : List Row) (ty t : TypeId) (l : List Int) (f j sz : Nat) (x : Int) (hz : sz = 1) (hc : P.cellsOf t = 1) (hs : shp P ty (.int .i64 x) = true) : astore P (RF ty l f :: H) t (.pto 0 sz j 0) (.int .i64 x) = if f ≤ j ∧ j < l.length then some (RF ty (l.set j x) f :: H) else none := by
  subst hz; exact astore_at 0 ty t l f j x (by rfl) hc hs
@[simp high] theorem astore_RF1 (r0 : Row) (H : List Row) (ty t : TypeId) (l : List Int) (f j sz : Nat) (x : Int) (hz : sz = 1) (hc : P.cellsOf t = 1) (hs : shp P ty (.int .i64 x) = true) : astore P (r0 :: RF ty l f :: H) t (.pto 1 sz j 0) (.int .i64 x) = if f ≤ j ∧ j < l.length then some (r0 :: RF ty (l.set j x) f :: H) else none := by
  subst hz; exact astore_at 1 ty t l f j x (by rfl) hc hs
@[simp high] theorem astore_RF2 (r0 r1 : Row) (H : List Row) (ty t : TypeId) (l : List Int) (f j sz : Nat) (x : Int) (hz : sz = 1) (hc : P.cellsOf t = 1) (hs : shp P ty (.int .i64 x) = true) : astore P (r0 :: r1 :: RF ty l f :: H) t (.pto 2 sz j 0) (.int .i64 x) = if f ≤ j ∧ j < l.length then some (r0 :: r1 :: RF ty (l.set j x) f :: H) else none := by
  subst hz; exact astore_at 2 ty t l f j x (by rfl) hc hs
@[simp high] theorem astore_RF3 (r0 r1 r2 : Row) (H : List Row) (ty t : TypeId) (l : List Int) (f j sz : Nat) (x : Int) (hz : sz = 1) (hc : P.cellsOf t = 1) (hs : shp P ty (.int .i64 x) = true) : astore P (r0 :: r1 :: r2 :: RF ty l f :: H) t (.pto 3 sz j 0) (.int .i64 x) = if f ≤ j ∧ j < l.length then some (r0 :: r1 :: r2 :: RF ty (l.set j x) f :: H) else none := by
  subst hz; exact astore_at 3 ty t l f j x (by rfl) hc hs
@[simp high] theorem astore_RF4 (r0 r1 r2 r3 : Row) (H : List Row) (ty t : TypeId) (l : List Int) (f j sz : Nat) (x : Int) (hz : sz = 1) (hc : P.cellsOf t = 1) (hs : shp P ty (.int .i64 x) = true) : astore P (r0 :: r1 :: r2 :: r3 :: RF ty l f :: H) t (.pto 4 sz j 0) (.int .i64 x) = if f ≤ j ∧ j < l.length then some (r0 :: r1 :: r2 :: r3 :: RF ty (l.set j x) f :: H) else none := by
  subst hz; exact astore_at 4 ty t l f j x (by rfl) hc hs
@[simp high] theorem astore_RF5 (r0 r1 r2 r3 r4 : Row) (H : List Row) (ty t : TypeId) (l : List Int) (f j sz : Nat) (x : Int) (hz : sz = 1) (hc : P.cellsOf t = 1) (hs : shp P ty (.int .i64 x) = true) : astore P (r0 :: r1 :: r2 :: r3 :: r4 :: RF ty l f :: H) t (.pto 5 sz j 0) (.int .i64 x) = if f ≤ j ∧ j < l.length then some (r0 :: r1 :: r2 :: r3 :: r4 :: RF ty (l.set j x) f :: H) else none := by
  subst hz; exact astore_at 5 ty t l f j x (by rfl) hc hs
end

/-! Parts of slices that grow. -/
section
variable {α : Type} [Enc α] {P : Program}
@[simp high] theorem ownOK_B {H : List Row} {t : TypeId} (id : Nat) (l : List α) (h : isSliceT P t = true) (hr : RowOf H[id]? (selem P t) l) : ownOK P H t (B id l) = true := by
  unfold ownOK B
  cases l with
  | nil => rfl
  | cons x l =>
    rcases hr with hr | ⟨f, hr⟩
    · cases hr
    · simp [selem_eq h, hr]
@[simp high] theorem aslice_B {t : TypeId} (id : Nat) (l : List α) (lo hi mx : Option A) (h : isSliceT P t = true) (hc : P.cellsOf (selem P t) = Enc.sz α) :
    aslice P t (B id l) lo hi mx = (abnd lo 0).bind fun a => (abnd hi l.length).bind fun b => (abnd mx l.length).bind fun m =>
      if a ≤ b ∧ b ≤ m ∧ m ≤ l.length ∧ (mx.isSome → hi.isSome) then some (if l.isEmpty then .own id 0 0 0 true else .own id a (b - a) (m - a) mx.isSome) else none := by
  unfold B
  rw [aslice_own _ _ _ _ _ _ _ _ h]
  have hp : (Enc.sz α) ≠ 0 := Enc.pos
  simp only [hc, hp, ne_eq, not_false_eq_true, true_and]
  cases l with
  | nil => simp
  | cons x l => simp
theorem resA_own_at {H : List Row} (id : Nat) (ty : TypeId) (l : List α) (f n off len cb : Nat) (ex : Bool) (hr : H[id]? = some (RF ty l f)) : resA P H (n + 1) (.own id off len cb ex) = if len = 0 ∨ off + len ≤ l.length then some (Ls false ((l.drop off).take len)) else none := by
  unfold resA
  simp only [A.noid, Bool.false_eq_true, if_false]
  by_cases h0 : len = 0
  · subst h0
    simp
  · rw [if_neg h0]
    by_cases hl : l = []
    · subst hl
      simp [hr, h0, dead0]
    · rw [RF_ne hl] at hr
      simp only [hr, Option.bind_some, List.length_map, true_and, h0, false_or]
      have e : ((List.map Enc.enc l).drop off).take len = ((l.drop off).take len).map Enc.enc := by simp [List.map_drop, List.map_take]
      rw [e, noidL_enc]
      simp [Ls]
@[simp high] theorem resA_own_RF0 (H : List Row) (ty : TypeId) (l : List α) (f n off len cb : Nat) (ex : Bool) : resA P (RF ty l f :: H) (n + 1) (.own 0 off len cb ex) = if len = 0 ∨ off + len ≤ l.length then some (Ls false ((l.drop off).take len)) else none := resA_own_at 0 ty l f n off len cb ex (by rfl)
@[simp high] theorem resA_own_RF1 (r0 : Row) (H : List Row) (ty : TypeId) (l : List α) (f n off len cb : Nat) (ex : Bool) : resA P (r0 :: RF ty l f :: H) (n + 1) (.own 1 off len cb ex) = if len = 0 ∨ off + len ≤ l.length then some (Ls false ((l.drop off).take len)) else none := resA_own_at 1 ty l f n off len cb ex (by rfl)
@[simp high] theorem resA_own_RF2 (r0 r1 : Row) (H : List Row) (ty : TypeId) (l : List α) (f n off len cb : Nat) (ex : Bool) : resA P (r0 :: r1 :: RF ty l f :: H) (n + 1) (.own 2 off len cb ex) = if len = 0 ∨ off + len ≤ l.length then some (Ls false ((l.drop off).take len)) else none := resA_own_at 2 ty l f n off len cb ex (by rfl)
@[simp high] theorem resA_own_RF3 (r0 r1 r2 : Row) (H : List Row) (ty : TypeId) (l : List α) (f n off len cb : Nat) (ex : Bool) : resA P (r0 :: r1 :: r2 :: RF ty l f :: H) (n + 1) (.own 3 off len cb ex) = if len = 0 ∨ off + len ≤ l.length then some (Ls false ((l.drop off).take len)) else none := resA_own_at 3 ty l f n off len cb ex (by rfl)
@[simp high] theorem resA_own_RF4 (r0 r1 r2 r3 : Row) (H : List Row) (ty : TypeId) (l : List α) (f n off len cb : Nat) (ex : Bool) : resA P (r0 :: r1 :: r2 :: r3 :: RF ty l f :: H) (n + 1) (.own 4 off len cb ex) = if len = 0 ∨ off + len ≤ l.length then some (Ls false ((l.drop off).take len)) else none := resA_own_at 4 ty l f n off len cb ex (by rfl)
@[simp high] theorem resA_own_RF5 (r0 r1 r2 r3 r4 : Row) (H : List Row) (ty : TypeId) (l : List α) (f n off len cb : Nat) (ex : Bool) : resA P (r0 :: r1 :: r2 :: r3 :: r4 :: RF ty l f :: H) (n + 1) (.own 5 off len cb ex) = if len = 0 ∨ off + len ≤ l.length then some (Ls false ((l.drop off).take len)) else none := resA_own_at 5 ty l f n off len cb ex (by rfl)
end

section
variable {α : Type} [Enc α] {P : Program}
theorem resA_B_at {H : List Row} (id : Nat) (ty : TypeId) (l m : List α) (f n : Nat) (hr : H[id]? = some (RF ty m f)) (h : l.length = m.length) : resA P H (n + 1) (B id l) = some (Ls false m) := by
  unfold B
  rw [resA_own_at id ty m f n _ _ _ _ hr, if_pos (.inr (by omega)), List.drop_zero, h, List.take_length]
@[simp high] theorem resA_B_RF0 (H : List Row) (ty : TypeId) (l m : List α) (f n : Nat) (h : l.length = m.length) : resA P (RF ty m f :: H) (n + 1) (B 0 l) = some (Ls false m) := resA_B_at 0 ty l m f n (by rfl) h
@[simp high] theorem resA_B_RF1 (r0 : Row) (H : List Row) (ty : TypeId) (l m : List α) (f n : Nat) (h : l.length = m.length) : resA P (r0 :: RF ty m f :: H) (n + 1) (B 1 l) = some (Ls false m) := resA_B_at 1 ty l m f n (by rfl) h
@[simp high] theorem resA_B_RF2 (r0 r1 : Row) (H : List Row) (ty : TypeId) (l m : List α) (f n : Nat) (h : l.length = m.length) : resA P (r0 :: r1 :: RF ty m f :: H) (n + 1) (B 2 l) = some (Ls false m) := resA_B_at 2 ty l m f n (by rfl) h
@[simp high] theorem resA_B_RF3 (r0 r1 r2 : Row) (H : List Row) (ty : TypeId) (l m : List α) (f n : Nat) (h : l.length = m.length) : resA P (r0 :: r1 :: r2 :: RF ty m f :: H) (n + 1) (B 3 l) = some (Ls false m) := resA_B_at 3 ty l m f n (by rfl) h
@[simp high] theorem resA_B_RF4 (r0 r1 r2 r3 : Row) (H : List Row) (ty : TypeId) (l m : List α) (f n : Nat) (h : l.length = m.length) : resA P (r0 :: r1 :: r2 :: r3 :: RF ty m f :: H) (n + 1) (B 4 l) = some (Ls false m) := resA_B_at 4 ty l m f n (by rfl) h
@[simp high] theorem resA_B_RF5 (r0 r1 r2 r3 r4 : Row) (H : List Row) (ty : TypeId) (l m : List α) (f n : Nat) (h : l.length = m.length) : resA P (r0 :: r1 :: r2 :: r3 :: r4 :: RF ty m f :: H) (n + 1) (B 5 l) = some (Ls false m) := resA_B_at 5 ty l m f n (by rfl) h
end
end Go.AL
