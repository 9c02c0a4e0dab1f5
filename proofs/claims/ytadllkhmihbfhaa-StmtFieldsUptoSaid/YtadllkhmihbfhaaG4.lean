/- Chapter 10: statements: the checks of a list and its sizes, over any program that has the text. -/
import Derived.Test.YtadllkhmihbfhaaG3
namespace Go.Proofs.Ytadllkhmihbfhaa
open Go.AL
variable {P : Program} [h : Facts P]

theorem stmt_ind {C : List TStmt → Prop} (step : ∀ l, l.length ≤ 9223372036854775807 → (∀ s ∈ l, s.ok) → (∀ s ∈ l, C s.fBody ∧ C s.fElse) → C l) (l : List TStmt) (hl : l.length ≤ 9223372036854775807) (hok : ∀ s ∈ l, s.ok) : C l := by
  have key : ∀ s : TStmt, s.ok → C s.fBody ∧ C s.fElse := TStmt.ind fun e ih1 ih2 ho => by
    obtain ⟨_, _, _, _, _, _, ⟨hbl, hbo⟩, ⟨hel, heo⟩⟩ := okS ho
    exact ⟨step _ hbl hbo fun y hy => ih1 y hy (hbo y hy), step _ hel heo fun y hy => ih2 y hy (heo y hy)⟩
  exact step l hl hok fun s hs => key s (hok s hs)
mutual
noncomputable def stE : TStmt → Int
  | ⟨a, b, c, d, e, f, g, i, j, k⟩ => nz (oneE ⟨a, b, c, d, e, f, g, i, j, k⟩) (nz (stL j) (stL k))
noncomputable def stL : List TStmt → Int
  | [] => 0
  | x :: l => nz (stE x) (stL l)
end
theorem stE_eq (s : TStmt) : stE s = nz (oneE s) (nz (stL s.fBody) (stL s.fElse)) := by cases s; rw [stE]
theorem stL_nil : stL [] = 0 := by rw [stL]
theorem stL_cons (x : TStmt) (l : List TStmt) : stL (x :: l) = nz (stE x) (stL l) := by rw [stL]
mutual
def cntS : TStmt → Nat
  | ⟨_, _, _, _, _, _, _, _, j, k⟩ => 1 + cntT j + cntT k
def cntT : List TStmt → Nat
  | [] => 0
  | x :: l => cntS x + cntT l
end
theorem cntS_eq (s : TStmt) : cntS s = 1 + cntT s.fBody + cntT s.fElse := by cases s; rw [cntS]
theorem cntT_nil : cntT [] = 0 := by rw [cntT]
theorem cntT_cons (x : TStmt) (l : List TStmt) : cntT (x :: l) = cntS x + cntT l := by rw [cntT]
mutual
/-- The number of levels, as the code counts it. -/
def dpS : TStmt → Int
  | ⟨_, _, _, _, _, _, _, _, j, k⟩ => max (wr (1 + dpT j)) (wr (1 + dpT k))
def dpT : List TStmt → Int
  | [] => 0
  | x :: l => max (dpS x) (dpT l)
end
theorem dpS_eq (s : TStmt) : dpS s = max (wr (1 + dpT s.fBody)) (wr (1 + dpT s.fElse)) := by cases s; rw [dpS]
theorem dpT_nil : dpT [] = 0 := by rw [dpT]
theorem dpT_cons (x : TStmt) (l : List TStmt) : dpT (x :: l) = max (dpS x) (dpT l) := by rw [dpT]
theorem dpT_nn (l : List TStmt) : 0 ≤ dpT l := by
  induction l with
  | nil => rw [dpT_nil]; exact Int.le_refl _
  | cons x l ih => rw [dpT_cons]; omega
mutual
def sizS : TStmt → Nat
  | ⟨_, _, _, d, e, f, g, _, j, k⟩ => 1 + cntE d + cntE e + g.fValues.length + g.fWeights.length + sizT j + sizT k + cntL f
def sizT : List TStmt → Nat
  | [] => 0
  | x :: l => sizS x + sizT l
end
theorem sizS_eq (s : TStmt) : sizS s = 1 + cntE s.fE + cntE s.fF + s.fDist.fValues.length + s.fDist.fWeights.length + sizT s.fBody + sizT s.fElse + cntL s.fArgs := by cases s; rw [sizS]
theorem sizT_nil : sizT [] = 0 := by rw [sizT]
theorem sizT_cons (x : TStmt) (l : List TStmt) : sizT (x :: l) = sizS x + sizT l := by rw [sizT]

set_option maxHeartbeats 2000000 in
theorem c_lcheck : ∀ l : List TStmt, l.length ≤ 9223372036854775807 → (∀ s ∈ l, s.ok) → FCall P 28 [Ls false l] (fun r => r = .int .i64 (stL l)) := by
  refine stmt_ind fun l hl hok hC => ?_
  refine fcall_of h.f28 rfl (by decide) h.mo (by kernel_rfl) fun X hX => ?_
  simp
  refine awp_loop (σ := Nat) (fun k => (⟨[.any, .any, .any, .any, .any, .any, .any, .any, .any, .any, Ls false l, .int .i64 l.length, .int .i64 k, .any, .any, .any, .any, .any, .any, .any, .any, .any, .any, .any, .any, .any, .any, .any, .any, .any, .any, .any, .any, .any, .any, .any, .any, .any, .any, .any, .any, .any, .any, .any, .any, .any, .any, .any, .any], []⟩ : S)) (fun k => k ≤ l.length ∧ stL l = stL (l.drop k)) (fun k => l.length - k) 0 (Wk.ren 0 [] hX rfl (by decide) (by simp) (by simp) (by simp) (by simp)) ⟨by omega, by simp⟩ ?_
  rintro k ⟨hk, hinv⟩
  refine vc_sound h.mo _ _ _ (by kernel_rfl) ?_
  rcases Nat.lt_or_ge k l.length with hlt | hge
  · have hk1 := wrap_succ hlt hl
    have hmem := List.getElem_mem hlt
    obtain ⟨cb, ce⟩ := hC _ hmem
    rw [List.drop_eq_getElem_cons hlt, stL_cons, stE_eq] at hinv
    have hso := hok _ hmem
    simp [hlt]
    generalize l[k] = s at *
    refine xcall_fn (c_uses s.fOp) (by simp) ?_
    obtain ⟨⟨u, ok⟩, hq⟩ : ∃ q, usesT s.fOp = q := ⟨_, rfl⟩
    have hone : oneE s = if (ok && fB7 s u) = false then 1 else partE s u := by unfold oneE fmdB; rw [hq]
    rw [hq]
    cases ok
    · have h1 : oneE s = 1 := by rw [hone]; rfl
      rw [h1, nz_ne (e := 1) _ (by omega), nz_ne (e := 1) _ (by omega)] at hinv
      simp [hinv]
    simp
    refine xcall_fn (c_form s u hso) (by simp) ?_
    cases hf : fB7 s u
    · have h1 : oneE s = 1 := by rw [hone, hf]; rfl
      rw [h1, nz_ne (e := 1) _ (by omega), nz_ne (e := 1) _ (by omega)] at hinv
      simp [hinv]
    rw [hf] at hone
    simp only [Bool.and_self, Bool.true_eq_false, if_false] at hone
    rw [hone] at hinv
    simp
    refine xcall_fn (c_parts s u hso) (by simp) ?_
    by_cases h1 : partE s u = 0
    case neg =>
      rw [nz_ne _ (by rw [nz_ne _ h1]; exact h1), nz_ne _ h1] at hinv
      simp [h1, hinv]
    rw [h1, nz_0] at hinv
    simp [h1]
    refine xcall_fn cb (by simp) ?_
    by_cases h2 : stL s.fBody = 0
    case neg =>
      rw [nz_ne _ (by rw [nz_ne _ h2]; exact h2), nz_ne _ h2] at hinv
      simp [h2, hinv]
    rw [h2, nz_0] at hinv
    simp [h2]
    refine xcall_fn ce (by simp) ?_
    by_cases h3 : stL s.fElse = 0
    case neg =>
      rw [nz_ne _ h3] at hinv
      simp [h3, hinv]
    rw [h3, nz_0] at hinv
    simp [h3]
    exact ⟨k + 1, Wk.ren 0 [] hX rfl (by decide) (by simp [hk1]) (by simp) (by simp) (by simp), ⟨by omega, hinv⟩, by omega⟩
  · have hge' : ¬ k < l.length := by omega
    rw [List.drop_eq_nil_of_le (by omega), stL_nil] at hinv
    simp [hge', hinv]
set_option maxHeartbeats 2000000 in
theorem c_Rlist : ∀ l : List TStmt, l.length ≤ 9223372036854775807 → (∀ s ∈ l, s.ok) → FCall P 29 [Ls false l] (fun r => r = .int .i64 (stL l)) := by
  refine stmt_ind fun l hl hok hC => ?_
  refine fcall_of h.f29 rfl (by decide) h.mo (by kernel_rfl) fun X hX => ?_
  simp
  refine awp_loop (σ := Nat) (fun k => (⟨[Ls false l, .any, .any, .int .i64 k, .any, .any, .any, .any, .any, .any, .any, .any, .any, .any, .any, .any, .any, .any, .any, .any, .any, .any, .any, .any, .any, .any, .any, .any, .any, .any, .any, .any, .any, .any, .any], []⟩ : S)) (fun k => k ≤ l.length ∧ stL l = stL (l.drop k)) (fun k => l.length - k) 0 (Wk.ren 0 [] hX rfl (by decide) (by simp) (by simp) (by simp) (by simp)) ⟨by omega, by simp⟩ ?_
  rintro k ⟨hk, hinv⟩
  refine vc_sound h.mo _ _ _ (by kernel_rfl) ?_
  rcases Nat.lt_or_ge k l.length with hlt | hge
  · have hk1 := wrap_succ hlt hl
    have hmem := List.getElem_mem hlt
    obtain ⟨cb, ce⟩ := hC _ hmem
    rw [List.drop_eq_getElem_cons hlt, stL_cons, stE_eq] at hinv
    have hone := c_one (P := P) _ (hok _ hmem)
    simp [hlt]
    refine xcall_fn hone (by simp) ?_
    by_cases h1 : oneE l[k] = 0
    case neg =>
      rw [nz_ne _ (by rw [nz_ne _ h1]; exact h1), nz_ne _ h1] at hinv
      simp [h1, hinv]
    rw [h1, nz_0] at hinv
    simp [h1, hlt]
    refine xcall_fn cb (by simp) ?_
    by_cases h2 : stL l[k].fBody = 0
    case neg =>
      rw [nz_ne _ (by rw [nz_ne _ h2]; exact h2), nz_ne _ h2] at hinv
      simp [h2, hinv]
    rw [h2, nz_0] at hinv
    simp [h2, hlt]
    refine xcall_fn ce (by simp) ?_
    by_cases h3 : stL l[k].fElse = 0
    case neg =>
      rw [nz_ne _ h3] at hinv
      simp [h3, hinv]
    rw [h3, nz_0] at hinv
    simp [h3]
    exact ⟨k + 1, Wk.ren 0 [] hX rfl (by decide) (by simp [hk1]) (by simp) (by simp) (by simp), ⟨by omega, hinv⟩, by omega⟩
  · have hge' : ¬ k < l.length := by omega
    rw [List.drop_eq_nil_of_le (by omega), stL_nil] at hinv
    simp [hge', hinv]
theorem c_Count : ∀ l : List TStmt, l.length ≤ 9223372036854775807 → (∀ s ∈ l, s.ok) → FCall P 13 [Ls false l] (fun r => r = .int .i64 (wr (cntT l))) := by
  refine stmt_ind fun l hl hok hC => ?_
  refine fcall_ofB [5] h.f13 rfl (by decide) h.mo (by kernel_rfl) fun X hX => ?_
  simp
  have hw0 : wr (l.length : Int) = (l.length : Int) := wr_id (by omega) (by omega)
  refine awp_loop (σ := Nat × Nat) (fun q => (⟨[.any, .any, .any, .int .i64 (wr q.2), .any, .any, .any, .any, Ls false l, .int .i64 l.length, .int .i64 q.1, .any, .any, .any, .any, .any, .any, .any, .any, .any, .any, .any, .any, .any, .any], []⟩ : S)) (fun q => q.1 ≤ l.length ∧ q.2 + cntT (l.drop q.1) + q.1 = cntT l + l.length) (fun q => l.length - q.1) (0, l.length) (Wk.ren 0 [] hX rfl (by decide) (by simp [hw0]) (by simp) (by simp) (by simp)) ⟨by simp, by simp; omega⟩ ?_
  rintro ⟨k, m⟩ ⟨hk, hinv⟩
  simp only at hk hinv
  refine vcB_sound [5] h.mo _ _ _ (by kernel_rfl) ?_
  rcases Nat.lt_or_ge k l.length with hlt | hge
  · have hk1 := wrap_succ hlt hl
    have hmem := List.getElem_mem hlt
    obtain ⟨cb, ce⟩ := hC _ hmem
    rw [List.drop_eq_getElem_cons hlt, cntT_cons, cntS_eq] at hinv
    have w1 : IntKind.i64.wrap (wr (m : Int) + IntKind.i64.wrap (wr (cntT l[k].fBody : Int) + wr (cntT l[k].fElse : Int))) = wr ((m + (cntT l[k].fBody + cntT l[k].fElse) : Nat) : Int) := by
      show wr (wr _ + wr (wr _ + wr _)) = _
      rw [wr_add, wr_add2, ← Int.add_assoc, wr_add2, Int.add_right_comm, wr_add2]
      congr 1; omega
    simp [hlt, -Prod.exists]
    refine awp_quiet [0, 1, 2, 4, 5, 3, 6, 7, 8, 9] _ h.mo (by kernel_rfl) (by decide) (by kernel_rfl) (by rfl) ?_
    simp [-Prod.exists]
    refine ⟨_, cb, ?_⟩
    simp [-Prod.exists]
    refine ⟨_, ce, ?_⟩
    simp [-Prod.exists]
    exact ⟨(k + 1, m + (cntT l[k].fBody + cntT l[k].fElse)), Wk.ren 0 [] hX rfl (by decide) (by simp [hk1, w1]) (by simp) (by simp) (by simp), ⟨by omega, by simp only; omega⟩, by omega⟩
  · have hge' : ¬ k < l.length := by omega
    rw [List.drop_eq_nil_of_le (by omega), cntT_nil] at hinv
    have : m = cntT l := by omega
    subst this
    simp [hge']
end Go.Proofs.Ytadllkhmihbfhaa
