/- Chapter 10: statements: equality, over any program that has the text. -/
import Derived.Test.YtadllkhmihbfhaaG5
namespace Go.Proofs.Ytadllkhmihbfhaa
open Go.AL
variable {P : Program} [h : Facts P]

noncomputable def eqB {α : Type} (a b : α) : Bool := @decide (a = b) (Classical.propDecidable _)
theorem eqB_iff {α : Type} {a b : α} : eqB a b = true ↔ a = b := by unfold eqB; exact @decide_eq_true_iff (a = b) (Classical.propDecidable _)
theorem eqB_no {α : Type} {a b : α} (hn : a ≠ b) : eqB a b = false := by
  cases q : eqB a b
  · rfl
  · exact absurd (eqB_iff.1 q) hn
theorem eqB_yes {α : Type} {a b : α} (hn : a = b) : eqB a b = true := eqB_iff.2 hn
theorem eqB_symm {α : Type} (a b : α) : eqB a b = eqB b a := by rw [Bool.eq_iff_iff, eqB_iff, eqB_iff]; exact eq_comm
theorem c_EqFnE (fid : FuncId) (a b : List TExpr) (hl : a.length ≤ 9223372036854775807) (hp : ∀ x ∈ a, ∀ y : TExpr, FCall P fid [.agg x.cells, .agg y.cells] (fun r => r = .bool (eqB x y))) : FCall P 52 [Ls false a, Ls false b, .fn fid []] (fun r => r = .bool (eqB a b)) := by
  refine fcall_of h.f52 rfl (by decide) h.mo (by kernel_rfl) fun X hX => ?_
  by_cases q4 : a.length = b.length
  case neg =>
    have q4' : ¬ (a.length : Int) = (b.length : Int) := by omega
    rw [eqB_no (by intro q; exact q4 (by rw [q]))]
    simp [q4']
  have q4' : (a.length : Int) = (b.length : Int) := by omega
  simp [eq_true q4']
  refine awp_loop (σ := Nat) (fun k => (⟨[.any, Ls false b, .fn fid [], .any, .any, .any, .any, .any, .any, .any, .any, .any, .any, .any, .any, Ls false a, .int .i64 a.length, .int .i64 k, .any, .any, .any, .any, .any, .any, .any, .any, .any, .any, .any, .any, .any, .any], []⟩ : S)) (fun k => k ≤ a.length ∧ a.take k = b.take k) (fun k => a.length - k) 0 (Wk.ren 0 [] hX rfl (by decide) (by simp [q4']) (by simp) (by simp) (by simp)) ⟨by simp, by simp⟩ ?_
  rintro k ⟨hk, hinv⟩
  refine vc_sound h.mo _ _ _ (by kernel_rfl) ?_
  rcases Nat.lt_or_ge k a.length with hlt | hge
  · have hlt2 : k < b.length := by omega
    have hk1 := wrap_succ hlt hl
    have hmem := List.getElem_mem hlt
    simp [hlt, hlt2]
    refine xcall_fn (hp a[k] hmem b[k]) (by simp) ?_
    by_cases q5 : a[k] = b[k]
    · rw [eqB_yes q5]
      simp
      exact ⟨k + 1, Wk.ren 0 [] hX rfl (by decide) (by simp [hk1]) (by simp) (by simp) (by simp), ⟨by omega, take_step hlt hlt2 hinv q5⟩, by omega⟩
    · rw [eqB_no q5, eqB_no (take_no hlt hlt2 q5)]
      simp
  · have hkl : k = a.length := by omega
    subst hkl
    have hall := take_eq_all q4 hinv
    rw [eqB_yes hall]
    simp
theorem c_EqFnS (fid : FuncId) (a b : List TStmt) (hl : a.length ≤ 9223372036854775807) (hp : ∀ x ∈ a, ∀ y : TStmt, FCall P fid [.agg x.cells, .agg y.cells] (fun r => r = .bool (eqB x y))) : FCall P 37 [Ls false a, Ls false b, .fn fid []] (fun r => r = .bool (eqB a b)) := by
  refine fcall_of h.f37 rfl (by decide) h.mo (by kernel_rfl) fun X hX => ?_
  by_cases q4 : a.length = b.length
  case neg =>
    have q4' : ¬ (a.length : Int) = (b.length : Int) := by omega
    rw [eqB_no (by intro q; exact q4 (by rw [q]))]
    simp [q4']
  have q4' : (a.length : Int) = (b.length : Int) := by omega
  simp [eq_true q4']
  refine awp_loop (σ := Nat) (fun k => (⟨[.any, Ls false b, .fn fid [], .any, .any, .any, .any, .any, .any, .any, .any, .any, .any, .any, .any, Ls false a, .int .i64 a.length, .int .i64 k, .any, .any, .any, .any, .any, .any, .any, .any, .any, .any, .any, .any, .any, .any], []⟩ : S)) (fun k => k ≤ a.length ∧ a.take k = b.take k) (fun k => a.length - k) 0 (Wk.ren 0 [] hX rfl (by decide) (by simp [q4']) (by simp) (by simp) (by simp)) ⟨by simp, by simp⟩ ?_
  rintro k ⟨hk, hinv⟩
  refine vc_sound h.mo _ _ _ (by kernel_rfl) ?_
  rcases Nat.lt_or_ge k a.length with hlt | hge
  · have hlt2 : k < b.length := by omega
    have hk1 := wrap_succ hlt hl
    have hmem := List.getElem_mem hlt
    simp [hlt, hlt2]
    refine xcall_fn (hp a[k] hmem b[k]) (by simp) ?_
    by_cases q5 : a[k] = b[k]
    · rw [eqB_yes q5]
      simp
      exact ⟨k + 1, Wk.ren 0 [] hX rfl (by decide) (by simp [hk1]) (by simp) (by simp) (by simp), ⟨by omega, take_step hlt hlt2 hinv q5⟩, by omega⟩
    · rw [eqB_no q5, eqB_no (take_no hlt hlt2 q5)]
      simp
  · have hkl : k = a.length := by omega
    subst hkl
    have hall := take_eq_all q4 hinv
    rw [eqB_yes hall]
    simp
noncomputable def sB0 (a b : TStmt) : Bool := decide (a.fOp = b.fOp) && decide (a.fName = b.fName)
noncomputable def sB1 (a b : TStmt) : Bool := sB0 a b && decide (a.fOf = b.fOf)
noncomputable def sB2 (a b : TStmt) : Bool := sB1 a b && decide (a.fFlag = b.fFlag)
noncomputable def sB3 (a b : TStmt) : Bool := sB2 a b && eqB a.fE b.fE
noncomputable def sB4 (a b : TStmt) : Bool := sB3 a b && eqB a.fF b.fF
noncomputable def sB5 (a b : TStmt) : Bool := sB4 a b && decide (a.fDist = b.fDist)
noncomputable def sB6 (a b : TStmt) : Bool := sB5 a b && eqB a.fArgs b.fArgs
noncomputable def sB7 (a b : TStmt) : Bool := sB6 a b && eqB a.fBody b.fBody
noncomputable def sB8 (a b : TStmt) : Bool := sB7 a b && eqB a.fElse b.fElse
theorem sB_iff (a b : TStmt) : sB8 a b = eqB a b := by
  rw [Bool.eq_iff_iff, eqB_iff]
  simp only [sB8, sB7, sB6, sB5, sB4, sB3, sB2, sB1, sB0, Bool.and_eq_true, decide_eq_true_eq, eqB_iff]
  constructor
  · rintro ⟨⟨⟨⟨⟨⟨⟨⟨⟨h1, h2⟩, h3⟩, h4⟩, h5⟩, h6⟩, h7⟩, h8⟩, h9⟩, h10⟩
    cases a; cases b
    simp only at h1 h2 h3 h4 h5 h6 h7 h8 h9 h10
    subst h1 h2 h3 h4 h5 h6 h7 h8 h9 h10
    rfl
  · rintro rfl
    simp
set_option maxHeartbeats 8000000 in
theorem c_sameOf (a b : TStmt) (hok : a.ok) (hb : ∀ y, FCall P 23 [Ls false a.fBody, Ls false y] (fun r => r = .bool (eqB a.fBody y))) (he : ∀ y, FCall P 23 [Ls false a.fElse, Ls false y] (fun r => r = .bool (eqB a.fElse y))) : FCall P 38 [.agg a.cells, .agg b.cells] (fun r => r = .bool (eqB a b)) := by
  obtain ⟨_, _, hE, hF, ⟨hal, hao⟩, ⟨hv, hw⟩, _, _⟩ := okS hok
  rw [← sB_iff]
  refine fcall_ofB [1] h.f38 rfl (by decide) h.mo (by kernel_rfl) fun X hX => ?_
  simp
  refine awp_cutAt 12 (⟨[.any, .any, .pto 0 21 0 0, .pto 1 21 0 0, .any, .any, .any, .any, .any, .any, .any, .any, .any, .any, .any, .any, .bool (sB0 a b), .any, .any, .any, .any, .any, .any, .any, .any, .any, .any, .any, .any, .any, .any, .any, .any, .any, .any, .any, .any, .any, .any, .any, .any, .any, .any, .any, .any, .any, .any, .any, .any, .any, .any, .any, .any, .any, .any, .any, .any, .any, .any, .any, .any, .any, .any, .any, .any, .any, .any, .any, .any, .any, .any, .any, .any], [⟨47, 21, [.agg a.cells], 0, true⟩, ⟨47, 21, [.agg b.cells], 0, true⟩]⟩ : S) ?_ ?_
  · by_cases h1 : a.fOp = b.fOp <;> by_cases h2 : a.fName = b.fName <;> simp [h1, h2] <;> exact Wk.ren 0 [0, 1] hX rfl (by decide) (by simp [sB0, h1, h2]) (by simp) (by simp) (by simp)
  refine alist_cut 7 (⟨[.any, .any, .pto 0 21 0 0, .pto 1 21 0 0, .any, .any, .any, .any, .any, .any, .any, .any, .any, .any, .any, .any, .any, .any, .any, .any, .any, .any, .any, .bool (sB1 a b), .any, .any, .any, .any, .any, .any, .any, .any, .any, .any, .any, .any, .any, .any, .any, .any, .any, .any, .any, .any, .any, .any, .any, .any, .any, .any, .any, .any, .any, .any, .any, .any, .any, .any, .any, .any, .any, .any, .any, .any, .any, .any, .any, .any, .any, .any, .any, .any, .any], [⟨47, 21, [.agg a.cells], 0, true⟩, ⟨47, 21, [.agg b.cells], 0, true⟩]⟩ : S) ?_ ?_
  case refine_1 =>
    cases hB : sB0 a b
    · simp
      exact Wk.ren 0 [0, 1] hX rfl (by decide) (by simp [sB1, hB]) (by simp) (by simp) (by simp)
    by_cases hn : a.fOf = b.fOf <;> simp [hn]
    all_goals
      exact Wk.ren 0 [0, 1] hX rfl (by decide) (by simp [sB1, hB, hn]) (by simp) (by simp) (by simp)
  refine alist_cut 7 (⟨[.any, .any, .pto 0 21 0 0, .pto 1 21 0 0, .any, .any, .any, .any, .any, .any, .any, .any, .any, .any, .any, .any, .any, .any, .any, .any, .any, .any, .any, .any, .any, .any, .any, .any, .any, .any, .bool (sB2 a b), .any, .any, .any, .any, .any, .any, .any, .any, .any, .any, .any, .any, .any, .any, .any, .any, .any, .any, .any, .any, .any, .any, .any, .any, .any, .any, .any, .any, .any, .any, .any, .any, .any, .any, .any, .any, .any, .any, .any, .any, .any, .any], [⟨47, 21, [.agg a.cells], 0, true⟩, ⟨47, 21, [.agg b.cells], 0, true⟩]⟩ : S) ?_ ?_
  case refine_1 =>
    cases hB : sB1 a b
    · simp
      exact Wk.ren 0 [0, 1] hX rfl (by decide) (by simp [sB2, hB]) (by simp) (by simp) (by simp)
    cases hn1 : a.fFlag <;> cases hn2 : b.fFlag <;> simp [hn1, hn2]
    all_goals
      exact Wk.ren 0 [0, 1] hX rfl (by decide) (by simp [sB2, hB, hn1, hn2]) (by simp) (by simp) (by simp)
  refine alist_cut 7 (⟨[.any, .any, .pto 0 21 0 0, .pto 1 21 0 0, .any, .any, .any, .any, .any, .any, .any, .any, .any, .any, .any, .any, .any, .any, .any, .any, .any, .any, .any, .any, .any, .any, .any, .any, .any, .any, .any, .any, .any, .any, .any, .any, .any, .bool (sB3 a b), .any, .any, .any, .any, .any, .any, .any, .any, .any, .any, .any, .any, .any, .any, .any, .any, .any, .any, .any, .any, .any, .any, .any, .any, .any, .any, .any, .any, .any, .any, .any, .any, .any, .any, .any], [⟨47, 21, [.agg a.cells], 0, true⟩, ⟨47, 21, [.agg b.cells], 0, true⟩]⟩ : S) ?_ ?_
  case refine_1 =>
    cases hB : sB2 a b
    · simp
      exact Wk.ren 0 [0, 1] hX rfl (by decide) (by simp [sB3, hB]) (by simp) (by simp) (by simp)
    simp
    refine xcall_fn (c_Same a.fE hE b.fE) (by simp) ?_
    rw [show sameB a.fE b.fE = eqB a.fE b.fE from rfl]
    cases hn : eqB a.fE b.fE <;> simp
    all_goals
      exact Wk.ren 0 [0, 1] hX rfl (by decide) (by simp [sB3, hB, hn]) (by simp) (by simp) (by simp)
  refine alist_cut 7 (⟨[.any, .any, .pto 0 21 0 0, .pto 1 21 0 0, .any, .any, .any, .any, .any, .any, .any, .any, .any, .any, .any, .any, .any, .any, .any, .any, .any, .any, .any, .any, .any, .any, .any, .any, .any, .any, .any, .any, .any, .any, .any, .any, .any, .any, .any, .any, .any, .any, .any, .any, .bool (sB4 a b), .any, .any, .any, .any, .any, .any, .any, .any, .any, .any, .any, .any, .any, .any, .any, .any, .any, .any, .any, .any, .any, .any, .any, .any, .any, .any, .any, .any], [⟨47, 21, [.agg a.cells], 0, true⟩, ⟨47, 21, [.agg b.cells], 0, true⟩]⟩ : S) ?_ ?_
  case refine_1 =>
    cases hB : sB3 a b
    · simp
      exact Wk.ren 0 [0, 1] hX rfl (by decide) (by simp [sB4, hB]) (by simp) (by simp) (by simp)
    simp
    refine xcall_fn (c_Same a.fF hF b.fF) (by simp) ?_
    rw [show sameB a.fF b.fF = eqB a.fF b.fF from rfl]
    cases hn : eqB a.fF b.fF <;> simp
    all_goals
      exact Wk.ren 0 [0, 1] hX rfl (by decide) (by simp [sB4, hB, hn]) (by simp) (by simp) (by simp)
  refine alist_cut 7 (⟨[.any, .any, .pto 0 21 0 0, .pto 1 21 0 0, .any, .any, .any, .any, .any, .any, .any, .any, .any, .any, .any, .any, .any, .any, .any, .any, .any, .any, .any, .any, .any, .any, .any, .any, .any, .any, .any, .any, .any, .any, .any, .any, .any, .any, .any, .any, .any, .any, .any, .any, .any, .any, .any, .any, .any, .any, .any, .bool (sB5 a b), .any, .any, .any, .any, .any, .any, .any, .any, .any, .any, .any, .any, .any, .any, .any, .any, .any, .any, .any, .any, .any], [⟨47, 21, [.agg a.cells], 0, true⟩, ⟨47, 21, [.agg b.cells], 0, true⟩]⟩ : S) ?_ ?_
  case refine_1 =>
    cases hB : sB4 a b
    · simp
      exact Wk.ren 0 [0, 1] hX rfl (by decide) (by simp [sB5, hB]) (by simp) (by simp) (by simp)
    simp
    refine xcall_fn (c_DSame a.fDist b.fDist hv hw) (by simp) ?_
    by_cases hn : a.fDist = b.fDist <;> simp [hn]
    all_goals
      exact Wk.ren 0 [0, 1] hX rfl (by decide) (by simp [sB5, hB, hn]) (by simp) (by simp) (by simp)
  refine alist_cut 7 (⟨[.any, .any, .pto 0 21 0 0, .pto 1 21 0 0, .any, .any, .any, .any, .any, .any, .any, .any, .any, .any, .any, .any, .any, .any, .any, .any, .any, .any, .any, .any, .any, .any, .any, .any, .any, .any, .any, .any, .any, .any, .any, .any, .any, .any, .any, .any, .any, .any, .any, .any, .any, .any, .any, .any, .any, .any, .any, .any, .any, .any, .any, .any, .any, .any, .bool (sB6 a b), .any, .any, .any, .any, .any, .any, .any, .any, .any, .any, .any, .any, .any, .any], [⟨47, 21, [.agg a.cells], 0, true⟩, ⟨47, 21, [.agg b.cells], 0, true⟩]⟩ : S) ?_ ?_
  case refine_1 =>
    cases hB : sB5 a b
    · simp
      exact Wk.ren 0 [0, 1] hX rfl (by decide) (by simp [sB6, hB]) (by simp) (by simp) (by simp)
    simp
    refine xcall_fn (c_EqFnE 50 a.fArgs b.fArgs hal fun x hx y => c_Same x (hao x hx) y) (by simp) ?_
    cases hn : eqB a.fArgs b.fArgs <;> simp
    all_goals
      exact Wk.ren 0 [0, 1] hX rfl (by decide) (by simp [sB6, hB, hn]) (by simp) (by simp) (by simp)
  refine alist_cut 7 (⟨[.any, .any, .pto 0 21 0 0, .pto 1 21 0 0, .any, .any, .any, .any, .any, .any, .any, .any, .any, .any, .any, .any, .any, .any, .any, .any, .any, .any, .any, .any, .any, .any, .any, .any, .any, .any, .any, .any, .any, .any, .any, .any, .any, .any, .any, .any, .any, .any, .any, .any, .any, .any, .any, .any, .any, .any, .any, .any, .any, .any, .any, .any, .any, .any, .any, .any, .any, .any, .any, .any, .any, .bool (sB7 a b), .any, .any, .any, .any, .any, .any, .any], [⟨47, 21, [.agg a.cells], 0, true⟩, ⟨47, 21, [.agg b.cells], 0, true⟩]⟩ : S) ?_ ?_
  case refine_1 =>
    cases hB : sB6 a b
    · simp
      exact Wk.ren 0 [0, 1] hX rfl (by decide) (by simp [sB7, hB]) (by simp) (by simp) (by simp)
    simp
    refine xcall_fn (hb b.fBody) (by simp) ?_
    cases hn : eqB a.fBody b.fBody <;> simp
    all_goals
      exact Wk.ren 0 [0, 1] hX rfl (by decide) (by simp [sB7, hB, hn]) (by simp) (by simp) (by simp)
  refine vcOps_sound _ _ ?_
  cases hB : sB7 a b
  · simp [hB, sB8]
  simp
  refine xcall_fn (he b.fElse) (by simp) ?_
  simp [hB, sB8]
theorem c_SSame : ∀ a : List TStmt, a.length ≤ 9223372036854775807 → (∀ s ∈ a, s.ok) → ∀ b : List TStmt, FCall P 23 [Ls false a, Ls false b] (fun r => r = .bool (eqB a b)) := by
  refine stmt_ind (C := fun a => ∀ b : List TStmt, FCall P 23 [Ls false a, Ls false b] (fun r => r = .bool (eqB a b))) fun a hl hok hC b => ?_
  refine fcall_of h.f23 rfl (by decide) h.mo (by kernel_rfl) fun X hX => ?_
  simp
  refine xcall_fn (c_EqFnS 38 a b hl fun x hx y => c_sameOf x y (hok x hx) (hC x hx).1 (hC x hx).2) (by simp) ?_
  simp
end Go.Proofs.Ytadllkhmihbfhaa
