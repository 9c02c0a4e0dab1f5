/- Chapter 10: statements: no other fields than the form uses, over any program that has the text. -/
import Derived.Test.YtadllkhmihbfhaaC2
import Derived.Test.YtadllkhmihbfhaaD2
import Derived.Test.YtadllkhmihbfhaaF1
import Derived.Test.YtadllkhmihbfhaaU1
namespace Go.Proofs.Ytadllkhmihbfhaa
open Go.AL
variable {P : Program} [h : Facts P]

theorem okS {s : TStmt} (hs : s.ok) : s.fName.length ≤ 9223372036854775807 ∧ s.fOf.length ≤ 9223372036854775807 ∧ s.fE.ok ∧ s.fF.ok ∧ (s.fArgs.length ≤ 9223372036854775807 ∧ ∀ y ∈ s.fArgs, y.ok) ∧ (s.fDist.fValues.length ≤ 9223372036854775807 ∧ s.fDist.fWeights.length ≤ 9223372036854775807) ∧ (s.fBody.length ≤ 9223372036854775807 ∧ ∀ y ∈ s.fBody, y.ok) ∧ (s.fElse.length ≤ 9223372036854775807 ∧ ∀ y ∈ s.fElse, y.ok) := by
  obtain ⟨_, _, h1, h2, h3, h4, h5, h6, h7, h8, h9, h10⟩ := hs
  exact ⟨h1, h2, h3, h4, h5, ⟨h6.2.2.2.2.1.1, h6.2.2.2.2.2.1⟩, ⟨h7, h8⟩, ⟨h9, h10⟩⟩
def zE : TExpr := ⟨0, [], 0, []⟩
def zD : TDist := ⟨0, 0, 0, 0, [], []⟩
noncomputable def noneB (e : TExpr) : Bool := sameB e zE
noncomputable def fB0 (s : TStmt) (u : Tuse) : Bool := (u.fName || decide (s.fName = [])) && (u.fOf || decide (s.fOf = []))
noncomputable def fB1 (s : TStmt) (u : Tuse) : Bool := fB0 s u && (u.fE || noneB s.fE)
noncomputable def fB2 (s : TStmt) (u : Tuse) : Bool := fB1 s u && (u.fF || noneB s.fF)
noncomputable def fB3 (s : TStmt) (u : Tuse) : Bool := fB2 s u && (u.fArgs || decide (s.fArgs = []))
noncomputable def fB4 (s : TStmt) (u : Tuse) : Bool := fB3 s u && (u.fDist || decide (s.fDist = zD))
noncomputable def fB5 (s : TStmt) (u : Tuse) : Bool := fB4 s u && (u.fFlag || !s.fFlag)
noncomputable def fB6 (s : TStmt) (u : Tuse) : Bool := fB5 s u && (u.fBody || decide (s.fBody = []))
noncomputable def fB7 (s : TStmt) (u : Tuse) : Bool := fB6 s u && (u.fOther || decide (s.fElse = []))
theorem c_form1 (e : TExpr) (hok : e.ok) : FCall P 55 [.agg e.cells] (fun r => r = .bool (noneB e)) := by
  refine fcall_of h.f55 rfl (by decide) h.mo (by kernel_rfl) fun X hX => ?_
  simp
  refine xcall_fn (c_Same e hok zE) (by simp [zE]) ?_
  simp [noneB]
theorem c_zero (e : TExpr) : FCall P 81 [.agg e.cells] (fun r => r = .bool (noneB e)) := by
  refine fcall_of h.f81 rfl (by decide) h.mo (by kernel_rfl) fun X hX => ?_
  obtain ⟨op, nm, n, ks⟩ := e
  unfold noneB
  by_cases q1 : op = 0
  case neg =>
    rw [sameB_no (by simp [q1, zE])]
    simp [q1]
  by_cases q2 : nm = []
  case neg =>
    rw [sameB_no (by simp [q2, zE])]
    simp [q1, q2]
  by_cases q3 : n = 0
  case neg =>
    rw [sameB_no (by simp [q3, zE])]
    simp [q1, q2, q3]
  by_cases q4 : ks = []
  case neg =>
    rw [sameB_no (by simp [q4, zE])]
    simp [q1, q2, q3, q4]
  subst q1 q2 q3 q4
  rw [show sameB ⟨0, [], 0, []⟩ zE = true from sameB_self _]
  simp
set_option maxHeartbeats 8000000 in
theorem c_form (s : TStmt) (u : Tuse) (hok : s.ok) : FCall P 45 [.agg s.cells, .agg u.cells] (fun r => r = .bool (fB7 s u)) := by
  obtain ⟨_, _, hE, hF, _, ⟨hv, hw⟩, _, _⟩ := okS hok
  refine fcall_ofB [2] h.f45 rfl (by decide) h.mo (by kernel_rfl) fun X hX => ?_
  simp
  refine awp_cutAt 16 (⟨[.any, .any, .pto 0 21 0 0, .pto 1 9 0 0, .any, .fn 55 [], .any, .any, .any, .any, .any, .any, .any, .any, .any, .any, .any, .any, .any, .any, .any, .bool (fB0 s u), .any, .any, .any, .any, .any, .any, .any, .any, .any, .any, .any, .any, .any, .any, .any, .any, .any, .any, .any, .any, .any, .any, .any, .any, .any, .any, .any, .any, .any, .any, .any, .any, .any, .any, .any, .any, .any, .any, .any, .any, .any, .any, .any, .any, .any, .any, .any, .any, .any, .any, .any, .any, .any, .any, .any, .any, .any, .any, .any, .any, .any, .any, .any, .any, .any, .any, .any, .any, .any], [⟨47, 21, [.agg s.cells], 0, true⟩, ⟨67, 9, [.agg u.cells], 0, true⟩]⟩ : S) ?_ ?_
  · cases hu : u.fName <;> by_cases hs : s.fName = [] <;> cases hv : u.fOf <;> by_cases ht : s.fOf = [] <;> simp [hu, hs, hv, ht] <;> exact Wk.ren 0 [0, 1] hX rfl (by decide) (by simp [fB0, hu, hs, hv, ht]) (by simp) (by simp) (by simp)
  refine alist_cut 10 (⟨[.any, .any, .pto 0 21 0 0, .pto 1 9 0 0, .any, .fn 55 [], .any, .any, .any, .any, .any, .any, .any, .any, .any, .any, .any, .any, .any, .any, .any, .any, .any, .any, .any, .any, .any, .any, .any, .any, .any, .bool (fB1 s u), .any, .any, .any, .any, .any, .any, .any, .any, .any, .any, .any, .any, .any, .any, .any, .any, .any, .any, .any, .any, .any, .any, .any, .any, .any, .any, .any, .any, .any, .any, .any, .any, .any, .any, .any, .any, .any, .any, .any, .any, .any, .any, .any, .any, .any, .any, .any, .any, .any, .any, .any, .any, .any, .any, .any, .any, .any, .any, .any], [⟨47, 21, [.agg s.cells], 0, true⟩, ⟨67, 9, [.agg u.cells], 0, true⟩]⟩ : S) ?_ ?_
  case refine_1 =>
    cases hB : fB0 s u
    · simp
      exact Wk.ren 0 [0, 1] hX rfl (by decide) (by simp [fB1, hB]) (by simp) (by simp) (by simp)
    cases hu : u.fE
    case true =>
      simp [hu]
      exact Wk.ren 0 [0, 1] hX rfl (by decide) (by simp [fB1, hB, hu]) (by simp) (by simp) (by simp)
    simp [hu]
    refine xcall_fn (c_form1 s.fE hE) (by simp) ?_
    cases hn : noneB s.fE <;> simp
    all_goals
      exact Wk.ren 0 [0, 1] hX rfl (by decide) (by simp [fB1, hB, hu, hn]) (by simp) (by simp) (by simp)
  refine alist_cut 10 (⟨[.any, .any, .pto 0 21 0 0, .pto 1 9 0 0, .any, .fn 55 [], .any, .any, .any, .any, .any, .any, .any, .any, .any, .any, .any, .any, .any, .any, .any, .any, .any, .any, .any, .any, .any, .any, .any, .any, .any, .any, .any, .any, .any, .any, .any, .any, .any, .any, .any, .bool (fB2 s u), .any, .any, .any, .any, .any, .any, .any, .any, .any, .any, .any, .any, .any, .any, .any, .any, .any, .any, .any, .any, .any, .any, .any, .any, .any, .any, .any, .any, .any, .any, .any, .any, .any, .any, .any, .any, .any, .any, .any, .any, .any, .any, .any, .any, .any, .any, .any, .any, .any], [⟨47, 21, [.agg s.cells], 0, true⟩, ⟨67, 9, [.agg u.cells], 0, true⟩]⟩ : S) ?_ ?_
  case refine_1 =>
    cases hB : fB1 s u
    · simp
      exact Wk.ren 0 [0, 1] hX rfl (by decide) (by simp [fB2, hB]) (by simp) (by simp) (by simp)
    cases hu : u.fF
    case true =>
      simp [hu]
      exact Wk.ren 0 [0, 1] hX rfl (by decide) (by simp [fB2, hB, hu]) (by simp) (by simp) (by simp)
    simp [hu]
    refine xcall_fn (c_form1 s.fF hF) (by simp) ?_
    cases hn : noneB s.fF <;> simp
    all_goals
      exact Wk.ren 0 [0, 1] hX rfl (by decide) (by simp [fB2, hB, hu, hn]) (by simp) (by simp) (by simp)
  refine alist_cut 10 (⟨[.any, .any, .pto 0 21 0 0, .pto 1 9 0 0, .any, .fn 55 [], .any, .any, .any, .any, .any, .any, .any, .any, .any, .any, .any, .any, .any, .any, .any, .any, .any, .any, .any, .any, .any, .any, .any, .any, .any, .any, .any, .any, .any, .any, .any, .any, .any, .any, .any, .any, .any, .any, .any, .any, .any, .any, .any, .any, .any, .bool (fB3 s u), .any, .any, .any, .any, .any, .any, .any, .any, .any, .any, .any, .any, .any, .any, .any, .any, .any, .any, .any, .any, .any, .any, .any, .any, .any, .any, .any, .any, .any, .any, .any, .any, .any, .any, .any, .any, .any, .any, .any], [⟨47, 21, [.agg s.cells], 0, true⟩, ⟨67, 9, [.agg u.cells], 0, true⟩]⟩ : S) ?_ ?_
  case refine_1 =>
    cases hB : fB2 s u
    · simp
      exact Wk.ren 0 [0, 1] hX rfl (by decide) (by simp [fB3, hB]) (by simp) (by simp) (by simp)
    cases hu : u.fArgs
    case true =>
      simp [hu]
      exact Wk.ren 0 [0, 1] hX rfl (by decide) (by simp [fB3, hB, hu]) (by simp) (by simp) (by simp)
    by_cases hn : s.fArgs = [] <;> simp [hu, hn]
    all_goals
      exact Wk.ren 0 [0, 1] hX rfl (by decide) (by simp [fB3, hB, hu, hn]) (by simp) (by simp) (by simp)
  refine alist_cut 10 (⟨[.any, .any, .pto 0 21 0 0, .pto 1 9 0 0, .any, .fn 55 [], .any, .any, .any, .any, .any, .any, .any, .any, .any, .any, .any, .any, .any, .any, .any, .any, .any, .any, .any, .any, .any, .any, .any, .any, .any, .any, .any, .any, .any, .any, .any, .any, .any, .any, .any, .any, .any, .any, .any, .any, .any, .any, .any, .any, .any, .any, .any, .any, .any, .any, .any, .any, .any, .any, .any, .bool (fB4 s u), .any, .any, .any, .any, .any, .any, .any, .any, .any, .any, .any, .any, .any, .any, .any, .any, .any, .any, .any, .any, .any, .any, .any, .any, .any, .any, .any, .any, .any], [⟨47, 21, [.agg s.cells], 0, true⟩, ⟨67, 9, [.agg u.cells], 0, true⟩]⟩ : S) ?_ ?_
  case refine_1 =>
    cases hB : fB3 s u
    · simp
      exact Wk.ren 0 [0, 1] hX rfl (by decide) (by simp [fB4, hB]) (by simp) (by simp) (by simp)
    cases hu : u.fDist
    case true =>
      simp [hu]
      exact Wk.ren 0 [0, 1] hX rfl (by decide) (by simp [fB4, hB, hu]) (by simp) (by simp) (by simp)
    simp [hu]
    refine xcall_fn (c_DSame s.fDist zD hv hw) (by simp [zD]) ?_
    by_cases hn : s.fDist = zD <;> simp [hn]
    all_goals
      exact Wk.ren 0 [0, 1] hX rfl (by decide) (by simp [fB4, hB, hu, hn]) (by simp) (by simp) (by simp)
  refine alist_cut 9 (⟨[.any, .any, .pto 0 21 0 0, .pto 1 9 0 0, .any, .fn 55 [], .any, .any, .any, .any, .any, .any, .any, .any, .any, .any, .any, .any, .any, .any, .any, .any, .any, .any, .any, .any, .any, .any, .any, .any, .any, .any, .any, .any, .any, .any, .any, .any, .any, .any, .any, .any, .any, .any, .any, .any, .any, .any, .any, .any, .any, .any, .any, .any, .any, .any, .any, .any, .any, .any, .any, .any, .any, .any, .any, .any, .any, .any, .any, .any, .bool (fB5 s u), .any, .any, .any, .any, .any, .any, .any, .any, .any, .any, .any, .any, .any, .any, .any, .any, .any, .any, .any, .any], [⟨47, 21, [.agg s.cells], 0, true⟩, ⟨67, 9, [.agg u.cells], 0, true⟩]⟩ : S) ?_ ?_
  case refine_1 =>
    cases hB : fB4 s u
    · simp
      exact Wk.ren 0 [0, 1] hX rfl (by decide) (by simp [fB5, hB]) (by simp) (by simp) (by simp)
    cases hu : u.fFlag
    case true =>
      simp [hu]
      exact Wk.ren 0 [0, 1] hX rfl (by decide) (by simp [fB5, hB, hu]) (by simp) (by simp) (by simp)
    cases hn : s.fFlag <;> simp [hu, hn]
    all_goals
      exact Wk.ren 0 [0, 1] hX rfl (by decide) (by simp [fB5, hB, hu, hn]) (by simp) (by simp) (by simp)
  refine alist_cut 10 (⟨[.any, .any, .pto 0 21 0 0, .pto 1 9 0 0, .any, .fn 55 [], .any, .any, .any, .any, .any, .any, .any, .any, .any, .any, .any, .any, .any, .any, .any, .any, .any, .any, .any, .any, .any, .any, .any, .any, .any, .any, .any, .any, .any, .any, .any, .any, .any, .any, .any, .any, .any, .any, .any, .any, .any, .any, .any, .any, .any, .any, .any, .any, .any, .any, .any, .any, .any, .any, .any, .any, .any, .any, .any, .any, .any, .any, .any, .any, .any, .any, .any, .any, .any, .any, .any, .any, .any, .any, .bool (fB6 s u), .any, .any, .any, .any, .any, .any, .any, .any, .any, .any], [⟨47, 21, [.agg s.cells], 0, true⟩, ⟨67, 9, [.agg u.cells], 0, true⟩]⟩ : S) ?_ ?_
  case refine_1 =>
    cases hB : fB5 s u
    · simp
      exact Wk.ren 0 [0, 1] hX rfl (by decide) (by simp [fB6, hB]) (by simp) (by simp) (by simp)
    cases hu : u.fBody
    case true =>
      simp [hu]
      exact Wk.ren 0 [0, 1] hX rfl (by decide) (by simp [fB6, hB, hu]) (by simp) (by simp) (by simp)
    by_cases hn : s.fBody = [] <;> simp [hu, hn]
    all_goals
      exact Wk.ren 0 [0, 1] hX rfl (by decide) (by simp [fB6, hB, hu, hn]) (by simp) (by simp) (by simp)
  refine vcOps_sound _ _ ?_
  cases hB : fB6 s u
  · simp [hB, fB7]
  cases hu : u.fOther
  case true =>
    simp [hB, hu, fB7]
  by_cases hn : s.fElse = [] <;> simp [hB, hu, hn, fB7]
end Go.Proofs.Ytadllkhmihbfhaa
