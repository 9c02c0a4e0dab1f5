/- Chapter 10: statements: the reference's form of a statement, over any program that has the text. -/
import Derived.Test.YtadllkhmihbfhaaG1
namespace Go.Proofs.Ytadllkhmihbfhaa
open Go.AL
variable {P : Program} [h : Facts P]

noncomputable def fx1 (s : TStmt) (u : Tuse) : Bool := u.fName || decide (s.fName = [])
noncomputable def fx2 (s : TStmt) (u : Tuse) : Bool := fx1 s u && (u.fOf || decide (s.fOf = []))
noncomputable def fx3 (s : TStmt) (u : Tuse) : Bool := u.fE || noneB s.fE
noncomputable def fx4 (s : TStmt) (u : Tuse) : Bool := fx3 s u && (u.fF || noneB s.fF)
noncomputable def fx5 (s : TStmt) (u : Tuse) : Bool := fx4 s u && (u.fArgs || decide (s.fArgs = []))
noncomputable def fx6 (s : TStmt) (u : Tuse) : Bool := u.fBody || decide (s.fBody = [])
noncomputable def fx7 (s : TStmt) (u : Tuse) : Bool := fx6 s u && (u.fOther || decide (s.fElse = []))
noncomputable def fx8 (ok : Bool) (s : TStmt) (u : Tuse) : Bool := ((ok && fx2 s u) && fx5 s u) && fx7 s u
noncomputable def fx9 (ok : Bool) (s : TStmt) (u : Tuse) : Bool := fx8 ok s u && (u.fDist || decide (s.fDist = zD))
noncomputable def fx10 (ok : Bool) (s : TStmt) (u : Tuse) : Bool := fx9 ok s u && (u.fFlag || !s.fFlag)
theorem fx_same (ok : Bool) (s : TStmt) (u : Tuse) : fx10 ok s u = (ok && fB7 s u) := by
  simp only [fx10, fx9, fx8, fx7, fx6, fx5, fx4, fx3, fx2, fx1, fB7, fB6, fB5, fB4, fB3, fB2, fB1, fB0]
  generalize (u.fName || decide (s.fName = [])) = a
  generalize (u.fOf || decide (s.fOf = [])) = b
  generalize (u.fE || noneB s.fE) = c
  generalize (u.fF || noneB s.fF) = d
  generalize (u.fArgs || decide (s.fArgs = [])) = e
  generalize (u.fDist || decide (s.fDist = zD)) = f
  generalize (u.fFlag || !s.fFlag) = g
  generalize (u.fBody || decide (s.fBody = [])) = i
  generalize (u.fOther || decide (s.fElse = [])) = j
  cases a <;> cases b <;> cases c <;> cases d <;> cases e <;> cases f <;> cases g <;> cases i <;> cases j <;> cases ok <;> rfl
/-- A known form, and no other fields than it uses. -/
noncomputable def fmdB (s : TStmt) : Bool := (usesT s.fOp).2 && fB7 s (usesT s.fOp).1
set_option maxHeartbeats 8000000 in
theorem c_formed (s : TStmt) (hok : s.ok) : FCall P 60 [.agg s.cells] (fun r => r = .bool (fmdB s)) := by
  obtain ⟨_, _, hE, hF, _, ⟨hv, hw⟩, _, _⟩ := okS hok
  refine fcall_ofB [2, 3, 4, 5] h.f60 rfl (by decide) h.mo (by kernel_rfl) fun X hX => ?_
  simp
  refine xcall_fn (c_ROf s.fOp) (by simp) ?_
  unfold fmdB
  rw [← fx_same]
  obtain ⟨⟨u, ok⟩, hq⟩ : ∃ q, usesT s.fOp = q := ⟨_, rfl⟩
  rw [hq]
  simp [formOf]
  refine awp_cutAt 7 (⟨[.any, .pto 0 21 0 0, .any, .pto 1 9 0 0, .bool ok, .any, .any, .any, .any, .any, .any, .any, .any, .any, .any, .any, .any, .any, .any, .any, .bool (fx1 s u), .any, .any, .any, .any, .any, .any, .any, .any, .any, .any, .any, .any, .any, .any, .any, .any, .any, .any, .any, .any, .any, .any, .any, .any, .any, .any, .any, .any, .any, .any, .any, .any, .any, .any, .any, .any, .any, .any, .any, .any, .any, .any, .any, .any, .any, .any, .any, .any, .any, .any, .any, .any, .any, .any, .any, .any, .any, .any, .any, .any, .any, .any, .any, .any, .any, .any, .any, .any, .any, .any, .any, .any, .any, .any, .any, .any, .any, .any, .any, .any, .any, .any], [⟨47, 21, [.agg s.cells], 0, true⟩, ⟨87, 9, [.agg [.bool u.fName, .bool u.fOf, .bool u.fE, .bool u.fF, .bool u.fArgs, .bool u.fDist, .bool u.fFlag, .bool u.fBody, .bool u.fOther]], 0, true⟩]⟩ : S) ?_ ?_
  case refine_1 =>
    cases hu : u.fName
    case true =>
      simp
      exact Wk.ren 0 [0, 1] hX rfl (by decide) (by simp [fx1, hu]) (by simp) (by simp) (by simp)
    by_cases hn : s.fName = [] <;> simp [hn]
    all_goals
      exact Wk.ren 0 [0, 1] hX rfl (by decide) (by simp [fx1, hu, hn]) (by simp) (by simp) (by simp)
  refine alist_cut 10 (⟨[.any, .pto 0 21 0 0, .any, .pto 1 9 0 0, .bool ok, .bool (fx2 s u), .any, .any, .any, .any, .any, .any, .any, .any, .any, .any, .any, .any, .any, .any, .any, .any, .any, .any, .any, .any, .any, .any, .any, .any, .any, .any, .any, .any, .any, .any, .any, .any, .any, .any, .any, .any, .any, .any, .any, .any, .any, .any, .any, .any, .any, .any, .any, .any, .any, .any, .any, .any, .any, .any, .any, .any, .any, .any, .any, .any, .any, .any, .any, .any, .any, .any, .any, .any, .any, .any, .any, .any, .any, .any, .any, .any, .any, .any, .any, .any, .any, .any, .any, .any, .any, .any, .any, .any, .any, .any, .any, .any, .any, .any, .any, .any, .any], [⟨47, 21, [.agg s.cells], 0, true⟩, ⟨87, 9, [.agg [.bool u.fName, .bool u.fOf, .bool u.fE, .bool u.fF, .bool u.fArgs, .bool u.fDist, .bool u.fFlag, .bool u.fBody, .bool u.fOther]], 0, true⟩]⟩ : S) ?_ ?_
  case refine_1 =>
    cases hB : fx1 s u
    · simp
      exact Wk.ren 0 [0, 1] hX rfl (by decide) (by simp [fx2, hB]) (by simp) (by simp) (by simp)
    cases hu : u.fOf
    case true =>
      simp
      exact Wk.ren 0 [0, 1] hX rfl (by decide) (by simp [fx2, hB, hu]) (by simp) (by simp) (by simp)
    by_cases hn : s.fOf = [] <;> simp [hn]
    all_goals
      exact Wk.ren 0 [0, 1] hX rfl (by decide) (by simp [fx2, hB, hu, hn]) (by simp) (by simp) (by simp)
  refine alist_nil ?_
  simp
  refine awp_cutAt 7 (⟨[.any, .pto 0 21 0 0, .any, .pto 1 9 0 0, .bool ok, .bool (fx2 s u), .any, .any, .any, .any, .any, .any, .any, .any, .any, .any, .any, .any, .any, .any, .any, .any, .any, .any, .any, .any, .any, .any, .any, .any, .any, .any, .any, .any, .any, .any, .bool (fx3 s u), .any, .any, .any, .any, .any, .any, .any, .any, .any, .any, .any, .any, .any, .any, .any, .any, .any, .any, .any, .any, .any, .any, .any, .any, .any, .any, .any, .any, .any, .any, .any, .any, .any, .any, .any, .any, .any, .any, .any, .any, .any, .any, .any, .any, .any, .any, .any, .any, .any, .any, .any, .any, .any, .any, .any, .any, .any, .any, .any, .any, .any, .any, .any, .any, .any, .any], [⟨47, 21, [.agg s.cells], 0, true⟩, ⟨87, 9, [.agg [.bool u.fName, .bool u.fOf, .bool u.fE, .bool u.fF, .bool u.fArgs, .bool u.fDist, .bool u.fFlag, .bool u.fBody, .bool u.fOther]], 0, true⟩]⟩ : S) ?_ ?_
  case refine_1 =>
    cases hu : u.fE
    case true =>
      simp
      exact Wk.ren 0 [0, 1] hX rfl (by decide) (by simp [fx3, hu]) (by simp) (by simp) (by simp)
    simp
    refine xcall_fn (c_zero s.fE) (by simp) ?_
    cases hn : noneB s.fE <;> simp
    all_goals
      exact Wk.ren 0 [0, 1] hX rfl (by decide) (by simp [fx3, hu, hn]) (by simp) (by simp) (by simp)
  refine alist_cut 9 (⟨[.any, .pto 0 21 0 0, .any, .pto 1 9 0 0, .bool ok, .bool (fx2 s u), .any, .any, .any, .any, .any, .any, .any, .any, .any, .any, .any, .any, .any, .any, .any, .any, .any, .any, .any, .any, .any, .any, .any, .any, .any, .any, .any, .any, .any, .any, .any, .any, .any, .any, .any, .any, .any, .any, .any, .bool (fx4 s u), .any, .any, .any, .any, .any, .any, .any, .any, .any, .any, .any, .any, .any, .any, .any, .any, .any, .any, .any, .any, .any, .any, .any, .any, .any, .any, .any, .any, .any, .any, .any, .any, .any, .any, .any, .any, .any, .any, .any, .any, .any, .any, .any, .any, .any, .any, .any, .any, .any, .any, .any, .any, .any, .any, .any, .any, .any], [⟨47, 21, [.agg s.cells], 0, true⟩, ⟨87, 9, [.agg [.bool u.fName, .bool u.fOf, .bool u.fE, .bool u.fF, .bool u.fArgs, .bool u.fDist, .bool u.fFlag, .bool u.fBody, .bool u.fOther]], 0, true⟩]⟩ : S) ?_ ?_
  case refine_1 =>
    cases hB : fx3 s u
    · simp
      exact Wk.ren 0 [0, 1] hX rfl (by decide) (by simp [fx4, hB]) (by simp) (by simp) (by simp)
    cases hu : u.fF
    case true =>
      simp
      exact Wk.ren 0 [0, 1] hX rfl (by decide) (by simp [fx4, hB, hu]) (by simp) (by simp) (by simp)
    simp
    refine xcall_fn (c_zero s.fF) (by simp) ?_
    cases hn : noneB s.fF <;> simp
    all_goals
      exact Wk.ren 0 [0, 1] hX rfl (by decide) (by simp [fx4, hB, hu, hn]) (by simp) (by simp) (by simp)
  refine alist_cut 11 (⟨[.any, .pto 0 21 0 0, .any, .pto 1 9 0 0, .bool ok, .bool (fx2 s u), .bool (fx5 s u), .any, .any, .any, .any, .any, .any, .any, .any, .any, .any, .any, .any, .any, .any, .any, .any, .any, .any, .any, .any, .any, .any, .any, .any, .any, .any, .any, .any, .any, .any, .any, .any, .any, .any, .any, .any, .any, .any, .any, .any, .any, .any, .any, .any, .any, .any, .any, .any, .any, .any, .any, .any, .any, .any, .any, .any, .any, .any, .any, .any, .any, .any, .any, .any, .any, .any, .any, .any, .any, .any, .any, .any, .any, .any, .any, .any, .any, .any, .any, .any, .any, .any, .any, .any, .any, .any, .any, .any, .any, .any, .any, .any, .any, .any, .any, .any], [⟨47, 21, [.agg s.cells], 0, true⟩, ⟨87, 9, [.agg [.bool u.fName, .bool u.fOf, .bool u.fE, .bool u.fF, .bool u.fArgs, .bool u.fDist, .bool u.fFlag, .bool u.fBody, .bool u.fOther]], 0, true⟩]⟩ : S) ?_ ?_
  case refine_1 =>
    cases hB : fx4 s u
    · simp
      exact Wk.ren 0 [0, 1] hX rfl (by decide) (by simp [fx5, hB]) (by simp) (by simp) (by simp)
    cases hu : u.fArgs
    case true =>
      simp
      exact Wk.ren 0 [0, 1] hX rfl (by decide) (by simp [fx5, hB, hu]) (by simp) (by simp) (by simp)
    by_cases hn : s.fArgs = [] <;> simp [hn]
    all_goals
      exact Wk.ren 0 [0, 1] hX rfl (by decide) (by simp [fx5, hB, hu, hn]) (by simp) (by simp) (by simp)
  refine alist_nil ?_
  simp
  refine awp_cutAt 8 (⟨[.any, .pto 0 21 0 0, .any, .pto 1 9 0 0, .bool ok, .bool (fx2 s u), .bool (fx5 s u), .any, .any, .any, .any, .any, .any, .any, .any, .any, .any, .any, .any, .any, .any, .any, .any, .any, .any, .any, .any, .any, .any, .any, .any, .any, .any, .any, .any, .any, .any, .any, .any, .any, .any, .any, .any, .any, .any, .any, .any, .any, .any, .any, .any, .any, .any, .any, .any, .any, .any, .any, .any, .any, .any, .any, .any, .bool (fx6 s u), .any, .any, .any, .any, .any, .any, .any, .any, .any, .any, .any, .any, .any, .any, .any, .any, .any, .any, .any, .any, .any, .any, .any, .any, .any, .any, .any, .any, .any, .any, .any, .any, .any, .any, .any, .any, .any, .any, .any], [⟨47, 21, [.agg s.cells], 0, true⟩, ⟨87, 9, [.agg [.bool u.fName, .bool u.fOf, .bool u.fE, .bool u.fF, .bool u.fArgs, .bool u.fDist, .bool u.fFlag, .bool u.fBody, .bool u.fOther]], 0, true⟩]⟩ : S) ?_ ?_
  case refine_1 =>
    cases hu : u.fBody
    case true =>
      simp
      exact Wk.ren 0 [0, 1] hX rfl (by decide) (by simp [fx6, hu]) (by simp) (by simp) (by simp)
    by_cases hn : s.fBody = [] <;> simp [hn]
    all_goals
      exact Wk.ren 0 [0, 1] hX rfl (by decide) (by simp [fx6, hu, hn]) (by simp) (by simp) (by simp)
  refine alist_cut 11 (⟨[.any, .pto 0 21 0 0, .any, .pto 1 9 0 0, .bool ok, .bool (fx2 s u), .bool (fx5 s u), .bool (fx7 s u), .any, .any, .any, .any, .any, .any, .any, .any, .any, .any, .any, .any, .any, .any, .any, .any, .any, .any, .any, .any, .any, .any, .any, .any, .any, .any, .any, .any, .any, .any, .any, .any, .any, .any, .any, .any, .any, .any, .any, .any, .any, .any, .any, .any, .any, .any, .any, .any, .any, .any, .any, .any, .any, .any, .any, .any, .any, .any, .any, .any, .any, .any, .any, .any, .any, .any, .any, .any, .any, .any, .any, .any, .any, .any, .any, .any, .any, .any, .any, .any, .any, .any, .any, .any, .any, .any, .any, .any, .any, .any, .any, .any, .any, .any, .any], [⟨47, 21, [.agg s.cells], 0, true⟩, ⟨87, 9, [.agg [.bool u.fName, .bool u.fOf, .bool u.fE, .bool u.fF, .bool u.fArgs, .bool u.fDist, .bool u.fFlag, .bool u.fBody, .bool u.fOther]], 0, true⟩]⟩ : S) ?_ ?_
  case refine_1 =>
    cases hB : fx6 s u
    · simp
      exact Wk.ren 0 [0, 1] hX rfl (by decide) (by simp [fx7, hB]) (by simp) (by simp) (by simp)
    cases hu : u.fOther
    case true =>
      simp
      exact Wk.ren 0 [0, 1] hX rfl (by decide) (by simp [fx7, hB, hu]) (by simp) (by simp) (by simp)
    by_cases hn : s.fElse = [] <;> simp [hn]
    all_goals
      exact Wk.ren 0 [0, 1] hX rfl (by decide) (by simp [fx7, hB, hu, hn]) (by simp) (by simp) (by simp)
  refine alist_nil ?_
  simp
  refine awp_cutAt 10 (⟨[.any, .pto 0 21 0 0, .any, .pto 1 9 0 0, .bool ok, .any, .any, .any, .any, .any, .any, .any, .any, .any, .any, .any, .any, .any, .any, .any, .any, .any, .any, .any, .any, .any, .any, .any, .any, .any, .any, .any, .any, .any, .any, .any, .any, .any, .any, .any, .any, .any, .any, .any, .any, .any, .any, .any, .any, .any, .any, .any, .any, .any, .any, .any, .any, .any, .any, .any, .any, .any, .any, .any, .any, .any, .any, .any, .any, .any, .any, .any, .any, .any, .any, .any, .any, .any, .any, .any, .any, .any, .any, .bool (fx8 ok s u), .any, .any, .any, .any, .any, .any, .any, .any, .any, .any, .any, .any, .any, .any, .any, .any, .any, .any, .any], [⟨47, 21, [.agg s.cells], 0, true⟩, ⟨87, 9, [.agg [.bool u.fName, .bool u.fOf, .bool u.fE, .bool u.fF, .bool u.fArgs, .bool u.fDist, .bool u.fFlag, .bool u.fBody, .bool u.fOther]], 0, true⟩]⟩ : S) ?_ ?_
  case refine_1 =>
    cases h0 : ok
    · simp
      exact Wk.ren 0 [0, 1] hX rfl (by decide) (by simp [fx8]) (by simp) (by simp) (by simp)
    cases h2 : fx2 s u
    · simp
      exact Wk.ren 0 [0, 1] hX rfl (by decide) (by simp [fx8, h2]) (by simp) (by simp) (by simp)
    cases h5 : fx5 s u
    · simp
      exact Wk.ren 0 [0, 1] hX rfl (by decide) (by simp [fx8, h2, h5]) (by simp) (by simp) (by simp)
    cases h7 : fx7 s u
    · simp
      exact Wk.ren 0 [0, 1] hX rfl (by decide) (by simp [fx8, h2, h5, h7]) (by simp) (by simp) (by simp)
    simp
    exact Wk.ren 0 [0, 1] hX rfl (by decide) (by simp [fx8, h2, h5, h7]) (by simp) (by simp) (by simp)
  refine alist_cut 10 (⟨[.any, .pto 0 21 0 0, .any, .pto 1 9 0 0, .bool ok, .any, .any, .any, .any, .any, .any, .any, .any, .any, .any, .any, .any, .any, .any, .any, .any, .any, .any, .any, .any, .any, .any, .any, .any, .any, .any, .any, .any, .any, .any, .any, .any, .any, .any, .any, .any, .any, .any, .any, .any, .any, .any, .any, .any, .any, .any, .any, .any, .any, .any, .any, .any, .any, .any, .any, .any, .any, .any, .any, .any, .any, .any, .any, .any, .any, .any, .any, .any, .any, .any, .any, .any, .any, .any, .any, .any, .any, .any, .any, .any, .any, .any, .any, .any, .any, .any, .any, .any, .bool (fx9 ok s u), .any, .any, .any, .any, .any, .any, .any, .any, .any], [⟨47, 21, [.agg s.cells], 0, true⟩, ⟨87, 9, [.agg [.bool u.fName, .bool u.fOf, .bool u.fE, .bool u.fF, .bool u.fArgs, .bool u.fDist, .bool u.fFlag, .bool u.fBody, .bool u.fOther]], 0, true⟩]⟩ : S) ?_ ?_
  case refine_1 =>
    cases hB : fx8 ok s u
    · simp
      exact Wk.ren 0 [0, 1] hX rfl (by decide) (by simp [fx9, hB]) (by simp) (by simp) (by simp)
    cases hu : u.fDist
    case true =>
      simp
      exact Wk.ren 0 [0, 1] hX rfl (by decide) (by simp [fx9, hB, hu]) (by simp) (by simp) (by simp)
    simp
    refine xcall_fn (c_RDSame s.fDist zD hv hw) (by simp [zD]) ?_
    by_cases hn : s.fDist = zD <;> simp [hn]
    all_goals
      exact Wk.ren 0 [0, 1] hX rfl (by decide) (by simp [fx9, hB, hu, hn]) (by simp) (by simp) (by simp)
  refine vcOps_sound _ _ ?_
  cases hB : fx9 ok s u
  · simp [hB, fx10]
  cases hu : u.fFlag
  case true =>
    simp [hB, hu, fx10]
  cases hn : s.fFlag <;> simp [hB, hu, hn, fx10]
end Go.Proofs.Ytadllkhmihbfhaa
