/- Chapter 10: statements: the reference's check of one statement, over any program that has the text. -/
import Derived.Test.YtadllkhmihbfhaaG2
namespace Go.Proofs.Ytadllkhmihbfhaa
open Go.AL
variable {P : Program} [h : Facts P]

def ea (s : TStmt) (u : Tuse) : Int := if u.fE = true then chkE s.fE else 0
def eb (s : TStmt) (u : Tuse) : Int := if ea s u = 0 ∧ u.fF = true then chkE s.fF else ea s u
def ec (s : TStmt) (u : Tuse) : Int := if eb s u = 0 ∧ 6 < s.fArgs.length then 6 else eb s u
/-- The first error of two. -/
def nz (e r : Int) : Int := if e ≠ 0 then e else r
theorem nz_0 (r : Int) : nz 0 r = r := rfl
theorem nz_ne {e : Int} (r : Int) (he : ¬ e = 0) : nz e r = e := by unfold nz; rw [if_pos he]
theorem exprE_ec (s : TStmt) (u : Tuse) : exprE s u = nz (ec s u) (argsE s.fArgs) := by
  unfold nz exprE ec eb ea
  by_cases h1 : u.fE = true <;> by_cases h2 : chkE s.fE = 0 <;> by_cases h3 : u.fF = true <;> by_cases h4 : chkE s.fF = 0 <;> by_cases h5 : 6 < s.fArgs.length <;> simp [h1, h2, h3, h4, h5]
set_option maxHeartbeats 4000000 in
theorem c_exprs (s : TStmt) (u : Tuse) (hok : s.ok) : FCall P 62 [.agg s.cells, .agg (formOf u).cells] (fun r => r = .int .i64 (exprE s u)) := by
  obtain ⟨hnl, hol, hE, hF, ⟨hal, hao⟩, ⟨hv, hw⟩, _, _⟩ := okS hok
  refine fcall_ofA h.f62 rfl (by decide) fun X hX => ?_
  refine awp_seq (vc_sound h.mo _ _ _ (by kernel_rfl) ?_)
  simp [formOf]
  refine awp_seq (vc_sound h.mo _ _ _ (by kernel_rfl) ?_)
  simp
  refine awp_cut (⟨[.any, .any, .pto 0 21 0 0, .pto 1 9 0 0, .any, .int .i64 (ea s u), .any, .any, .any, .any, .any, .any, .any, .any, .any, .any, .any, .any, .any, .any, .any, .any, .any, .any, .any, .any, .any, .any, .any, .any, .any, .any, .any, .any, .any, .any, .any, .any, .any, .any, .any, .any, .any, .any, .any, .any, .any], [⟨47, 21, [.agg s.cells], 0, true⟩, ⟨87, 9, [.agg [.bool u.fName, .bool u.fOf, .bool u.fE, .bool u.fF, .bool u.fArgs, .bool u.fDist, .bool u.fFlag, .bool u.fBody, .bool u.fOther]], 0, true⟩]⟩ : S) (vc_sound h.mo _ _ _ (by kernel_rfl) ?_) ?_
  case refine_1 =>
    cases hu : u.fE
    · simp
      exact Wk.ren 0 [0, 1] hX rfl (by decide) (by simp [ea, hu]) (by simp) (by simp) (by simp)
    · simp
      refine xcall_fn (c_RECheck s.fE hE) (by simp) ?_
      simp
      exact Wk.ren 0 [0, 1] hX rfl (by decide) (by simp [ea, hu]) (by simp) (by simp) (by simp)
  refine awp_cut (⟨[.any, .any, .pto 0 21 0 0, .pto 1 9 0 0, .any, .int .i64 (eb s u), .any, .any, .any, .any, .any, .any, .any, .any, .any, .any, .any, .any, .any, .any, .any, .any, .any, .any, .any, .any, .any, .any, .any, .any, .any, .any, .any, .any, .any, .any, .any, .any, .any, .any, .any, .any, .any, .any, .any, .any, .any], [⟨47, 21, [.agg s.cells], 0, true⟩, ⟨87, 9, [.agg [.bool u.fName, .bool u.fOf, .bool u.fE, .bool u.fF, .bool u.fArgs, .bool u.fDist, .bool u.fFlag, .bool u.fBody, .bool u.fOther]], 0, true⟩]⟩ : S) (vc_sound h.mo _ _ _ (by kernel_rfl) ?_) ?_
  case refine_1 =>
    by_cases he : ea s u = 0
    · cases hu : u.fF
      · simp [he]
        exact Wk.ren 0 [0, 1] hX rfl (by decide) (by simp [eb, he, hu]) (by simp) (by simp) (by simp)
      · simp [he]
        refine xcall_fn (c_RECheck s.fF hF) (by simp) ?_
        simp
        exact Wk.ren 0 [0, 1] hX rfl (by decide) (by simp [eb, he, hu]) (by simp) (by simp) (by simp)
    · simp [he]
      exact Wk.ren 0 [0, 1] hX rfl (by decide) (by simp [eb, he]) (by simp) (by simp) (by simp)
  refine awp_cut (⟨[.any, .any, .pto 0 21 0 0, .pto 1 9 0 0, .any, .int .i64 (ec s u), .any, .any, .any, .any, .any, .any, .any, .any, .any, .any, .any, .any, .any, .any, .any, .any, .any, .any, .any, .any, .any, .any, .any, .any, .any, .any, .any, .any, .any, .any, .any, .any, .any, .any, .any, .any, .any, .any, .any, .any, .any], [⟨47, 21, [.agg s.cells], 0, true⟩, ⟨87, 9, [.agg [.bool u.fName, .bool u.fOf, .bool u.fE, .bool u.fF, .bool u.fArgs, .bool u.fDist, .bool u.fFlag, .bool u.fBody, .bool u.fOther]], 0, true⟩]⟩ : S) (vc_sound h.mo _ _ _ (by kernel_rfl) ?_) ?_
  case refine_1 =>
    by_cases he : eb s u = 0
    · by_cases h6 : 6 < s.fArgs.length
      · have h6' : (6 : Int) < s.fArgs.length := by omega
        simp [he, h6']
        exact Wk.ren 0 [0, 1] hX rfl (by decide) (by simp [ec, he, h6]) (by simp) (by simp) (by simp)
      · have h6' : ¬ (6 : Int) < s.fArgs.length := by omega
        simp [he, h6']
        exact Wk.ren 0 [0, 1] hX rfl (by decide) (by simp [ec, he, h6]) (by simp) (by simp) (by simp)
    · simp [he]
      exact Wk.ren 0 [0, 1] hX rfl (by decide) (by simp [ec, he]) (by simp) (by simp) (by simp)
  rw [exprE_ec]
  generalize ec s u = e0
  refine awp_seq (vc_sound h.mo _ _ _ (by kernel_rfl) ?_)
  simp
  refine awp_loop (σ := Nat × Int) (fun q => (⟨[.any, .any, .pto 0 21 0 0, .pto 1 9 0 0, .any, .int .i64 q.2, .int .i64 q.1, .any, .any, .any, .any, .any, .any, .any, .any, .any, .any, .any, .any, .any, .any, .any, .any, .any, .any, .any, .any, .any, .any, .any, .any, .any, .any, .any, .any, .any, .any, .any, .any, .any, .any, .any, .any, .any, .any, .any, .any], [⟨47, 21, [.agg s.cells], 0, true⟩, ⟨87, 9, [.agg [.bool u.fName, .bool u.fOf, .bool u.fE, .bool u.fF, .bool u.fArgs, .bool u.fDist, .bool u.fFlag, .bool u.fBody, .bool u.fOther]], 0, true⟩]⟩ : S)) (fun q => q.1 ≤ s.fArgs.length ∧ nz e0 (argsE s.fArgs) = nz q.2 (argsE (s.fArgs.drop q.1))) (fun q => if q.2 = 0 then s.fArgs.length + 1 - q.1 else 0) (0, e0) (Wk.ren 0 [0, 1] hX rfl (by decide) (by simp []) (by simp) (by simp) (by simp)) ⟨by simp, by simp⟩ ?_
  rintro ⟨k, e⟩ ⟨hk, hinv⟩
  simp only at hk hinv
  refine vc_sound h.mo _ _ _ (by kernel_rfl) ?_
  by_cases he : e = 0
  case neg =>
    rw [nz_ne _ he] at hinv
    simp [he]
    refine vc_sound h.mo _ _ _ (by kernel_rfl) ?_
    rw [hinv]
    simp
  subst he
  rw [nz_0] at hinv
  rcases Nat.lt_or_ge k s.fArgs.length with hlt | hge
  · have hk1 := wrap_succ hlt hal
    have hmem := List.getElem_mem hlt
    rw [List.drop_eq_getElem_cons hlt, argsE_cons] at hinv
    simp [hlt, -Prod.exists]
    refine xcall_fn (c_RECheck s.fArgs[k] (hao _ hmem)) (by simp) ?_
    simp [-Prod.exists]
    refine ⟨(k + 1, chkE s.fArgs[k]), Wk.ren 0 [0, 1] hX rfl (by decide) (by simp [hk1]) (by simp) (by simp) (by simp), ⟨by omega, hinv⟩, ?_⟩
    simp only
    split <;> omega
  · have hkl : k = s.fArgs.length := by omega
    rw [hkl, List.drop_length, argsE_nil] at hinv
    have hge' : ¬ k < s.fArgs.length := by omega
    simp [hge']
    refine vc_sound h.mo _ _ _ (by kernel_rfl) ?_
    rw [hinv]
    simp

/-- The first error of a statement, without its Body and Else. -/
noncomputable def oneE (s : TStmt) : Int := if fmdB s = false then 1 else partE s (usesT s.fOp).1
set_option maxHeartbeats 4000000 in
theorem c_one (s : TStmt) (hok : s.ok) : FCall P 47 [.agg s.cells] (fun r => r = .int .i64 (oneE s)) := by
  have hfm := c_formed (P := P) s hok
  obtain ⟨hnl, hol, hE, hF, ⟨hal, hao⟩, ⟨hv, hw⟩, _, _⟩ := okS hok
  refine fcall_ofA h.f47 rfl (by decide) fun X hX => ?_
  refine awp_seq (vc_sound h.mo _ _ _ (by kernel_rfl) ?_)
  simp
  refine awp_seq (vc_sound h.mo _ _ _ (by kernel_rfl) ?_)
  simp
  refine xcall_fn (c_ROf s.fOp) (by simp) ?_
  unfold oneE
  obtain ⟨⟨u, ok⟩, hq⟩ : ∃ q, usesT s.fOp = q := ⟨_, rfl⟩
  rw [hq]
  have hex := c_exprs (P := P) s u hok
  simp only [formOf, TForm.cells] at hex
  simp [formOf]
  refine awp_cut2 (⟨[.any, .pto 0 21 0 0, .any, .pto 1 9 0 0, .any, .any, .any, .any, .any, .any, .any, .any, .any, .any, .any, .any, .any, .any, .any, .any, .any, .any, .any, .any, .any, .any, .any, .any, .any, .any, .any, .any, .any, .any, .any, .any, .any, .any, .any, .any, .any, .any, .any, .any, .any, .any], [⟨47, 21, [.agg s.cells], 0, true⟩, ⟨87, 9, [.agg [.bool u.fName, .bool u.fOf, .bool u.fE, .bool u.fF, .bool u.fArgs, .bool u.fDist, .bool u.fFlag, .bool u.fBody, .bool u.fOther]], 0, true⟩]⟩ : S) (fmdB s = true) (vc_sound h.mo _ _ _ (by kernel_rfl) ?_) ?_
  case refine_1 =>
    simp
    refine xcall_fn hfm (by simp) ?_
    cases fmdB s
    · simp
    · simp
      exact Wk.ren 0 [0, 1] hX rfl (by decide) (by simp []) (by simp) (by simp) (by simp)
  intro hf
  rw [hf]
  simp only [Bool.true_eq_false, if_false]
  refine awp_cut2 (⟨[.any, .pto 0 21 0 0, .any, .pto 1 9 0 0, .any, .any, .any, .any, .any, .any, .any, .any, .any, .any, .any, .any, .any, .any, .any, .any, .any, .any, .any, .any, .any, .any, .any, .any, .any, .any, .any, .any, .any, .any, .any, .any, .any, .any, .any, .any, .any, .any, .any, .any, .any, .any], [⟨47, 21, [.agg s.cells], 0, true⟩, ⟨87, 9, [.agg [.bool u.fName, .bool u.fOf, .bool u.fE, .bool u.fF, .bool u.fArgs, .bool u.fDist, .bool u.fFlag, .bool u.fBody, .bool u.fOther]], 0, true⟩]⟩ : S) (¬ ((u.fName = true ∧ nameE s.fName ≠ 0) ∨ (u.fOf = true ∧ nameE s.fOf ≠ 0))) (vc_sound h.mo _ _ _ (by kernel_rfl) ?_) ?_
  case refine_1 =>
    have h3 : ((u.fName = true ∧ nameE s.fName ≠ 0) ∨ (u.fOf = true ∧ nameE s.fOf ≠ 0)) → partE s u = 3 := fun q => by unfold partE; rw [if_pos q]
    by_cases hn : u.fName = true
    · simp [hn]
      refine xcall_fn (c_RNCheck s.fName hnl) (by simp) ?_
      rcases nameE_or s.fName with h0 | h0
      · by_cases ho : u.fOf = true
        · simp [h0, ho]
          refine xcall_fn (c_RNCheck s.fOf hol) (by simp) ?_
          rcases nameE_or s.fOf with h1 | h1
          · simp [h1]
            exact Wk.ren 0 [0, 1] hX rfl (by decide) (by simp) (by simp) (by simp) (by simp)
          · simp [h1, h3 (.inr ⟨ho, by omega⟩)]
        · simp [h0, ho]
          exact Wk.ren 0 [0, 1] hX rfl (by decide) (by simp) (by simp) (by simp) (by simp)
      · simp [h0, h3 (.inl ⟨hn, by omega⟩)]
    · by_cases ho : u.fOf = true
      · simp [hn, ho]
        refine xcall_fn (c_RNCheck s.fOf hol) (by simp) ?_
        rcases nameE_or s.fOf with h1 | h1
        · simp [h1]
          exact Wk.ren 0 [0, 1] hX rfl (by decide) (by simp) (by simp) (by simp) (by simp)
        · simp [h1, h3 (.inr ⟨ho, by omega⟩)]
      · simp [hn, ho]
        exact Wk.ren 0 [0, 1] hX rfl (by decide) (by simp) (by simp) (by simp) (by simp)
  intro hno
  have key : partE s u = if exprE s u ≠ 0 then exprE s u else if u.fDist = true then chkD s.fDist else 0 := by unfold partE; rw [if_neg hno]
  rw [key]
  refine vc_sound h.mo _ _ _ (by kernel_rfl) ?_
  simp
  refine xcall_fn hex (by simp) ?_
  generalize exprE s u = e
  by_cases he : e = 0
  · by_cases hd : u.fDist = true
    · simp [he, hd]
      refine xcall_fn (c_RDCheck s.fDist hv) (by simp) ?_
      simp
    · simp [he, hd]
  · simp [he]
end Go.Proofs.Ytadllkhmihbfhaa
