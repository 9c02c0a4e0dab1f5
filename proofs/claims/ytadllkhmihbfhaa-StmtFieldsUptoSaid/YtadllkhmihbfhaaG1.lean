/- Chapter 10: statements: the parts of a statement, over any program that has the text. -/
import Derived.Test.YtadllkhmihbfhaaF3
import Derived.Test.YtadllkhmihbfhaaE7
namespace Go.Proofs.Ytadllkhmihbfhaa
open Go.AL
variable {P : Program} [h : Facts P]

/-- The first error of expressions. -/
def argsE : List TExpr → Int
  | [] => 0
  | x :: l => if chkE x ≠ 0 then chkE x else argsE l
def exprE (s : TStmt) (u : Tuse) : Int :=
  if u.fE = true ∧ chkE s.fE ≠ 0 then chkE s.fE
  else if u.fF = true ∧ chkE s.fF ≠ 0 then chkE s.fF
  else if 6 < s.fArgs.length then 6 else argsE s.fArgs
def partE (s : TStmt) (u : Tuse) : Int :=
  if (u.fName = true ∧ nameE s.fName ≠ 0) ∨ (u.fOf = true ∧ nameE s.fOf ≠ 0) then 3
  else if exprE s u ≠ 0 then exprE s u
  else if u.fDist = true then chkD s.fDist else 0
theorem nameE_or (s : List UInt8) : nameE s = 0 ∨ nameE s = 3 := by unfold nameE; split <;> simp
theorem argsE_nil : argsE [] = 0 := rfl
theorem argsE_cons (x : TExpr) (l : List TExpr) : argsE (x :: l) = if chkE x ≠ 0 then chkE x else argsE l := rfl
def nmI (s : TStmt) (u : Tuse) (k : Nat) : Prop := (0 < k → u.fName = true → nameE s.fName = 0) ∧ (1 < k → u.fOf = true → nameE s.fOf = 0)
def exI (s : TStmt) (u : Tuse) (k : Nat) : Prop := (0 < k → u.fE = true → chkE s.fE = 0) ∧ (1 < k → u.fF = true → chkE s.fF = 0)
theorem exprE_1 {s : TStmt} {u : Tuse} (h1 : u.fE = true) (h2 : chkE s.fE ≠ 0) : exprE s u = chkE s.fE := by unfold exprE; rw [if_pos ⟨h1, h2⟩]
theorem exprE_2 {s : TStmt} {u : Tuse} (hi : exI s u 1) (h1 : u.fF = true) (h2 : chkE s.fF ≠ 0) : exprE s u = chkE s.fF := by
  unfold exprE
  rw [if_neg (fun q => q.2 (hi.1 (by omega) q.1)), if_pos ⟨h1, h2⟩]
theorem exprE_3 {s : TStmt} {u : Tuse} (hi : exI s u 2) : exprE s u = if 6 < s.fArgs.length then 6 else argsE s.fArgs := by
  unfold exprE
  rw [if_neg (fun q => q.2 (hi.1 (by omega) q.1)), if_neg (fun q => q.2 (hi.2 (by omega) q.1))]
theorem partE_n {s : TStmt} {u : Tuse} (hi : nmI s u 2) : partE s u = if exprE s u ≠ 0 then exprE s u else if u.fDist = true then chkD s.fDist else 0 := by
  unfold partE
  rw [if_neg (fun q => q.elim (fun q => q.2 (hi.1 (by omega) q.1)) fun q => q.2 (hi.2 (by omega) q.1))]
theorem partE_1 {s : TStmt} {u : Tuse} (h1 : u.fName = true) (h2 : nameE s.fName = 3) : partE s u = 3 := by
  unfold partE; rw [if_pos (.inl ⟨h1, by omega⟩)]
theorem partE_2 {s : TStmt} {u : Tuse} (h1 : u.fOf = true) (h2 : nameE s.fOf = 3) : partE s u = 3 := by
  unfold partE; rw [if_pos (.inr ⟨h1, by omega⟩)]
set_option maxHeartbeats 8000000 in
theorem c_parts (s : TStmt) (u : Tuse) (hok : s.ok) : FCall P 46 [.agg s.cells, .agg u.cells] (fun r => r = .int .i64 (partE s u)) := by
  obtain ⟨hnl, hol, hE, hF, ⟨hal, hao⟩, ⟨hv, hw⟩, _, _⟩ := okS hok
  refine fcall_of h.f46 rfl (by decide) h.mo (by kernel_rfl) fun X hX => ?_
  simp
  refine awp_loop (σ := Nat) (fun k => (⟨[.any, .any, .pto 0 21 0 0, .pto 1 9 0 0, .any, .any, .any, .any, .any, .any, .any, .any, .any, .any, .any, .any, .any, .any, .any, .any, .any, .any, .any, .any, .own 2 0 2 2 true, .int .i64 2, .int .i64 (k : Nat), .any, .any, .any, .any, .any, .any, .any, .any, .any, .any, .any, .any, .any, .any, .any, .any, .any, .any, .any, .any, .any, .any, .any, .any, .any, .any, .any, .any, .any, .any, .any, .any, .any, .any, .any, .any, .any, .any, .any, .any, .any, .any, .any, .any, .any, .any, .any, .any, .any, .any, .any, .any, .any, .any, .any, .any, .any, .any, .any, .any, .any, .any], [⟨47, 21, [.agg s.cells], 0, true⟩, ⟨67, 9, [.agg u.cells], 0, true⟩, ⟨79, 2, [.agg [.bool u.fName, .str s.fName], .agg [.bool u.fOf, .str s.fOf]], 0, true⟩]⟩ : S)) (fun k => k ≤ 2 ∧ nmI s u k) (fun k => 2 - k) 0 (Wk.ren 0 [0, 1, 2] hX rfl (by decide) (by simp) (by simp) (by simp) (by simp)) ⟨by omega, fun q => by omega, fun q => by omega⟩ ?_
  rintro k ⟨hk, hi⟩
  refine vc_sound h.mo _ _ _ (by kernel_rfl) ?_
  rcases (by omega : k = 0 ∨ k = 1 ∨ k = 2) with rfl | rfl | rfl
  · simp
    refine xcall_fn (c_NCheck s.fName hnl) (by simp) ?_
    by_cases hu : u.fName = true
    case neg =>
      simp [hu]
      exact ⟨1, Wk.ren 0 [0, 1, 2] hX rfl (by decide) (by simp) (by simp) (by simp) (by simp), ⟨by omega, fun _ q => (hu q).elim, fun q => by omega⟩, by omega⟩
    case pos =>
      rcases nameE_or s.fName with hn | hn
      · simp [hu, hn]
        exact ⟨1, Wk.ren 0 [0, 1, 2] hX rfl (by decide) (by simp) (by simp) (by simp) (by simp), ⟨by omega, fun _ _ => hn, fun q => by omega⟩, by omega⟩
      · simp [hu, hn, partE_1 hu hn]
  · simp
    refine xcall_fn (c_NCheck s.fOf hol) (by simp) ?_
    by_cases hu : u.fOf = true
    case neg =>
      simp [hu]
      exact ⟨2, Wk.ren 0 [0, 1, 2] hX rfl (by decide) (by simp) (by simp) (by simp) (by simp), ⟨by omega, fun _ => hi.1 (by omega), fun _ q => (hu q).elim⟩, by omega⟩
    case pos =>
      rcases nameE_or s.fOf with hn | hn
      · simp [hu, hn]
        exact ⟨2, Wk.ren 0 [0, 1, 2] hX rfl (by decide) (by simp) (by simp) (by simp) (by simp), ⟨by omega, fun _ => hi.1 (by omega), fun _ _ => hn⟩, by omega⟩
      · simp [hu, hn, partE_2 hu hn]
  rw [partE_n hi]
  clear hi hk
  simp
  refine awp_loop (σ := Nat) (fun k => (⟨[.any, .any, .pto 0 21 0 0, .pto 1 9 0 0, .any, .any, .any, .any, .any, .any, .any, .any, .any, .any, .any, .any, .any, .any, .any, .any, .any, .any, .any, .any, .any, .any, .any, .any, .any, .any, .any, .any, .any, .any, .any, .any, .any, .any, .any, .any, .any, .any, .any, .any, .any, .any, .any, .any, .any, .any, .any, .own 2 0 2 2 true, .int .i64 2, .int .i64 (k : Nat), .any, .any, .any, .any, .any, .any, .any, .any, .any, .any, .any, .any, .any, .any, .any, .any, .any, .any, .any, .any, .any, .any, .any, .any, .any, .any, .any, .any, .any, .any, .any, .any, .any, .any, .any], [⟨47, 21, [.agg s.cells], 0, true⟩, ⟨67, 9, [.agg u.cells], 0, true⟩, ⟨82, 5, [.agg (.bool u.fE :: s.fE.cells), .agg (.bool u.fF :: s.fF.cells)], 0, true⟩]⟩ : S)) (fun k => k ≤ 2 ∧ exI s u k) (fun k => 2 - k) 0 (Wk.ren 0 [0, 1, 3] hX rfl (by decide) (by simp) (by simp) (by simp) (by simp)) ⟨by omega, fun q => by omega, fun q => by omega⟩ ?_
  rintro k ⟨hk, hi⟩
  refine vc_sound h.mo _ _ _ (by kernel_rfl) ?_
  rcases (by omega : k = 0 ∨ k = 1 ∨ k = 2) with rfl | rfl | rfl
  · by_cases hu : u.fE = true
    case neg =>
      simp [hu]
      exact ⟨1, Wk.ren 0 [0, 1, 2] hX rfl (by decide) (by simp) (by simp) (by simp) (by simp), ⟨by omega, fun _ q => (hu q).elim, fun q => by omega⟩, by omega⟩
    case pos =>
      simp [hu]
      refine xcall_fn (c_ECheck s.fE hE) (by simp) ?_
      by_cases hn : chkE s.fE = 0
      · simp [hn]
        exact ⟨1, Wk.ren 0 [0, 1, 2] hX rfl (by decide) (by simp) (by simp) (by simp) (by simp), ⟨by omega, fun _ _ => hn, fun q => by omega⟩, by omega⟩
      · simp [hn, exprE_1 hu hn]
  · by_cases hu : u.fF = true
    case neg =>
      simp [hu]
      exact ⟨2, Wk.ren 0 [0, 1, 2] hX rfl (by decide) (by simp) (by simp) (by simp) (by simp), ⟨by omega, fun _ => hi.1 (by omega), fun _ q => (hu q).elim⟩, by omega⟩
    case pos =>
      simp [hu]
      refine xcall_fn (c_ECheck s.fF hF) (by simp) ?_
      by_cases hn : chkE s.fF = 0
      · simp [hn]
        exact ⟨2, Wk.ren 0 [0, 1, 2] hX rfl (by decide) (by simp) (by simp) (by simp) (by simp), ⟨by omega, fun _ => hi.1 (by omega), fun _ _ => hn⟩, by omega⟩
      · simp [hn, exprE_2 hi hu hn]
  rw [exprE_3 hi]
  clear hi hk
  by_cases h6 : 6 < s.fArgs.length
  · have h6' : (6 : Int) < s.fArgs.length := by omega
    simp [h6, h6']
  have h6' : ¬ (6 : Int) < s.fArgs.length := by omega
  rw [if_neg h6]
  simp [h6']
  refine awp_loop (σ := Nat) (fun k => (⟨[.any, .any, .pto 0 21 0 0, .pto 1 9 0 0, .any, .any, .any, .any, .any, .any, .any, .any, .any, .any, .any, .any, .any, .any, .any, .any, .any, .any, .any, .any, .any, .any, .any, .any, .any, .any, .any, .any, .any, .any, .any, .any, .any, .any, .any, .any, .any, .any, .any, .any, .any, .any, .any, .any, .any, .any, .any, .any, .any, .any, .any, .any, .any, .any, .any, .any, .any, .any, .any, .any, .any, .any, .any, .any, .any, .any, .any, .any, Ls false s.fArgs, .int .i64 s.fArgs.length, .int .i64 (k : Nat), .any, .any, .any, .any, .any, .any, .any, .any, .any, .any, .any, .any, .any, .any], [⟨47, 21, [.agg s.cells], 0, true⟩, ⟨67, 9, [.agg u.cells], 0, true⟩]⟩ : S)) (fun k => k ≤ s.fArgs.length ∧ argsE s.fArgs = argsE (s.fArgs.drop k)) (fun k => s.fArgs.length - k) 0 (Wk.ren 0 [0, 1] hX rfl (by decide) (by simp) (by simp) (by simp) (by simp)) ⟨by omega, by simp⟩ ?_
  rintro k ⟨hk, hinv⟩
  refine vc_sound h.mo _ _ _ (by kernel_rfl) ?_
  rcases Nat.lt_or_ge k s.fArgs.length with hlt | hge
  · have hk1 := wrap_succ hlt hal
    have hmem := List.getElem_mem hlt
    rw [List.drop_eq_getElem_cons hlt, argsE_cons] at hinv
    simp [hlt]
    refine xcall_fn (c_ECheck s.fArgs[k] (hao _ hmem)) (by simp) ?_
    by_cases hz : chkE s.fArgs[k] = 0
    · rw [if_neg (by simp [hz])] at hinv
      simp [hz]
      exact ⟨k + 1, Wk.ren 0 [0, 1] hX rfl (by decide) (by simp [hk1]) (by simp) (by simp) (by simp), ⟨by omega, hinv⟩, by omega⟩
    · rw [if_pos hz] at hinv
      simp [hz, hinv]
  · have hkl : k = s.fArgs.length := by omega
    rw [hkl, List.drop_length, argsE_nil] at hinv
    have hge' : ¬ k < s.fArgs.length := by omega
    rw [hinv]
    by_cases hd : u.fDist = true
    · simp [hge', hd]
      refine xcall_fn (c_DCheck s.fDist hv hw) (by simp) ?_
      simp
    · simp [hge', hd]
end Go.Proofs.Ytadllkhmihbfhaa
