/- Chapter 10: statements: which fields a form uses, over any program that has the text. -/
import Derived.Test.YtadllkhmihbfhaaC1
namespace Go.Proofs.Ytadllkhmihbfhaa
open Go.AL
variable {P : Program} [h : Facts P]

/-- The fields that a form uses; false for an unknown one. -/
def usesT (op : Int) : Tuse × Bool :=
  if op = 1 ∨ op = 7 ∨ op = 8 ∨ op = 12 ∨ op = 15 ∨ op = 16 ∨ op = 17 then (⟨true, false, true, false, false, false, false, false, false⟩, true)
  else if op = 2 then (⟨true, true, false, false, false, true, false, false, false⟩, true)
  else if op = 3 then (⟨false, false, true, false, false, false, false, true, true⟩, true)
  else if op = 4 then (⟨false, false, true, false, false, false, false, true, false⟩, true)
  else if op = 5 then (⟨false, false, true, false, false, false, false, false, false⟩, true)
  else if op = 6 then (⟨true, false, true, true, false, false, true, false, false⟩, true)
  else if op = 9 then (⟨true, true, false, false, false, false, false, false, false⟩, true)
  else if op = 10 ∨ op = 11 then (⟨true, false, false, false, false, false, false, false, false⟩, true)
  else if op = 13 then (⟨true, true, true, false, true, false, false, false, false⟩, true)
  else if op = 14 then (⟨true, false, true, false, true, false, false, false, false⟩, true)
  else if op = 18 then (⟨false, false, false, false, false, false, false, false, false⟩, true)
  else (⟨false, false, false, false, false, false, false, false, false⟩, false)
/-- The same, as the reference has it. -/
def formOf (u : Tuse) : TForm := ⟨u.fName, u.fOf, u.fE, u.fF, u.fArgs, u.fDist, u.fFlag, u.fBody, u.fOther⟩

theorem op18 (op : Int) : (op = 1 ∨ op = 2 ∨ op = 3 ∨ op = 4 ∨ op = 5 ∨ op = 6 ∨ op = 7 ∨ op = 8 ∨ op = 9 ∨ op = 10 ∨ op = 11 ∨ op = 12 ∨ op = 13 ∨ op = 14 ∨ op = 15 ∨ op = 16 ∨ op = 17 ∨ op = 18) ∨ (op < 1 ∨ 18 < op) := by omega
theorem usesT_no {op : Int} (ho : op < 1 ∨ 18 < op) : usesT op = (⟨false, false, false, false, false, false, false, false, false⟩, false) := by
  unfold usesT
  rw [if_neg (by omega), if_neg (by omega), if_neg (by omega), if_neg (by omega), if_neg (by omega), if_neg (by omega), if_neg (by omega), if_neg (by omega), if_neg (by omega), if_neg (by omega), if_neg (by omega)]
set_option maxHeartbeats 8000000 in
theorem c_uses (op : Int) : FCall P 44 [.int .i64 op] (fun r => r = .tup [.agg (usesT op).1.cells, .bool (usesT op).2]) := by
  refine fcall_of h.f44 rfl (by decide) h.mo (by kernel_rfl) fun X hX => ?_
  simp (config := {maxSteps := 4000000})
  rcases op18 op with (rfl | rfl | rfl | rfl | rfl | rfl | rfl | rfl | rfl | rfl | rfl | rfl | rfl | rfl | rfl | rfl | rfl | rfl) | ho
  all_goals first
    | (simp [usesT]; done)
    | (simp only [usesT_no ho]; have n1 : ¬ op = 1 := (by omega); have n2 : ¬ op = 2 := (by omega); have n3 : ¬ op = 3 := (by omega); have n4 : ¬ op = 4 := (by omega); have n5 : ¬ op = 5 := (by omega); have n6 : ¬ op = 6 := (by omega); have n7 : ¬ op = 7 := (by omega); have n8 : ¬ op = 8 := (by omega); have n9 : ¬ op = 9 := (by omega); have n10 : ¬ op = 10 := (by omega); have n11 : ¬ op = 11 := (by omega); have n12 : ¬ op = 12 := (by omega); have n13 : ¬ op = 13 := (by omega); have n14 : ¬ op = 14 := (by omega); have n15 : ¬ op = 15 := (by omega); have n16 : ¬ op = 16 := (by omega); have n17 : ¬ op = 17 := (by omega); have n18 : ¬ op = 18 := (by omega); simp [*])
set_option maxHeartbeats 8000000 in
theorem c_ROf (op : Int) : FCall P 59 [.int .i64 op] (fun r => r = .tup [.agg (formOf (usesT op).1).cells, .bool (usesT op).2]) := by
  refine fcall_of h.f59 rfl (by decide) h.mo (by kernel_rfl) fun X hX => ?_
  simp (config := {maxSteps := 4000000}) [formOf]
  rcases op18 op with (rfl | rfl | rfl | rfl | rfl | rfl | rfl | rfl | rfl | rfl | rfl | rfl | rfl | rfl | rfl | rfl | rfl | rfl) | ho
  all_goals first
    | (simp [usesT]; done)
    | (simp only [usesT_no ho]; have n1 : ¬ op = 1 := (by omega); have n2 : ¬ op = 2 := (by omega); have n3 : ¬ op = 3 := (by omega); have n4 : ¬ op = 4 := (by omega); have n5 : ¬ op = 5 := (by omega); have n6 : ¬ op = 6 := (by omega); have n7 : ¬ op = 7 := (by omega); have n8 : ¬ op = 8 := (by omega); have n9 : ¬ op = 9 := (by omega); have n10 : ¬ op = 10 := (by omega); have n11 : ¬ op = 11 := (by omega); have n12 : ¬ op = 12 := (by omega); have n13 : ¬ op = 13 := (by omega); have n14 : ¬ op = 14 := (by omega); have n15 : ¬ op = 15 := (by omega); have n16 : ¬ op = 16 := (by omega); have n17 : ¬ op = 17 := (by omega); have n18 : ¬ op = 18 := (by omega); simp [*])
end Go.Proofs.Ytadllkhmihbfhaa
