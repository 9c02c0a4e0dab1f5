/- Chapter 10: statements: the object of a statement, over any program that has the text. -/
import Derived.Test.YtadllkhmihbfhaaA3
namespace Go.Proofs.Ytadllkhmihbfhaa
open Go.AL
variable {P : Program} [h : Facts P]

set_option maxHeartbeats 4000000 in
theorem c_object10 (s : TStmt) : FCall P 35 [.agg s.cells] (fun r => r = .tup [.str (match usF s with | [] => [] | x :: _ => x), .bool (!(usF s).isEmpty)]) := by
  refine fcall_of h.f35 rfl (by decide) h.mo (by kernel_rfl) fun X hX => ?_
  by_cases hu : usOp s.fOp
  · have hf : usF s = [s.fName] := by unfold usF; rw [if_pos hu]
    rw [hf]
    rcases hu with o | o | o | o | o | o | o | o | o | o <;> simp [o]
  by_cases o2 : s.fOp = 2
  · have hf : usF s = [s.fOf] := by unfold usF; rw [if_neg hu, if_pos o2]
    rw [hf]
    simp [o2]
  · have hf : usF s = [] := by unfold usF; rw [if_neg hu, if_neg o2]
    rw [hf]
    simp only [usOp, not_or] at hu
    simp [hu, o2]
end Go.Proofs.Ytadllkhmihbfhaa
