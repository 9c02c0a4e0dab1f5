/- Chapter 15: values of expressions: the reference's operators, over any program that has the text. -/
import Derived.Test.YtnahhdbheeinfaaN4
namespace Go.Proofs.Ytnahhdbheeinfaa
open Go.AL
variable {P : Program} [h : Facts P]

set_option maxRecDepth 4000 in
set_option maxHeartbeats 4000000 in
theorem c_RBinary (op a b : Int) : FCall P 12 [.int .i64 op, .int .i64 a, .int .i64 b] (fun r => r = .int .i64 (binZ op a b)) := by
  refine fcall_of h.f12 rfl (by decide) h.mo (by kernel_rfl) fun X hX => ?_
  unfold binZ holdsB
  have h1 := clip_b b
  have w : IntKind.i64.wrap (-clipZ b) = -clipZ b := i64_id (by omega) (by omega)
  by_cases e9 : op = 9
  · simp [e9]
    refine xcall_fn (c_RAdd a b) (by simp) ?_
    simp
  by_cases e10 : op = 10
  · simp [e10]
    refine xcall_fn (c_RClip b) (by simp) ?_
    simp [w]
    refine xcall_fn (c_RAdd a (-clipZ b)) (by simp) ?_
    simp
  by_cases e11 : op = 11
  · simp [e11]
    refine xcall_fn (c_RMul a b) (by simp) ?_
    simp
  by_cases e12 : op = 12
  · simp [e12]
    refine xcall_fn (c_RDiv a b) (by simp) ?_
    simp
  by_cases e13 : op = 13
  · simp [e13]
    refine xcall_fn (c_RMod a b) (by simp) ?_
    simp
  by_cases e14 : op = 14
  · simp [e14]
    refine xcall_fn (c_One (decide (a = b))) (by simp) ?_
    simp
  by_cases e15 : op = 15
  · simp [e15]
    refine xcall_fn (c_One (!decide (a = b))) (by simp) ?_
    simp
  by_cases e16 : op = 16
  · simp [e16]
    refine xcall_fn (c_One (decide (a < b))) (by simp) ?_
    simp
  by_cases e17 : op = 17
  · simp [e17]
    refine xcall_fn (c_One (decide (a ≤ b))) (by simp) ?_
    simp
  by_cases e18 : op = 18
  · by_cases p : a = 0
    · simp [e18, p]
      refine xcall_fn (c_One false) (by simp) ?_
      simp
    · simp [e18, p]
      refine xcall_fn (c_One (!decide (b = 0))) (by simp) ?_
      simp
  by_cases e19 : op = 19
  · by_cases p : a = 0
    · simp [e19, p]
      refine xcall_fn (c_One (!decide (b = 0))) (by simp) ?_
      simp
    · simp [e19, p]
      refine xcall_fn (c_One true) (by simp) ?_
      simp
  by_cases e20 : op = 20
  · simp [e20]
  by_cases e21 : op = 21
  · simp [e21]
  simp [e9, e10, e11, e12, e13, e14, e15, e16, e17, e18, e19, e20, e21, oneZ]
end Go.Proofs.Ytnahhdbheeinfaa
