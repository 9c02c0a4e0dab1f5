/- Chapter 15: values of expressions: the law of the operators, over any program that has the text. -/
import Derived.Test.YtnahhdbheeinfaaA1
import Derived.Test.YtnahhdbheeinfaaN5
namespace Go.Proofs.Ytnahhdbheeinfaa
open Go.AL
variable {P : Program} [h : Facts P]

theorem c_EvalOperators (op a b : Int) : FCall P 3 [.int .i64 op, .int .i64 a, .int .i64 b] (fun r => r = .bool true) := by
  refine fcall_of h.f3 rfl (by decide) h.mo (by kernel_rfl) fun X hX => ?_
  simp
  refine xcall_fn (c_Unary op a) (by simp) ?_
  simp
  refine xcall_fn (c_RUnary op a) (by simp) ?_
  simp
  refine xcall_fn (c_Binary op a b) (by simp) ?_
  simp
  refine xcall_fn (c_RBinary op a b) (by simp) ?_
  simp
  refine xcall_fn c_awake (by simp) ?_
  simp
end Go.Proofs.Ytnahhdbheeinfaa
