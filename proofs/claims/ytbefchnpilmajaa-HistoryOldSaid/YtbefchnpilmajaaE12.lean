/- Chapter 37: an example's event, over any program that has the text. -/
import Derived.Test.YtbefchnpilmajaaTy
namespace Go.Proofs.Ytbefchnpilmajaa
open Go.AL
variable {P : Program} [h : Facts P]

def emptyState : TState := ⟨0, 0, 0, [], [], 0, [], [], [], [], [], [], [], [], [], [], [], 0⟩
def atT (t n : Int) : TPast := ⟨⟨t, 0, 0, n, 0, 2, 0, 0, []⟩, false, emptyState, [], []⟩
theorem c_at (t n : Int) : FCall P 20 [.int .i64 t, .int .i64 n] (fun r => r = .agg (atT t n).cells) := by
  refine fcall_of h.f20 rfl (by decide) h.mo (by kernel_rfl) fun X hX => ?_
  simp [atT, emptyState]
end Go.Proofs.Ytbefchnpilmajaa
