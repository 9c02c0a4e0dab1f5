/- Chapter 10: expressions: the reference's most, over any program that has the text. -/
import Derived.Test.YtadllkhmihbfhaaE5
namespace Go.Proofs.Ytadllkhmihbfhaa
open Go.AL
variable {P : Program} [h : Facts P]

def mostN (op : Int) : Int := if op = 25 then 15 else if op = 26 then 31 else 63
theorem c_most (op : Int) : FCall P 114 [.int .i64 op] (fun r => r = .int .i64 (mostN op)) := by
  refine fcall_of h.f114 rfl (by decide) h.mo (by kernel_rfl) fun X hX => ?_
  by_cases a : op = 25
  · simp [a, mostN]
  by_cases b : op = 26
  · simp [b, mostN]
  simp [a, b, mostN]
end Go.Proofs.Ytadllkhmihbfhaa
