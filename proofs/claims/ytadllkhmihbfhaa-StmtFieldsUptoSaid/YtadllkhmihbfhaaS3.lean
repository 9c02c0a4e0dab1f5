/- The library's sort of texts at this program: the kit's proof of it, at this program's own numbers. -/
import Derived.Test.YtadllkhmihbfhaaS1
import Derived.Test.YtadllkhmihbfhaaS4
namespace Go.Proofs.Ytadllkhmihbfhaa
open Go.AL
theorem sortAt : SortAt Try.prog 33 :=
  ⟨by kernel_rfl, fun blk off cap ss w hH hb hl => Any.slices_Sort_string lays190 blk off cap ss w hH hb hl⟩
end Go.Proofs.Ytadllkhmihbfhaa
