/- The library's sort of texts at this program: the kit's proof of it, at this program's own numbers. -/
import Derived.Test.YtnfjdpnkkmflbaaS1
import Derived.Test.YtnfjdpnkkmflbaaS4
namespace Go.Proofs.Ytnfjdpnkkmflbaa
open Go.AL
theorem sortAt : SortAt Try.prog 39 :=
  ⟨by kernel_rfl, fun blk off cap ss w hH hb hl => Any.slices_Sort_string lays190 blk off cap ss w hH hb hl⟩
end Go.Proofs.Ytnfjdpnkkmflbaa
