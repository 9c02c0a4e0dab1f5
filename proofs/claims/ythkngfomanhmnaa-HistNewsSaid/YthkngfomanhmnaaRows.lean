/-
  No cell of these rows narrows 'for every input' (looked for: loops, veiled, ifaces, maps, wideKeys, modest, calm, conditions, laid).
  DERIVED. THE GIVEN ROWS OF THIS SEAT. 7 by the template 'for every input the law returns true; each argument reads behind the call as it read before'; 0 by the template 'total and deterministic' (their statements: YthkngfomanhmnaaTotals.lean).
  GIVEN WITH THE SEED: the statements are not yours to turn. If you find one false, say at which input.
  Laid BY PROGRAM, IN A SANDBOX (cutbox-rows.mjs): the forced cells as the released guide's own fill.sh prints them over the translation ec302b4d09cfc374… (all of the seat's roots in one cut). By AI agents, Wed Nov 11 2026. No macro, syntax, notation, axiom, sorry.
-/
import Derived.Test.YthkngfomanhmnaaChecked
import GoSem.Claim
import GoSem.ClaimJoined
import GoSem.ClaimMapViews
import Derived.JoinedTies
import Derived.KernelRfl
namespace Go.Proofs.Ythkngfomanhmnaa
/- THE CELL 'sum', in the pinned program and in every row, IS THE sha256 OF THE DUMP (.gsa) THAT YthkngfomanhmnaaProg.lean LOADS. Nothing in Lean hashes anything: it is a label: what it is worth is what the hold of that sum in a sandbox is worth. -/
noncomputable def Try.pinned : Pinned := { name := "ythkngfomanhmnaa", sum := "ec302b4d09cfc3745a8c99476b97f95638fda8d8a23b8cc8aa011117498afe0f", checked := Try.checked }
namespace Rows
def none {H : Type} : Left H := { results := [], args := [] }

/-- 'simulatorlaw29.HistNews': WHATEVER THE INPUT: true; the input reads as it did. -/
def histNewsSpec : ChangeSpec := { name := "histNews", fn := fun _ => fun
  | [d1, d2, d3, d4] => { results := [.lit (.bool true)], args := [d1, d2, d3, d4] }
  | _ => none }
def histNewsRow : OpenClaim := { program := "ythkngfomanhmnaa", sum := "ec302b4d09cfc3745a8c99476b97f95638fda8d8a23b8cc8aa011117498afe0f", func := "simulator/simulatorlaw29.HistNews", spec := "histNews", unfollowed := true, recurses := true, apart := false }
def HistNewsSaid : Prop := histNewsRow.holds Try.pinned (OpenSpec.ofChange histNewsSpec)

/-- ITS FALSE NEIGHBOUR: 'it returns false'. Refute it at one input. -/
def histNewsWrong : ChangeSpec := { name := "histNews", fn := fun _ => fun
  | [d1, d2, d3, d4] => { results := [.lit (.bool false)], args := [d1, d2, d3, d4] }
  | _ => none }
def HistNewsWrongFalsely : Prop := histNewsRow.holds Try.pinned (OpenSpec.ofChange histNewsWrong)

/-- 'simulatorlaw29.HistAdds': WHATEVER THE INPUT: true; the input reads as it did. -/
def histAddsSpec : ChangeSpec := { name := "histAdds", fn := fun _ => fun
  | [d1, d2] => { results := [.lit (.bool true)], args := [d1, d2] }
  | _ => none }
def histAddsRow : OpenClaim := { program := "ythkngfomanhmnaa", sum := "ec302b4d09cfc3745a8c99476b97f95638fda8d8a23b8cc8aa011117498afe0f", func := "simulator/simulatorlaw29.HistAdds", spec := "histAdds", unfollowed := true, recurses := true, apart := false }
def HistAddsSaid : Prop := histAddsRow.holds Try.pinned (OpenSpec.ofChange histAddsSpec)

/-- ITS FALSE NEIGHBOUR: 'it returns false'. Refute it at one input. -/
def histAddsWrong : ChangeSpec := { name := "histAdds", fn := fun _ => fun
  | [d1, d2] => { results := [.lit (.bool false)], args := [d1, d2] }
  | _ => none }
def HistAddsWrongFalsely : Prop := histAddsRow.holds Try.pinned (OpenSpec.ofChange histAddsWrong)

/-- 'simulatorlaw29.HistMerges': WHATEVER THE INPUT: true; the input reads as it did. -/
def histMergesSpec : ChangeSpec := { name := "histMerges", fn := fun _ => fun
  | [d1, d2] => { results := [.lit (.bool true)], args := [d1, d2] }
  | _ => none }
def histMergesRow : OpenClaim := { program := "ythkngfomanhmnaa", sum := "ec302b4d09cfc3745a8c99476b97f95638fda8d8a23b8cc8aa011117498afe0f", func := "simulator/simulatorlaw29.HistMerges", spec := "histMerges", unfollowed := true, recurses := true, apart := false }
def HistMergesSaid : Prop := histMergesRow.holds Try.pinned (OpenSpec.ofChange histMergesSpec)

/-- ITS FALSE NEIGHBOUR: 'it returns false'. Refute it at one input. -/
def histMergesWrong : ChangeSpec := { name := "histMerges", fn := fun _ => fun
  | [d1, d2] => { results := [.lit (.bool false)], args := [d1, d2] }
  | _ => none }
def HistMergesWrongFalsely : Prop := histMergesRow.holds Try.pinned (OpenSpec.ofChange histMergesWrong)

/-- 'simulatorlaw29.HistQuantiles': WHATEVER THE INPUT: true; the input reads as it did. -/
def histQuantilesSpec : ChangeSpec := { name := "histQuantiles", fn := fun _ => fun
  | [d1, d2, d3] => { results := [.lit (.bool true)], args := [d1, d2, d3] }
  | _ => none }
def histQuantilesRow : OpenClaim := { program := "ythkngfomanhmnaa", sum := "ec302b4d09cfc3745a8c99476b97f95638fda8d8a23b8cc8aa011117498afe0f", func := "simulator/simulatorlaw29.HistQuantiles", spec := "histQuantiles", unfollowed := true, recurses := true, apart := false }
def HistQuantilesSaid : Prop := histQuantilesRow.holds Try.pinned (OpenSpec.ofChange histQuantilesSpec)

/-- ITS FALSE NEIGHBOUR: 'it returns false'. Refute it at one input. -/
def histQuantilesWrong : ChangeSpec := { name := "histQuantiles", fn := fun _ => fun
  | [d1, d2, d3] => { results := [.lit (.bool false)], args := [d1, d2, d3] }
  | _ => none }
def HistQuantilesWrongFalsely : Prop := histQuantilesRow.holds Try.pinned (OpenSpec.ofChange histQuantilesWrong)

/-- 'simulatorlaw29.HistCounts': WHATEVER THE INPUT: true; the input reads as it did. -/
def histCountsSpec : ChangeSpec := { name := "histCounts", fn := fun _ => fun
  | [d1, d2, d3, d4] => { results := [.lit (.bool true)], args := [d1, d2, d3, d4] }
  | _ => none }
def histCountsRow : OpenClaim := { program := "ythkngfomanhmnaa", sum := "ec302b4d09cfc3745a8c99476b97f95638fda8d8a23b8cc8aa011117498afe0f", func := "simulator/simulatorlaw29.HistCounts", spec := "histCounts", unfollowed := true, recurses := true, apart := false }
def HistCountsSaid : Prop := histCountsRow.holds Try.pinned (OpenSpec.ofChange histCountsSpec)

/-- ITS FALSE NEIGHBOUR: 'it returns false'. Refute it at one input. -/
def histCountsWrong : ChangeSpec := { name := "histCounts", fn := fun _ => fun
  | [d1, d2, d3, d4] => { results := [.lit (.bool false)], args := [d1, d2, d3, d4] }
  | _ => none }
def HistCountsWrongFalsely : Prop := histCountsRow.holds Try.pinned (OpenSpec.ofChange histCountsWrong)

/-- 'simulatorlaw29.HistSplits': WHATEVER THE INPUT: true; the input reads as it did. -/
def histSplitsSpec : ChangeSpec := { name := "histSplits", fn := fun _ => fun
  | [d1, d2, d3, d4, d5] => { results := [.lit (.bool true)], args := [d1, d2, d3, d4, d5] }
  | _ => none }
def histSplitsRow : OpenClaim := { program := "ythkngfomanhmnaa", sum := "ec302b4d09cfc3745a8c99476b97f95638fda8d8a23b8cc8aa011117498afe0f", func := "simulator/simulatorlaw29.HistSplits", spec := "histSplits", unfollowed := true, recurses := true, apart := false }
def HistSplitsSaid : Prop := histSplitsRow.holds Try.pinned (OpenSpec.ofChange histSplitsSpec)

/-- ITS FALSE NEIGHBOUR: 'it returns false'. Refute it at one input. -/
def histSplitsWrong : ChangeSpec := { name := "histSplits", fn := fun _ => fun
  | [d1, d2, d3, d4, d5] => { results := [.lit (.bool false)], args := [d1, d2, d3, d4, d5] }
  | _ => none }
def HistSplitsWrongFalsely : Prop := histSplitsRow.holds Try.pinned (OpenSpec.ofChange histSplitsWrong)

/-- 'simulatorlaw29.HistBounds': WHATEVER THE INPUT: true; the input reads as it did. -/
def histBoundsSpec : ChangeSpec := { name := "histBounds", fn := fun _ => fun
  | [d1, d2, d3, d4, d5] => { results := [.lit (.bool true)], args := [d1, d2, d3, d4, d5] }
  | _ => none }
def histBoundsRow : OpenClaim := { program := "ythkngfomanhmnaa", sum := "ec302b4d09cfc3745a8c99476b97f95638fda8d8a23b8cc8aa011117498afe0f", func := "simulator/simulatorlaw29.HistBounds", spec := "histBounds", unfollowed := true, recurses := true, apart := false }
def HistBoundsSaid : Prop := histBoundsRow.holds Try.pinned (OpenSpec.ofChange histBoundsSpec)

/-- ITS FALSE NEIGHBOUR: 'it returns false'. Refute it at one input. -/
def histBoundsWrong : ChangeSpec := { name := "histBounds", fn := fun _ => fun
  | [d1, d2, d3, d4, d5] => { results := [.lit (.bool false)], args := [d1, d2, d3, d4, d5] }
  | _ => none }
def HistBoundsWrongFalsely : Prop := histBoundsRow.holds Try.pinned (OpenSpec.ofChange histBoundsWrong)

/- THE SECOND FORM. 'bulk': how many values and letters a reading holds, each counted each time it is reached (what is shared counts as often as it is met; a slice's spare places count too). A statement '..UptoSaid' is the law's where the arguments, and the package variables that the reading takes, are together of bulk at most 1048576: NARROWER than '..Said'. Prove '..Said' where nothing that the law and all that it calls make is longer than what came in: it says more and counts as full. Else prove '..UptoSaid'. A law counts once. -/
mutual
def uptoBulk {H : Type} : DataW H → Nat
  | .lit (.string bytes) => bytes.length + 1
  | .lit _ => 1
  | .nil => 1
  | .ptr d => uptoBulk d + 1
  | .slice elems spare => uptoBulkAll elems + uptoBulkAll spare + 1
  | .agg parts => uptoBulkAll parts + 1
  | .iface _ d => uptoBulk d + 1
  | .map entries => uptoBulkEntries entries + 1
  | .held _ => 1
def uptoBulkAll {H : Type} : List (DataW H) → Nat
  | [] => 0
  | d :: r => uptoBulk d + uptoBulkAll r
def uptoBulkEntries {H : Type} : List (Lit × DataW H) → Nat
  | [] => 0
  | x :: r => uptoBulkEntry x + uptoBulkEntries r
def uptoBulkEntry {H : Type} : Lit × DataW H → Nat
  | (.string bytes, d) => bytes.length + uptoBulk d + 1
  | (_, d) => uptoBulk d + 1
 end
def uptoSmall : (H : Type) → List (DataW H) → Bool := fun _ ds => decide (uptoBulkAll ds ≤ 1048576)
def OpenSpec.upto (s : _root_.Go.ChangeSpec) : _root_.Go.OpenSpec := { _root_.Go.OpenSpec.ofChange s with cond := some uptoSmall }

/-- 'simulatorlaw29.HistNews', WHERE WHAT IT READS IS OF BULK AT MOST 1048576: true; the input reads as it did. -/
def histNewsUptoRow : OpenClaim := { program := "ythkngfomanhmnaa", sum := "ec302b4d09cfc3745a8c99476b97f95638fda8d8a23b8cc8aa011117498afe0f", func := "simulator/simulatorlaw29.HistNews", spec := "histNews", unfollowed := true, recurses := true, apart := false, narrowed := true }
def HistNewsUptoSaid : Prop := histNewsUptoRow.holds Try.pinned (OpenSpec.upto histNewsSpec)

/-- 'simulatorlaw29.HistAdds', WHERE WHAT IT READS IS OF BULK AT MOST 1048576: true; the input reads as it did. -/
def histAddsUptoRow : OpenClaim := { program := "ythkngfomanhmnaa", sum := "ec302b4d09cfc3745a8c99476b97f95638fda8d8a23b8cc8aa011117498afe0f", func := "simulator/simulatorlaw29.HistAdds", spec := "histAdds", unfollowed := true, recurses := true, apart := false, narrowed := true }
def HistAddsUptoSaid : Prop := histAddsUptoRow.holds Try.pinned (OpenSpec.upto histAddsSpec)

/-- 'simulatorlaw29.HistMerges', WHERE WHAT IT READS IS OF BULK AT MOST 1048576: true; the input reads as it did. -/
def histMergesUptoRow : OpenClaim := { program := "ythkngfomanhmnaa", sum := "ec302b4d09cfc3745a8c99476b97f95638fda8d8a23b8cc8aa011117498afe0f", func := "simulator/simulatorlaw29.HistMerges", spec := "histMerges", unfollowed := true, recurses := true, apart := false, narrowed := true }
def HistMergesUptoSaid : Prop := histMergesUptoRow.holds Try.pinned (OpenSpec.upto histMergesSpec)

/-- 'simulatorlaw29.HistQuantiles', WHERE WHAT IT READS IS OF BULK AT MOST 1048576: true; the input reads as it did. -/
def histQuantilesUptoRow : OpenClaim := { program := "ythkngfomanhmnaa", sum := "ec302b4d09cfc3745a8c99476b97f95638fda8d8a23b8cc8aa011117498afe0f", func := "simulator/simulatorlaw29.HistQuantiles", spec := "histQuantiles", unfollowed := true, recurses := true, apart := false, narrowed := true }
def HistQuantilesUptoSaid : Prop := histQuantilesUptoRow.holds Try.pinned (OpenSpec.upto histQuantilesSpec)

/-- 'simulatorlaw29.HistCounts', WHERE WHAT IT READS IS OF BULK AT MOST 1048576: true; the input reads as it did. -/
def histCountsUptoRow : OpenClaim := { program := "ythkngfomanhmnaa", sum := "ec302b4d09cfc3745a8c99476b97f95638fda8d8a23b8cc8aa011117498afe0f", func := "simulator/simulatorlaw29.HistCounts", spec := "histCounts", unfollowed := true, recurses := true, apart := false, narrowed := true }
def HistCountsUptoSaid : Prop := histCountsUptoRow.holds Try.pinned (OpenSpec.upto histCountsSpec)

/-- 'simulatorlaw29.HistSplits', WHERE WHAT IT READS IS OF BULK AT MOST 1048576: true; the input reads as it did. -/
def histSplitsUptoRow : OpenClaim := { program := "ythkngfomanhmnaa", sum := "ec302b4d09cfc3745a8c99476b97f95638fda8d8a23b8cc8aa011117498afe0f", func := "simulator/simulatorlaw29.HistSplits", spec := "histSplits", unfollowed := true, recurses := true, apart := false, narrowed := true }
def HistSplitsUptoSaid : Prop := histSplitsUptoRow.holds Try.pinned (OpenSpec.upto histSplitsSpec)

/-- 'simulatorlaw29.HistBounds', WHERE WHAT IT READS IS OF BULK AT MOST 1048576: true; the input reads as it did. -/
def histBoundsUptoRow : OpenClaim := { program := "ythkngfomanhmnaa", sum := "ec302b4d09cfc3745a8c99476b97f95638fda8d8a23b8cc8aa011117498afe0f", func := "simulator/simulatorlaw29.HistBounds", spec := "histBounds", unfollowed := true, recurses := true, apart := false, narrowed := true }
def HistBoundsUptoSaid : Prop := histBoundsUptoRow.holds Try.pinned (OpenSpec.upto histBoundsSpec)

end Rows
end Go.Proofs.Ythkngfomanhmnaa
