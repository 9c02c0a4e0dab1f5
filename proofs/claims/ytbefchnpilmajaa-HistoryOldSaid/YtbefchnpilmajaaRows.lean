/-
  No cell of these rows narrows 'for every input' (looked for: loops, veiled, ifaces, maps, wideKeys, modest, calm, conditions, laid).
  DERIVED. THE GIVEN ROWS OF THIS SEAT. 6 by the template 'for every input the law returns true; each argument reads behind the call as it read before'; 0 by the template 'total and deterministic' (their statements: YtbefchnpilmajaaTotals.lean).
  GIVEN WITH THE SEED: the statements are not yours to turn. If you find one false, say at which input.
  Laid BY PROGRAM, IN A SANDBOX (cutbox-rows.mjs): the forced cells as the released guide's own fill.sh prints them over the translation 050d4a2f73c51deb… (all of the seat's roots in one cut). By AI agents, Wed Nov 11 2026. No macro, syntax, notation, axiom, sorry.
-/
import Derived.Test.YtbefchnpilmajaaChecked
import GoSem.Claim
import GoSem.ClaimJoined
import GoSem.ClaimMapViews
import Derived.JoinedTies
import Derived.KernelRfl
namespace Go.Proofs.Ytbefchnpilmajaa
/- THE CELL 'sum', in the pinned program and in every row, IS THE sha256 OF THE DUMP (.gsa) THAT YtbefchnpilmajaaProg.lean LOADS. Nothing in Lean hashes anything: it is a label: what it is worth is what the hold of that sum in a sandbox is worth. -/
noncomputable def Try.pinned : Pinned := { name := "ytbefchnpilmajaa", sum := "050d4a2f73c51debe3a48720888454886861c656b0c5437f0a54015f9c06fff6", checked := Try.checked }
namespace Rows
def none {H : Type} : Left H := { results := [], args := [] }

/-- 'simulatorlaw37.HistoryPushes': WHATEVER THE INPUT: true; the input reads as it did. -/
def historyPushesSpec : ChangeSpec := { name := "historyPushes", fn := fun _ => fun
  | [d1, d2] => { results := [.lit (.bool true)], args := [d1, d2] }
  | _ => none }
def historyPushesRow : OpenClaim := { program := "ytbefchnpilmajaa", sum := "050d4a2f73c51debe3a48720888454886861c656b0c5437f0a54015f9c06fff6", func := "simulator/simulatorlaw37.HistoryPushes", spec := "historyPushes", unfollowed := true, recurses := true, apart := false }
def HistoryPushesSaid : Prop := historyPushesRow.holds Try.pinned (OpenSpec.ofChange historyPushesSpec)

/-- ITS FALSE NEIGHBOUR: 'it returns false'. Refute it at one input. -/
def historyPushesWrong : ChangeSpec := { name := "historyPushes", fn := fun _ => fun
  | [d1, d2] => { results := [.lit (.bool false)], args := [d1, d2] }
  | _ => none }
def HistoryPushesWrongFalsely : Prop := historyPushesRow.holds Try.pinned (OpenSpec.ofChange historyPushesWrong)

/-- 'simulatorlaw37.HistoryCuts': WHATEVER THE INPUT: true; the input reads as it did. -/
def historyCutsSpec : ChangeSpec := { name := "historyCuts", fn := fun _ => fun
  | [d1, d2] => { results := [.lit (.bool true)], args := [d1, d2] }
  | _ => none }
def historyCutsRow : OpenClaim := { program := "ytbefchnpilmajaa", sum := "050d4a2f73c51debe3a48720888454886861c656b0c5437f0a54015f9c06fff6", func := "simulator/simulatorlaw37.HistoryCuts", spec := "historyCuts", unfollowed := true, recurses := true, apart := false }
def HistoryCutsSaid : Prop := historyCutsRow.holds Try.pinned (OpenSpec.ofChange historyCutsSpec)

/-- ITS FALSE NEIGHBOUR: 'it returns false'. Refute it at one input. -/
def historyCutsWrong : ChangeSpec := { name := "historyCuts", fn := fun _ => fun
  | [d1, d2] => { results := [.lit (.bool false)], args := [d1, d2] }
  | _ => none }
def HistoryCutsWrongFalsely : Prop := historyCutsRow.holds Try.pinned (OpenSpec.ofChange historyCutsWrong)

/-- 'simulatorlaw37.HistoryFinds': WHATEVER THE INPUT: true; the input reads as it did. -/
def historyFindsSpec : ChangeSpec := { name := "historyFinds", fn := fun _ => fun
  | [d1, d2] => { results := [.lit (.bool true)], args := [d1, d2] }
  | _ => none }
def historyFindsRow : OpenClaim := { program := "ytbefchnpilmajaa", sum := "050d4a2f73c51debe3a48720888454886861c656b0c5437f0a54015f9c06fff6", func := "simulator/simulatorlaw37.HistoryFinds", spec := "historyFinds", unfollowed := true, recurses := true, apart := false }
def HistoryFindsSaid : Prop := historyFindsRow.holds Try.pinned (OpenSpec.ofChange historyFindsSpec)

/-- ITS FALSE NEIGHBOUR: 'it returns false'. Refute it at one input. -/
def historyFindsWrong : ChangeSpec := { name := "historyFinds", fn := fun _ => fun
  | [d1, d2] => { results := [.lit (.bool false)], args := [d1, d2] }
  | _ => none }
def HistoryFindsWrongFalsely : Prop := historyFindsRow.holds Try.pinned (OpenSpec.ofChange historyFindsWrong)

/-- 'simulatorlaw37.HistoryFull': WHATEVER THE INPUT: true; the input reads as it did. -/
def historyFullSpec : ChangeSpec := { name := "historyFull", fn := fun _ => fun
  | [d] => { results := [.lit (.bool true)], args := [d] }
  | _ => none }
def historyFullRow : OpenClaim := { program := "ytbefchnpilmajaa", sum := "050d4a2f73c51debe3a48720888454886861c656b0c5437f0a54015f9c06fff6", func := "simulator/simulatorlaw37.HistoryFull", spec := "historyFull", unfollowed := true, recurses := true, apart := false }
def HistoryFullSaid : Prop := historyFullRow.holds Try.pinned (OpenSpec.ofChange historyFullSpec)

/-- ITS FALSE NEIGHBOUR: 'it returns false'. Refute it at one input. -/
def historyFullWrong : ChangeSpec := { name := "historyFull", fn := fun _ => fun
  | [d] => { results := [.lit (.bool false)], args := [d] }
  | _ => none }
def HistoryFullWrongFalsely : Prop := historyFullRow.holds Try.pinned (OpenSpec.ofChange historyFullWrong)

/-- 'simulatorlaw37.HistoryParts': WHATEVER THE INPUT: true; the input reads as it did. -/
def historyPartsSpec : ChangeSpec := { name := "historyParts", fn := fun _ => fun
  | [d1, d2, d3] => { results := [.lit (.bool true)], args := [d1, d2, d3] }
  | _ => none }
def historyPartsRow : OpenClaim := { program := "ytbefchnpilmajaa", sum := "050d4a2f73c51debe3a48720888454886861c656b0c5437f0a54015f9c06fff6", func := "simulator/simulatorlaw37.HistoryParts", spec := "historyParts", unfollowed := true, recurses := true, apart := false }
def HistoryPartsSaid : Prop := historyPartsRow.holds Try.pinned (OpenSpec.ofChange historyPartsSpec)

/-- ITS FALSE NEIGHBOUR: 'it returns false'. Refute it at one input. -/
def historyPartsWrong : ChangeSpec := { name := "historyParts", fn := fun _ => fun
  | [d1, d2, d3] => { results := [.lit (.bool false)], args := [d1, d2, d3] }
  | _ => none }
def HistoryPartsWrongFalsely : Prop := historyPartsRow.holds Try.pinned (OpenSpec.ofChange historyPartsWrong)

/-- 'simulatorlaw37.HistoryOld': WHATEVER THE INPUT: true; the input reads as it did. -/
def historyOldSpec : ChangeSpec := { name := "historyOld", fn := fun _ => fun
  | [d1, d2] => { results := [.lit (.bool true)], args := [d1, d2] }
  | _ => none }
def historyOldRow : OpenClaim := { program := "ytbefchnpilmajaa", sum := "050d4a2f73c51debe3a48720888454886861c656b0c5437f0a54015f9c06fff6", func := "simulator/simulatorlaw37.HistoryOld", spec := "historyOld", unfollowed := true, recurses := true, apart := false }
def HistoryOldSaid : Prop := historyOldRow.holds Try.pinned (OpenSpec.ofChange historyOldSpec)

/-- ITS FALSE NEIGHBOUR: 'it returns false'. Refute it at one input. -/
def historyOldWrong : ChangeSpec := { name := "historyOld", fn := fun _ => fun
  | [d1, d2] => { results := [.lit (.bool false)], args := [d1, d2] }
  | _ => none }
def HistoryOldWrongFalsely : Prop := historyOldRow.holds Try.pinned (OpenSpec.ofChange historyOldWrong)

/- THE SECOND FORM. 'bulk': how many values and letters a reading holds, each counted each time it is reached (what is shared counts as often as it is met; a slice's spare places count too). A statement '..UptoSaid' is the law's where the arguments, and the package variables that the reading takes, are together of bulk at most 1048576: NARROWER than '..Said'. Prove '..Said' where nothing that the law and all that it calls make is longer than what came in: it says more and counts as full. Else prove '..UptoSaid'. A law counts once. -/
mutual
def uptoBulk {H : Type} : DataW H → Nat
  | .lit (.string bytes) => bytes.length + 1
  | .lit _ => 1
  | .nil => 1
  | .ptr d => uptoBulk d + 1
  | .slice elems spare => uptoBulkAll elems + uptoBulkAll spare + 1
  | .agg parts => uptoBulkAll parts + 1
  | .iface _ d => uptoBulk d + 1
  | .map entries => uptoBulkEntries entries + 1
  | .held _ => 1
def uptoBulkAll {H : Type} : List (DataW H) → Nat
  | [] => 0
  | d :: r => uptoBulk d + uptoBulkAll r
def uptoBulkEntries {H : Type} : List (Lit × DataW H) → Nat
  | [] => 0
  | x :: r => uptoBulkEntry x + uptoBulkEntries r
def uptoBulkEntry {H : Type} : Lit × DataW H → Nat
  | (.string bytes, d) => bytes.length + uptoBulk d + 1
  | (_, d) => uptoBulk d + 1
 end
def uptoSmall : (H : Type) → List (DataW H) → Bool := fun _ ds => decide (uptoBulkAll ds ≤ 1048576)
def OpenSpec.upto (s : _root_.Go.ChangeSpec) : _root_.Go.OpenSpec := { _root_.Go.OpenSpec.ofChange s with cond := some uptoSmall }

/-- 'simulatorlaw37.HistoryPushes', WHERE WHAT IT READS IS OF BULK AT MOST 1048576: true; the input reads as it did. -/
def historyPushesUptoRow : OpenClaim := { program := "ytbefchnpilmajaa", sum := "050d4a2f73c51debe3a48720888454886861c656b0c5437f0a54015f9c06fff6", func := "simulator/simulatorlaw37.HistoryPushes", spec := "historyPushes", unfollowed := true, recurses := true, apart := false, narrowed := true }
def HistoryPushesUptoSaid : Prop := historyPushesUptoRow.holds Try.pinned (OpenSpec.upto historyPushesSpec)

/-- 'simulatorlaw37.HistoryCuts', WHERE WHAT IT READS IS OF BULK AT MOST 1048576: true; the input reads as it did. -/
def historyCutsUptoRow : OpenClaim := { program := "ytbefchnpilmajaa", sum := "050d4a2f73c51debe3a48720888454886861c656b0c5437f0a54015f9c06fff6", func := "simulator/simulatorlaw37.HistoryCuts", spec := "historyCuts", unfollowed := true, recurses := true, apart := false, narrowed := true }
def HistoryCutsUptoSaid : Prop := historyCutsUptoRow.holds Try.pinned (OpenSpec.upto historyCutsSpec)

/-- 'simulatorlaw37.HistoryFinds', WHERE WHAT IT READS IS OF BULK AT MOST 1048576: true; the input reads as it did. -/
def historyFindsUptoRow : OpenClaim := { program := "ytbefchnpilmajaa", sum := "050d4a2f73c51debe3a48720888454886861c656b0c5437f0a54015f9c06fff6", func := "simulator/simulatorlaw37.HistoryFinds", spec := "historyFinds", unfollowed := true, recurses := true, apart := false, narrowed := true }
def HistoryFindsUptoSaid : Prop := historyFindsUptoRow.holds Try.pinned (OpenSpec.upto historyFindsSpec)

/-- 'simulatorlaw37.HistoryFull', WHERE WHAT IT READS IS OF BULK AT MOST 1048576: true; the input reads as it did. -/
def historyFullUptoRow : OpenClaim := { program := "ytbefchnpilmajaa", sum := "050d4a2f73c51debe3a48720888454886861c656b0c5437f0a54015f9c06fff6", func := "simulator/simulatorlaw37.HistoryFull", spec := "historyFull", unfollowed := true, recurses := true, apart := false, narrowed := true }
def HistoryFullUptoSaid : Prop := historyFullUptoRow.holds Try.pinned (OpenSpec.upto historyFullSpec)

/-- 'simulatorlaw37.HistoryParts', WHERE WHAT IT READS IS OF BULK AT MOST 1048576: true; the input reads as it did. -/
def historyPartsUptoRow : OpenClaim := { program := "ytbefchnpilmajaa", sum := "050d4a2f73c51debe3a48720888454886861c656b0c5437f0a54015f9c06fff6", func := "simulator/simulatorlaw37.HistoryParts", spec := "historyParts", unfollowed := true, recurses := true, apart := false, narrowed := true }
def HistoryPartsUptoSaid : Prop := historyPartsUptoRow.holds Try.pinned (OpenSpec.upto historyPartsSpec)

/-- 'simulatorlaw37.HistoryOld', WHERE WHAT IT READS IS OF BULK AT MOST 1048576: true; the input reads as it did. -/
def historyOldUptoRow : OpenClaim := { program := "ytbefchnpilmajaa", sum := "050d4a2f73c51debe3a48720888454886861c656b0c5437f0a54015f9c06fff6", func := "simulator/simulatorlaw37.HistoryOld", spec := "historyOld", unfollowed := true, recurses := true, apart := false, narrowed := true }
def HistoryOldUptoSaid : Prop := historyOldUptoRow.holds Try.pinned (OpenSpec.upto historyOldSpec)

end Rows
end Go.Proofs.Ytbefchnpilmajaa
