/-
  No cell of these rows narrows 'for every input' (looked for: loops, veiled, ifaces, maps, wideKeys, modest, calm, conditions, laid).
  DERIVED. THE GIVEN ROWS OF THIS SEAT. 5 by the template 'for every input the law returns true; each argument reads behind the call as it read before'; 0 by the template 'total and deterministic' (their statements: YtmegdnfihhikhaaTotals.lean).
  GIVEN WITH THE SEED: the statements are not yours to turn. If you find one false, say at which input.
  Laid BY PROGRAM, IN A SANDBOX (cutbox-rows.mjs): the forced cells as the released guide's own fill.sh prints them over the translation 209ecf2ca38a4df5… (all of the seat's roots in one cut). By AI agents, Wed Nov 11 2026. No macro, syntax, notation, axiom, sorry.
-/
import Derived.Test.YtmegdnfihhikhaaChecked
import GoSem.Claim
import GoSem.ClaimJoined
import GoSem.ClaimMapViews
import Derived.JoinedTies
import Derived.KernelRfl
namespace Go.Proofs.Ytmegdnfihhikhaa
/- THE CELL 'sum', in the pinned program and in every row, IS THE sha256 OF THE DUMP (.gsa) THAT YtmegdnfihhikhaaProg.lean LOADS. Nothing in Lean hashes anything: it is a label: what it is worth is what the hold of that sum in a sandbox is worth. -/
noncomputable def Try.pinned : Pinned := { name := "ytmegdnfihhikhaa", sum := "209ecf2ca38a4df5dd5705a37e0432318e306ad0d2ce3039ae98a549b88509c5", checked := Try.checked }
namespace Rows
def none {H : Type} : Left H := { results := [], args := [] }

/-- 'simulatorlaw23.WaitlistChecks': WHATEVER THE INPUT: true; the input reads as it did. -/
def waitlistChecksSpec : ChangeSpec := { name := "waitlistChecks", fn := fun _ => fun
  | [d1, d2] => { results := [.lit (.bool true)], args := [d1, d2] }
  | _ => none }
def waitlistChecksRow : OpenClaim := { program := "ytmegdnfihhikhaa", sum := "209ecf2ca38a4df5dd5705a37e0432318e306ad0d2ce3039ae98a549b88509c5", func := "simulator/simulatorlaw23.WaitlistChecks", spec := "waitlistChecks", apart := false }
def WaitlistChecksSaid : Prop := waitlistChecksRow.holds Try.pinned (OpenSpec.ofChange waitlistChecksSpec)

/-- ITS FALSE NEIGHBOUR: 'it returns false'. Refute it at one input. -/
def waitlistChecksWrong : ChangeSpec := { name := "waitlistChecks", fn := fun _ => fun
  | [d1, d2] => { results := [.lit (.bool false)], args := [d1, d2] }
  | _ => none }
def WaitlistChecksWrongFalsely : Prop := waitlistChecksRow.holds Try.pinned (OpenSpec.ofChange waitlistChecksWrong)

/-- 'simulatorlaw23.WaitlistChanges': WHATEVER THE INPUT: true; the input reads as it did. -/
def waitlistChangesSpec : ChangeSpec := { name := "waitlistChanges", fn := fun _ => fun
  | [d1, d2, d3] => { results := [.lit (.bool true)], args := [d1, d2, d3] }
  | _ => none }
def waitlistChangesRow : OpenClaim := { program := "ytmegdnfihhikhaa", sum := "209ecf2ca38a4df5dd5705a37e0432318e306ad0d2ce3039ae98a549b88509c5", func := "simulator/simulatorlaw23.WaitlistChanges", spec := "waitlistChanges", apart := false }
def WaitlistChangesSaid : Prop := waitlistChangesRow.holds Try.pinned (OpenSpec.ofChange waitlistChangesSpec)

/-- ITS FALSE NEIGHBOUR: 'it returns false'. Refute it at one input. -/
def waitlistChangesWrong : ChangeSpec := { name := "waitlistChanges", fn := fun _ => fun
  | [d1, d2, d3] => { results := [.lit (.bool false)], args := [d1, d2, d3] }
  | _ => none }
def WaitlistChangesWrongFalsely : Prop := waitlistChangesRow.holds Try.pinned (OpenSpec.ofChange waitlistChangesWrong)

/-- 'simulatorlaw23.WaitlistSignals': WHATEVER THE INPUT: true; the input reads as it did. -/
def waitlistSignalsSpec : ChangeSpec := { name := "waitlistSignals", fn := fun _ => fun
  | [d1, d2] => { results := [.lit (.bool true)], args := [d1, d2] }
  | _ => none }
def waitlistSignalsRow : OpenClaim := { program := "ytmegdnfihhikhaa", sum := "209ecf2ca38a4df5dd5705a37e0432318e306ad0d2ce3039ae98a549b88509c5", func := "simulator/simulatorlaw23.WaitlistSignals", spec := "waitlistSignals", apart := false }
def WaitlistSignalsSaid : Prop := waitlistSignalsRow.holds Try.pinned (OpenSpec.ofChange waitlistSignalsSpec)

/-- ITS FALSE NEIGHBOUR: 'it returns false'. Refute it at one input. -/
def waitlistSignalsWrong : ChangeSpec := { name := "waitlistSignals", fn := fun _ => fun
  | [d1, d2] => { results := [.lit (.bool false)], args := [d1, d2] }
  | _ => none }
def WaitlistSignalsWrongFalsely : Prop := waitlistSignalsRow.holds Try.pinned (OpenSpec.ofChange waitlistSignalsWrong)

/-- 'simulatorlaw23.WaitlistPlaces': WHATEVER THE INPUT: true; the input reads as it did. -/
def waitlistPlacesSpec : ChangeSpec := { name := "waitlistPlaces", fn := fun _ => fun
  | [d1, d2, d3] => { results := [.lit (.bool true)], args := [d1, d2, d3] }
  | _ => none }
def waitlistPlacesRow : OpenClaim := { program := "ytmegdnfihhikhaa", sum := "209ecf2ca38a4df5dd5705a37e0432318e306ad0d2ce3039ae98a549b88509c5", func := "simulator/simulatorlaw23.WaitlistPlaces", spec := "waitlistPlaces", apart := false }
def WaitlistPlacesSaid : Prop := waitlistPlacesRow.holds Try.pinned (OpenSpec.ofChange waitlistPlacesSpec)

/-- ITS FALSE NEIGHBOUR: 'it returns false'. Refute it at one input. -/
def waitlistPlacesWrong : ChangeSpec := { name := "waitlistPlaces", fn := fun _ => fun
  | [d1, d2, d3] => { results := [.lit (.bool false)], args := [d1, d2, d3] }
  | _ => none }
def WaitlistPlacesWrongFalsely : Prop := waitlistPlacesRow.holds Try.pinned (OpenSpec.ofChange waitlistPlacesWrong)

/-- 'simulatorlaw23.WaitlistOrder': WHATEVER THE INPUT: true; the input reads as it did. -/
def waitlistOrderSpec : ChangeSpec := { name := "waitlistOrder", fn := fun _ => fun
  | [d] => { results := [.lit (.bool true)], args := [d] }
  | _ => none }
def waitlistOrderRow : OpenClaim := { program := "ytmegdnfihhikhaa", sum := "209ecf2ca38a4df5dd5705a37e0432318e306ad0d2ce3039ae98a549b88509c5", func := "simulator/simulatorlaw23.WaitlistOrder", spec := "waitlistOrder", apart := false }
def WaitlistOrderSaid : Prop := waitlistOrderRow.holds Try.pinned (OpenSpec.ofChange waitlistOrderSpec)

/-- ITS FALSE NEIGHBOUR: 'it returns false'. Refute it at one input. -/
def waitlistOrderWrong : ChangeSpec := { name := "waitlistOrder", fn := fun _ => fun
  | [d] => { results := [.lit (.bool false)], args := [d] }
  | _ => none }
def WaitlistOrderWrongFalsely : Prop := waitlistOrderRow.holds Try.pinned (OpenSpec.ofChange waitlistOrderWrong)

/- THE SECOND FORM. 'bulk': how many values and letters a reading holds, each counted each time it is reached (what is shared counts as often as it is met; a slice's spare places count too). A statement '..UptoSaid' is the law's where the arguments, and the package variables that the reading takes, are together of bulk at most 1048576: NARROWER than '..Said'. Prove '..Said' where nothing that the law and all that it calls make is longer than what came in: it says more and counts as full. Else prove '..UptoSaid'. A law counts once. -/
mutual
def uptoBulk {H : Type} : DataW H → Nat
  | .lit (.string bytes) => bytes.length + 1
  | .lit _ => 1
  | .nil => 1
  | .ptr d => uptoBulk d + 1
  | .slice elems spare => uptoBulkAll elems + uptoBulkAll spare + 1
  | .agg parts => uptoBulkAll parts + 1
  | .iface _ d => uptoBulk d + 1
  | .map entries => uptoBulkEntries entries + 1
  | .held _ => 1
def uptoBulkAll {H : Type} : List (DataW H) → Nat
  | [] => 0
  | d :: r => uptoBulk d + uptoBulkAll r
def uptoBulkEntries {H : Type} : List (Lit × DataW H) → Nat
  | [] => 0
  | x :: r => uptoBulkEntry x + uptoBulkEntries r
def uptoBulkEntry {H : Type} : Lit × DataW H → Nat
  | (.string bytes, d) => bytes.length + uptoBulk d + 1
  | (_, d) => uptoBulk d + 1
 end
def uptoSmall : (H : Type) → List (DataW H) → Bool := fun _ ds => decide (uptoBulkAll ds ≤ 1048576)
def OpenSpec.upto (s : _root_.Go.ChangeSpec) : _root_.Go.OpenSpec := { _root_.Go.OpenSpec.ofChange s with cond := some uptoSmall }

/-- 'simulatorlaw23.WaitlistChecks', WHERE WHAT IT READS IS OF BULK AT MOST 1048576: true; the input reads as it did. -/
def waitlistChecksUptoRow : OpenClaim := { program := "ytmegdnfihhikhaa", sum := "209ecf2ca38a4df5dd5705a37e0432318e306ad0d2ce3039ae98a549b88509c5", func := "simulator/simulatorlaw23.WaitlistChecks", spec := "waitlistChecks", apart := false, narrowed := true }
def WaitlistChecksUptoSaid : Prop := waitlistChecksUptoRow.holds Try.pinned (OpenSpec.upto waitlistChecksSpec)

/-- 'simulatorlaw23.WaitlistChanges', WHERE WHAT IT READS IS OF BULK AT MOST 1048576: true; the input reads as it did. -/
def waitlistChangesUptoRow : OpenClaim := { program := "ytmegdnfihhikhaa", sum := "209ecf2ca38a4df5dd5705a37e0432318e306ad0d2ce3039ae98a549b88509c5", func := "simulator/simulatorlaw23.WaitlistChanges", spec := "waitlistChanges", apart := false, narrowed := true }
def WaitlistChangesUptoSaid : Prop := waitlistChangesUptoRow.holds Try.pinned (OpenSpec.upto waitlistChangesSpec)

/-- 'simulatorlaw23.WaitlistSignals', WHERE WHAT IT READS IS OF BULK AT MOST 1048576: true; the input reads as it did. -/
def waitlistSignalsUptoRow : OpenClaim := { program := "ytmegdnfihhikhaa", sum := "209ecf2ca38a4df5dd5705a37e0432318e306ad0d2ce3039ae98a549b88509c5", func := "simulator/simulatorlaw23.WaitlistSignals", spec := "waitlistSignals", apart := false, narrowed := true }
def WaitlistSignalsUptoSaid : Prop := waitlistSignalsUptoRow.holds Try.pinned (OpenSpec.upto waitlistSignalsSpec)

/-- 'simulatorlaw23.WaitlistPlaces', WHERE WHAT IT READS IS OF BULK AT MOST 1048576: true; the input reads as it did. -/
def waitlistPlacesUptoRow : OpenClaim := { program := "ytmegdnfihhikhaa", sum := "209ecf2ca38a4df5dd5705a37e0432318e306ad0d2ce3039ae98a549b88509c5", func := "simulator/simulatorlaw23.WaitlistPlaces", spec := "waitlistPlaces", apart := false, narrowed := true }
def WaitlistPlacesUptoSaid : Prop := waitlistPlacesUptoRow.holds Try.pinned (OpenSpec.upto waitlistPlacesSpec)

/-- 'simulatorlaw23.WaitlistOrder', WHERE WHAT IT READS IS OF BULK AT MOST 1048576: true; the input reads as it did. -/
def waitlistOrderUptoRow : OpenClaim := { program := "ytmegdnfihhikhaa", sum := "209ecf2ca38a4df5dd5705a37e0432318e306ad0d2ce3039ae98a549b88509c5", func := "simulator/simulatorlaw23.WaitlistOrder", spec := "waitlistOrder", apart := false, narrowed := true }
def WaitlistOrderUptoSaid : Prop := waitlistOrderUptoRow.holds Try.pinned (OpenSpec.upto waitlistOrderSpec)

end Rows
end Go.Proofs.Ytmegdnfihhikhaa
