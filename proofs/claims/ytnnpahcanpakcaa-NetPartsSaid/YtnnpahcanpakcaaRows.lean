/-
  No cell of these rows narrows 'for every input' (looked for: loops, veiled, ifaces, maps, wideKeys, modest, calm, conditions, laid).
  DERIVED. THE GIVEN ROWS OF THIS SEAT. 5 by the template 'for every input the law returns true; each argument reads behind the call as it read before'; 0 by the template 'total and deterministic' (their statements: YtnnpahcanpakcaaTotals.lean).
  GIVEN WITH THE SEED: the statements are not yours to turn. If you find one false, say at which input.
  Laid BY PROGRAM, IN A SANDBOX (cutbox-rows.mjs): the forced cells as the released guide's own fill.sh prints them over the translation 1137f94dc03fc7dd… (all of the seat's roots in one cut). By AI agents, Wed Nov 11 2026. No macro, syntax, notation, axiom, sorry.
-/
import Derived.Test.YtnnpahcanpakcaaChecked
import GoSem.Claim
import GoSem.ClaimJoined
import GoSem.ClaimMapViews
import Derived.JoinedTies
import Derived.KernelRfl
namespace Go.Proofs.Ytnnpahcanpakcaa
/- THE CELL 'sum', in the pinned program and in every row, IS THE sha256 OF THE DUMP (.gsa) THAT YtnnpahcanpakcaaProg.lean LOADS. Nothing in Lean hashes anything: it is a label: what it is worth is what the hold of that sum in a sandbox is worth. -/
noncomputable def Try.pinned : Pinned := { name := "ytnnpahcanpakcaa", sum := "1137f94dc03fc7dde845f6ce665764348aa4e8e049742af0a4858ab9770a5caa", checked := Try.checked }
namespace Rows
def none {H : Type} : Left H := { results := [], args := [] }

/-- 'simulatorlaw35.NetChecks': WHATEVER THE INPUT: true; the input reads as it did. -/
def netChecksSpec : ChangeSpec := { name := "netChecks", fn := fun _ => fun
  | [d1, d2] => { results := [.lit (.bool true)], args := [d1, d2] }
  | _ => none }
def netChecksRow : OpenClaim := { program := "ytnnpahcanpakcaa", sum := "1137f94dc03fc7dde845f6ce665764348aa4e8e049742af0a4858ab9770a5caa", func := "simulator/simulatorlaw35.NetChecks", spec := "netChecks", unfollowed := true, recurses := true, plainKeys := false, apart := false }
def NetChecksSaid : Prop := netChecksRow.holds Try.pinned (OpenSpec.ofChange netChecksSpec)

/-- ITS FALSE NEIGHBOUR: 'it returns false'. Refute it at one input. -/
def netChecksWrong : ChangeSpec := { name := "netChecks", fn := fun _ => fun
  | [d1, d2] => { results := [.lit (.bool false)], args := [d1, d2] }
  | _ => none }
def NetChecksWrongFalsely : Prop := netChecksRow.holds Try.pinned (OpenSpec.ofChange netChecksWrong)

/-- 'simulatorlaw35.NetSends': WHATEVER THE INPUT: true; the input reads as it did. -/
def netSendsSpec : ChangeSpec := { name := "netSends", fn := fun _ => fun
  | [d1, d2, d3, d4] => { results := [.lit (.bool true)], args := [d1, d2, d3, d4] }
  | _ => none }
def netSendsRow : OpenClaim := { program := "ytnnpahcanpakcaa", sum := "1137f94dc03fc7dde845f6ce665764348aa4e8e049742af0a4858ab9770a5caa", func := "simulator/simulatorlaw35.NetSends", spec := "netSends", unfollowed := true, recurses := true, plainKeys := false, apart := false }
def NetSendsSaid : Prop := netSendsRow.holds Try.pinned (OpenSpec.ofChange netSendsSpec)

/-- ITS FALSE NEIGHBOUR: 'it returns false'. Refute it at one input. -/
def netSendsWrong : ChangeSpec := { name := "netSends", fn := fun _ => fun
  | [d1, d2, d3, d4] => { results := [.lit (.bool false)], args := [d1, d2, d3, d4] }
  | _ => none }
def NetSendsWrongFalsely : Prop := netSendsRow.holds Try.pinned (OpenSpec.ofChange netSendsWrong)

/-- 'simulatorlaw35.NetArrives': WHATEVER THE INPUT: true; the input reads as it did. -/
def netArrivesSpec : ChangeSpec := { name := "netArrives", fn := fun _ => fun
  | [d1, d2, d3] => { results := [.lit (.bool true)], args := [d1, d2, d3] }
  | _ => none }
def netArrivesRow : OpenClaim := { program := "ytnnpahcanpakcaa", sum := "1137f94dc03fc7dde845f6ce665764348aa4e8e049742af0a4858ab9770a5caa", func := "simulator/simulatorlaw35.NetArrives", spec := "netArrives", unfollowed := true, recurses := true, plainKeys := false, apart := false }
def NetArrivesSaid : Prop := netArrivesRow.holds Try.pinned (OpenSpec.ofChange netArrivesSpec)

/-- ITS FALSE NEIGHBOUR: 'it returns false'. Refute it at one input. -/
def netArrivesWrong : ChangeSpec := { name := "netArrives", fn := fun _ => fun
  | [d1, d2, d3] => { results := [.lit (.bool false)], args := [d1, d2, d3] }
  | _ => none }
def NetArrivesWrongFalsely : Prop := netArrivesRow.holds Try.pinned (OpenSpec.ofChange netArrivesWrong)

/-- 'simulatorlaw35.NetParts': WHATEVER THE INPUT: true; the input reads as it did. -/
def netPartsSpec : ChangeSpec := { name := "netParts", fn := fun _ => fun
  | [d1, d2, d3] => { results := [.lit (.bool true)], args := [d1, d2, d3] }
  | _ => none }
def netPartsRow : OpenClaim := { program := "ytnnpahcanpakcaa", sum := "1137f94dc03fc7dde845f6ce665764348aa4e8e049742af0a4858ab9770a5caa", func := "simulator/simulatorlaw35.NetParts", spec := "netParts", unfollowed := true, recurses := true, plainKeys := false, apart := false }
def NetPartsSaid : Prop := netPartsRow.holds Try.pinned (OpenSpec.ofChange netPartsSpec)

/-- ITS FALSE NEIGHBOUR: 'it returns false'. Refute it at one input. -/
def netPartsWrong : ChangeSpec := { name := "netParts", fn := fun _ => fun
  | [d1, d2, d3] => { results := [.lit (.bool false)], args := [d1, d2, d3] }
  | _ => none }
def NetPartsWrongFalsely : Prop := netPartsRow.holds Try.pinned (OpenSpec.ofChange netPartsWrong)

/-- 'simulatorlaw35.NetOrder': WHATEVER THE INPUT: true; the input reads as it did. -/
def netOrderSpec : ChangeSpec := { name := "netOrder", fn := fun _ => fun
  | [d1, d2] => { results := [.lit (.bool true)], args := [d1, d2] }
  | _ => none }
def netOrderRow : OpenClaim := { program := "ytnnpahcanpakcaa", sum := "1137f94dc03fc7dde845f6ce665764348aa4e8e049742af0a4858ab9770a5caa", func := "simulator/simulatorlaw35.NetOrder", spec := "netOrder", unfollowed := true, recurses := true, plainKeys := false, apart := false }
def NetOrderSaid : Prop := netOrderRow.holds Try.pinned (OpenSpec.ofChange netOrderSpec)

/-- ITS FALSE NEIGHBOUR: 'it returns false'. Refute it at one input. -/
def netOrderWrong : ChangeSpec := { name := "netOrder", fn := fun _ => fun
  | [d1, d2] => { results := [.lit (.bool false)], args := [d1, d2] }
  | _ => none }
def NetOrderWrongFalsely : Prop := netOrderRow.holds Try.pinned (OpenSpec.ofChange netOrderWrong)

/- THE SECOND FORM. 'bulk': how many values and letters a reading holds, each counted each time it is reached (what is shared counts as often as it is met; a slice's spare places count too). A statement '..UptoSaid' is the law's where the arguments, and the package variables that the reading takes, are together of bulk at most 1048576: NARROWER than '..Said'. Prove '..Said' where nothing that the law and all that it calls make is longer than what came in: it says more and counts as full. Else prove '..UptoSaid'. A law counts once. -/
mutual
def uptoBulk {H : Type} : DataW H → Nat
  | .lit (.string bytes) => bytes.length + 1
  | .lit _ => 1
  | .nil => 1
  | .ptr d => uptoBulk d + 1
  | .slice elems spare => uptoBulkAll elems + uptoBulkAll spare + 1
  | .agg parts => uptoBulkAll parts + 1
  | .iface _ d => uptoBulk d + 1
  | .map entries => uptoBulkEntries entries + 1
  | .held _ => 1
def uptoBulkAll {H : Type} : List (DataW H) → Nat
  | [] => 0
  | d :: r => uptoBulk d + uptoBulkAll r
def uptoBulkEntries {H : Type} : List (Lit × DataW H) → Nat
  | [] => 0
  | x :: r => uptoBulkEntry x + uptoBulkEntries r
def uptoBulkEntry {H : Type} : Lit × DataW H → Nat
  | (.string bytes, d) => bytes.length + uptoBulk d + 1
  | (_, d) => uptoBulk d + 1
 end
def uptoSmall : (H : Type) → List (DataW H) → Bool := fun _ ds => decide (uptoBulkAll ds ≤ 1048576)
def OpenSpec.upto (s : _root_.Go.ChangeSpec) : _root_.Go.OpenSpec := { _root_.Go.OpenSpec.ofChange s with cond := some uptoSmall }

/-- 'simulatorlaw35.NetChecks', WHERE WHAT IT READS IS OF BULK AT MOST 1048576: true; the input reads as it did. -/
def netChecksUptoRow : OpenClaim := { program := "ytnnpahcanpakcaa", sum := "1137f94dc03fc7dde845f6ce665764348aa4e8e049742af0a4858ab9770a5caa", func := "simulator/simulatorlaw35.NetChecks", spec := "netChecks", unfollowed := true, recurses := true, plainKeys := false, apart := false, narrowed := true }
def NetChecksUptoSaid : Prop := netChecksUptoRow.holds Try.pinned (OpenSpec.upto netChecksSpec)

/-- 'simulatorlaw35.NetSends', WHERE WHAT IT READS IS OF BULK AT MOST 1048576: true; the input reads as it did. -/
def netSendsUptoRow : OpenClaim := { program := "ytnnpahcanpakcaa", sum := "1137f94dc03fc7dde845f6ce665764348aa4e8e049742af0a4858ab9770a5caa", func := "simulator/simulatorlaw35.NetSends", spec := "netSends", unfollowed := true, recurses := true, plainKeys := false, apart := false, narrowed := true }
def NetSendsUptoSaid : Prop := netSendsUptoRow.holds Try.pinned (OpenSpec.upto netSendsSpec)

/-- 'simulatorlaw35.NetArrives', WHERE WHAT IT READS IS OF BULK AT MOST 1048576: true; the input reads as it did. -/
def netArrivesUptoRow : OpenClaim := { program := "ytnnpahcanpakcaa", sum := "1137f94dc03fc7dde845f6ce665764348aa4e8e049742af0a4858ab9770a5caa", func := "simulator/simulatorlaw35.NetArrives", spec := "netArrives", unfollowed := true, recurses := true, plainKeys := false, apart := false, narrowed := true }
def NetArrivesUptoSaid : Prop := netArrivesUptoRow.holds Try.pinned (OpenSpec.upto netArrivesSpec)

/-- 'simulatorlaw35.NetParts', WHERE WHAT IT READS IS OF BULK AT MOST 1048576: true; the input reads as it did. -/
def netPartsUptoRow : OpenClaim := { program := "ytnnpahcanpakcaa", sum := "1137f94dc03fc7dde845f6ce665764348aa4e8e049742af0a4858ab9770a5caa", func := "simulator/simulatorlaw35.NetParts", spec := "netParts", unfollowed := true, recurses := true, plainKeys := false, apart := false, narrowed := true }
def NetPartsUptoSaid : Prop := netPartsUptoRow.holds Try.pinned (OpenSpec.upto netPartsSpec)

/-- 'simulatorlaw35.NetOrder', WHERE WHAT IT READS IS OF BULK AT MOST 1048576: true; the input reads as it did. -/
def netOrderUptoRow : OpenClaim := { program := "ytnnpahcanpakcaa", sum := "1137f94dc03fc7dde845f6ce665764348aa4e8e049742af0a4858ab9770a5caa", func := "simulator/simulatorlaw35.NetOrder", spec := "netOrder", unfollowed := true, recurses := true, plainKeys := false, apart := false, narrowed := true }
def NetOrderUptoSaid : Prop := netOrderUptoRow.holds Try.pinned (OpenSpec.upto netOrderSpec)

end Rows
end Go.Proofs.Ytnnpahcanpakcaa
