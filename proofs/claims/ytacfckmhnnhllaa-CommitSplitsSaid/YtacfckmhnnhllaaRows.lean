/-
  No cell of these rows narrows 'for every input' (looked for: loops, veiled, ifaces, maps, wideKeys, modest, calm, conditions, laid).
  DERIVED. THE GIVEN ROWS OF THIS SEAT. 7 by the template 'for every input the law returns true; each argument reads behind the call as it read before'; 0 by the template 'total and deterministic' (their statements: YtacfckmhnnhllaaTotals.lean).
  GIVEN WITH THE SEED: the statements are not yours to turn. If you find one false, say at which input.
  Laid BY PROGRAM, IN A SANDBOX (cutbox-rows.mjs): the forced cells as the released guide's own fill.sh prints them over the translation 49c06d58b978e024… (all of the seat's roots in one cut). By AI agents, Wed Nov 11 2026. No macro, syntax, notation, axiom, sorry.
-/
import Derived.Test.YtacfckmhnnhllaaChecked
import GoSem.Claim
import GoSem.ClaimJoined
import GoSem.ClaimMapViews
import Derived.JoinedTies
import Derived.KernelRfl
namespace Go.Proofs.Ytacfckmhnnhllaa
/- THE CELL 'sum', in the pinned program and in every row, IS THE sha256 OF THE DUMP (.gsa) THAT YtacfckmhnnhllaaProg.lean LOADS. Nothing in Lean hashes anything: it is a label: what it is worth is what the hold of that sum in a sandbox is worth. -/
noncomputable def Try.pinned : Pinned := { name := "ytacfckmhnnhllaa", sum := "49c06d58b978e02431ef8cc114cc3b6b61aac96a476ae9c5b5c5c1f7f981e36e", checked := Try.checked }
namespace Rows
def none {H : Type} : Left H := { results := [], args := [] }

/-- 'simulatorlaw41.CommitChecks': WHATEVER THE INPUT: true; the input reads as it did. -/
def commitChecksSpec : ChangeSpec := { name := "commitChecks", fn := fun _ => fun
  | [d1, d2] => { results := [.lit (.bool true)], args := [d1, d2] }
  | _ => none }
def commitChecksRow : OpenClaim := { program := "ytacfckmhnnhllaa", sum := "49c06d58b978e02431ef8cc114cc3b6b61aac96a476ae9c5b5c5c1f7f981e36e", func := "simulator/simulatorlaw41.CommitChecks", spec := "commitChecks", unfollowed := true, recurses := true, plainKeys := false, apart := false }
def CommitChecksSaid : Prop := commitChecksRow.holds Try.pinned (OpenSpec.ofChange commitChecksSpec)

/-- ITS FALSE NEIGHBOUR: 'it returns false'. Refute it at one input. -/
def commitChecksWrong : ChangeSpec := { name := "commitChecks", fn := fun _ => fun
  | [d1, d2] => { results := [.lit (.bool false)], args := [d1, d2] }
  | _ => none }
def CommitChecksWrongFalsely : Prop := commitChecksRow.holds Try.pinned (OpenSpec.ofChange commitChecksWrong)

/-- 'simulatorlaw41.CommitDiffers': WHATEVER THE INPUT: true; the input reads as it did. -/
def commitDiffersSpec : ChangeSpec := { name := "commitDiffers", fn := fun _ => fun
  | [d1, d2] => { results := [.lit (.bool true)], args := [d1, d2] }
  | _ => none }
def commitDiffersRow : OpenClaim := { program := "ytacfckmhnnhllaa", sum := "49c06d58b978e02431ef8cc114cc3b6b61aac96a476ae9c5b5c5c1f7f981e36e", func := "simulator/simulatorlaw41.CommitDiffers", spec := "commitDiffers", unfollowed := true, recurses := true, plainKeys := false, apart := false }
def CommitDiffersSaid : Prop := commitDiffersRow.holds Try.pinned (OpenSpec.ofChange commitDiffersSpec)

/-- ITS FALSE NEIGHBOUR: 'it returns false'. Refute it at one input. -/
def commitDiffersWrong : ChangeSpec := { name := "commitDiffers", fn := fun _ => fun
  | [d1, d2] => { results := [.lit (.bool false)], args := [d1, d2] }
  | _ => none }
def CommitDiffersWrongFalsely : Prop := commitDiffersRow.holds Try.pinned (OpenSpec.ofChange commitDiffersWrong)

/-- 'simulatorlaw41.CommitFinds': WHATEVER THE INPUT: true; the input reads as it did. -/
def commitFindsSpec : ChangeSpec := { name := "commitFinds", fn := fun _ => fun
  | [d1, d2] => { results := [.lit (.bool true)], args := [d1, d2] }
  | _ => none }
def commitFindsRow : OpenClaim := { program := "ytacfckmhnnhllaa", sum := "49c06d58b978e02431ef8cc114cc3b6b61aac96a476ae9c5b5c5c1f7f981e36e", func := "simulator/simulatorlaw41.CommitFinds", spec := "commitFinds", unfollowed := true, recurses := true, plainKeys := false, apart := false }
def CommitFindsSaid : Prop := commitFindsRow.holds Try.pinned (OpenSpec.ofChange commitFindsSpec)

/-- ITS FALSE NEIGHBOUR: 'it returns false'. Refute it at one input. -/
def commitFindsWrong : ChangeSpec := { name := "commitFinds", fn := fun _ => fun
  | [d1, d2] => { results := [.lit (.bool false)], args := [d1, d2] }
  | _ => none }
def CommitFindsWrongFalsely : Prop := commitFindsRow.holds Try.pinned (OpenSpec.ofChange commitFindsWrong)

/-- 'simulatorlaw41.CommitJoins': WHATEVER THE INPUT: true; the input reads as it did. -/
def commitJoinsSpec : ChangeSpec := { name := "commitJoins", fn := fun _ => fun
  | [d1, d2] => { results := [.lit (.bool true)], args := [d1, d2] }
  | _ => none }
def commitJoinsRow : OpenClaim := { program := "ytacfckmhnnhllaa", sum := "49c06d58b978e02431ef8cc114cc3b6b61aac96a476ae9c5b5c5c1f7f981e36e", func := "simulator/simulatorlaw41.CommitJoins", spec := "commitJoins", unfollowed := true, recurses := true, plainKeys := false, apart := false }
def CommitJoinsSaid : Prop := commitJoinsRow.holds Try.pinned (OpenSpec.ofChange commitJoinsSpec)

/-- ITS FALSE NEIGHBOUR: 'it returns false'. Refute it at one input. -/
def commitJoinsWrong : ChangeSpec := { name := "commitJoins", fn := fun _ => fun
  | [d1, d2] => { results := [.lit (.bool false)], args := [d1, d2] }
  | _ => none }
def CommitJoinsWrongFalsely : Prop := commitJoinsRow.holds Try.pinned (OpenSpec.ofChange commitJoinsWrong)

/-- 'simulatorlaw41.CommitMerges': WHATEVER THE INPUT: true; the input reads as it did. -/
def commitMergesSpec : ChangeSpec := { name := "commitMerges", fn := fun _ => fun
  | [d] => { results := [.lit (.bool true)], args := [d] }
  | _ => none }
def commitMergesRow : OpenClaim := { program := "ytacfckmhnnhllaa", sum := "49c06d58b978e02431ef8cc114cc3b6b61aac96a476ae9c5b5c5c1f7f981e36e", func := "simulator/simulatorlaw41.CommitMerges", spec := "commitMerges", unfollowed := true, recurses := true, plainKeys := false, apart := false }
def CommitMergesSaid : Prop := commitMergesRow.holds Try.pinned (OpenSpec.ofChange commitMergesSpec)

/-- ITS FALSE NEIGHBOUR: 'it returns false'. Refute it at one input. -/
def commitMergesWrong : ChangeSpec := { name := "commitMerges", fn := fun _ => fun
  | [d] => { results := [.lit (.bool false)], args := [d] }
  | _ => none }
def CommitMergesWrongFalsely : Prop := commitMergesRow.holds Try.pinned (OpenSpec.ofChange commitMergesWrong)

/-- 'simulatorlaw41.CommitProjects': WHATEVER THE INPUT: true; the input reads as it did. -/
def commitProjectsSpec : ChangeSpec := { name := "commitProjects", fn := fun _ => fun
  | [d1, d2] => { results := [.lit (.bool true)], args := [d1, d2] }
  | _ => none }
def commitProjectsRow : OpenClaim := { program := "ytacfckmhnnhllaa", sum := "49c06d58b978e02431ef8cc114cc3b6b61aac96a476ae9c5b5c5c1f7f981e36e", func := "simulator/simulatorlaw41.CommitProjects", spec := "commitProjects", unfollowed := true, recurses := true, plainKeys := false, apart := false }
def CommitProjectsSaid : Prop := commitProjectsRow.holds Try.pinned (OpenSpec.ofChange commitProjectsSpec)

/-- ITS FALSE NEIGHBOUR: 'it returns false'. Refute it at one input. -/
def commitProjectsWrong : ChangeSpec := { name := "commitProjects", fn := fun _ => fun
  | [d1, d2] => { results := [.lit (.bool false)], args := [d1, d2] }
  | _ => none }
def CommitProjectsWrongFalsely : Prop := commitProjectsRow.holds Try.pinned (OpenSpec.ofChange commitProjectsWrong)

/-- 'simulatorlaw41.CommitSplits': WHATEVER THE INPUT: true; the input reads as it did. -/
def commitSplitsSpec : ChangeSpec := { name := "commitSplits", fn := fun _ => fun
  | [d1, d2] => { results := [.lit (.bool true)], args := [d1, d2] }
  | _ => none }
def commitSplitsRow : OpenClaim := { program := "ytacfckmhnnhllaa", sum := "49c06d58b978e02431ef8cc114cc3b6b61aac96a476ae9c5b5c5c1f7f981e36e", func := "simulator/simulatorlaw41.CommitSplits", spec := "commitSplits", unfollowed := true, recurses := true, plainKeys := false, apart := false }
def CommitSplitsSaid : Prop := commitSplitsRow.holds Try.pinned (OpenSpec.ofChange commitSplitsSpec)

/-- ITS FALSE NEIGHBOUR: 'it returns false'. Refute it at one input. -/
def commitSplitsWrong : ChangeSpec := { name := "commitSplits", fn := fun _ => fun
  | [d1, d2] => { results := [.lit (.bool false)], args := [d1, d2] }
  | _ => none }
def CommitSplitsWrongFalsely : Prop := commitSplitsRow.holds Try.pinned (OpenSpec.ofChange commitSplitsWrong)

/- THE SECOND FORM. 'bulk': how many values and letters a reading holds, each counted each time it is reached (what is shared counts as often as it is met; a slice's spare places count too). A statement '..UptoSaid' is the law's where the arguments, and the package variables that the reading takes, are together of bulk at most 1048576: NARROWER than '..Said'. Prove '..Said' where nothing that the law and all that it calls make is longer than what came in: it says more and counts as full. Else prove '..UptoSaid'. A law counts once. -/
mutual
def uptoBulk {H : Type} : DataW H → Nat
  | .lit (.string bytes) => bytes.length + 1
  | .lit _ => 1
  | .nil => 1
  | .ptr d => uptoBulk d + 1
  | .slice elems spare => uptoBulkAll elems + uptoBulkAll spare + 1
  | .agg parts => uptoBulkAll parts + 1
  | .iface _ d => uptoBulk d + 1
  | .map entries => uptoBulkEntries entries + 1
  | .held _ => 1
def uptoBulkAll {H : Type} : List (DataW H) → Nat
  | [] => 0
  | d :: r => uptoBulk d + uptoBulkAll r
def uptoBulkEntries {H : Type} : List (Lit × DataW H) → Nat
  | [] => 0
  | x :: r => uptoBulkEntry x + uptoBulkEntries r
def uptoBulkEntry {H : Type} : Lit × DataW H → Nat
  | (.string bytes, d) => bytes.length + uptoBulk d + 1
  | (_, d) => uptoBulk d + 1
 end
def uptoSmall : (H : Type) → List (DataW H) → Bool := fun _ ds => decide (uptoBulkAll ds ≤ 1048576)
def OpenSpec.upto (s : _root_.Go.ChangeSpec) : _root_.Go.OpenSpec := { _root_.Go.OpenSpec.ofChange s with cond := some uptoSmall }

/-- 'simulatorlaw41.CommitChecks', WHERE WHAT IT READS IS OF BULK AT MOST 1048576: true; the input reads as it did. -/
def commitChecksUptoRow : OpenClaim := { program := "ytacfckmhnnhllaa", sum := "49c06d58b978e02431ef8cc114cc3b6b61aac96a476ae9c5b5c5c1f7f981e36e", func := "simulator/simulatorlaw41.CommitChecks", spec := "commitChecks", unfollowed := true, recurses := true, plainKeys := false, apart := false, narrowed := true }
def CommitChecksUptoSaid : Prop := commitChecksUptoRow.holds Try.pinned (OpenSpec.upto commitChecksSpec)

/-- 'simulatorlaw41.CommitDiffers', WHERE WHAT IT READS IS OF BULK AT MOST 1048576: true; the input reads as it did. -/
def commitDiffersUptoRow : OpenClaim := { program := "ytacfckmhnnhllaa", sum := "49c06d58b978e02431ef8cc114cc3b6b61aac96a476ae9c5b5c5c1f7f981e36e", func := "simulator/simulatorlaw41.CommitDiffers", spec := "commitDiffers", unfollowed := true, recurses := true, plainKeys := false, apart := false, narrowed := true }
def CommitDiffersUptoSaid : Prop := commitDiffersUptoRow.holds Try.pinned (OpenSpec.upto commitDiffersSpec)

/-- 'simulatorlaw41.CommitFinds', WHERE WHAT IT READS IS OF BULK AT MOST 1048576: true; the input reads as it did. -/
def commitFindsUptoRow : OpenClaim := { program := "ytacfckmhnnhllaa", sum := "49c06d58b978e02431ef8cc114cc3b6b61aac96a476ae9c5b5c5c1f7f981e36e", func := "simulator/simulatorlaw41.CommitFinds", spec := "commitFinds", unfollowed := true, recurses := true, plainKeys := false, apart := false, narrowed := true }
def CommitFindsUptoSaid : Prop := commitFindsUptoRow.holds Try.pinned (OpenSpec.upto commitFindsSpec)

/-- 'simulatorlaw41.CommitJoins', WHERE WHAT IT READS IS OF BULK AT MOST 1048576: true; the input reads as it did. -/
def commitJoinsUptoRow : OpenClaim := { program := "ytacfckmhnnhllaa", sum := "49c06d58b978e02431ef8cc114cc3b6b61aac96a476ae9c5b5c5c1f7f981e36e", func := "simulator/simulatorlaw41.CommitJoins", spec := "commitJoins", unfollowed := true, recurses := true, plainKeys := false, apart := false, narrowed := true }
def CommitJoinsUptoSaid : Prop := commitJoinsUptoRow.holds Try.pinned (OpenSpec.upto commitJoinsSpec)

/-- 'simulatorlaw41.CommitMerges', WHERE WHAT IT READS IS OF BULK AT MOST 1048576: true; the input reads as it did. -/
def commitMergesUptoRow : OpenClaim := { program := "ytacfckmhnnhllaa", sum := "49c06d58b978e02431ef8cc114cc3b6b61aac96a476ae9c5b5c5c1f7f981e36e", func := "simulator/simulatorlaw41.CommitMerges", spec := "commitMerges", unfollowed := true, recurses := true, plainKeys := false, apart := false, narrowed := true }
def CommitMergesUptoSaid : Prop := commitMergesUptoRow.holds Try.pinned (OpenSpec.upto commitMergesSpec)

/-- 'simulatorlaw41.CommitProjects', WHERE WHAT IT READS IS OF BULK AT MOST 1048576: true; the input reads as it did. -/
def commitProjectsUptoRow : OpenClaim := { program := "ytacfckmhnnhllaa", sum := "49c06d58b978e02431ef8cc114cc3b6b61aac96a476ae9c5b5c5c1f7f981e36e", func := "simulator/simulatorlaw41.CommitProjects", spec := "commitProjects", unfollowed := true, recurses := true, plainKeys := false, apart := false, narrowed := true }
def CommitProjectsUptoSaid : Prop := commitProjectsUptoRow.holds Try.pinned (OpenSpec.upto commitProjectsSpec)

/-- 'simulatorlaw41.CommitSplits', WHERE WHAT IT READS IS OF BULK AT MOST 1048576: true; the input reads as it did. -/
def commitSplitsUptoRow : OpenClaim := { program := "ytacfckmhnnhllaa", sum := "49c06d58b978e02431ef8cc114cc3b6b61aac96a476ae9c5b5c5c1f7f981e36e", func := "simulator/simulatorlaw41.CommitSplits", spec := "commitSplits", unfollowed := true, recurses := true, plainKeys := false, apart := false, narrowed := true }
def CommitSplitsUptoSaid : Prop := commitSplitsUptoRow.holds Try.pinned (OpenSpec.upto commitSplitsSpec)

end Rows
end Go.Proofs.Ytacfckmhnnhllaa
