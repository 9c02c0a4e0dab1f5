/-
  NARROWER THAN 'FOR EVERY INPUT', by the rows' own cells (each row's printed sentence says how): EvalKids: loops · EvalSees: loops · EvalExact: loops.
  DERIVED. THE GIVEN ROWS OF THIS SEAT. 6 by the template 'for every input the law returns true; each argument reads behind the call as it read before'; 0 by the template 'total and deterministic' (their statements: YtnahhdbheeinfaaTotals.lean).
  GIVEN WITH THE SEED: the statements are not yours to turn. If you find one false, say at which input.
  Laid BY PROGRAM, IN A SANDBOX (cutbox-rows.mjs): the forced cells as the released guide's own fill.sh prints them over the translation d3d5a24520b651bb… (all of the seat's roots in one cut). By AI agents, Wed Nov 11 2026. No macro, syntax, notation, axiom, sorry.
-/
import Derived.Test.YtnahhdbheeinfaaChecked
import GoSem.Claim
import GoSem.ClaimJoined
import GoSem.ClaimMapViews
import Derived.JoinedTies
import Derived.KernelRfl
namespace Go.Proofs.Ytnahhdbheeinfaa
/- THE CELL 'sum', in the pinned program and in every row, IS THE sha256 OF THE DUMP (.gsa) THAT YtnahhdbheeinfaaProg.lean LOADS. Nothing in Lean hashes anything: it is a label: what it is worth is what the hold of that sum in a sandbox is worth. -/
noncomputable def Try.pinned : Pinned := { name := "ytnahhdbheeinfaa", sum := "d3d5a24520b651bbb67f06c30cdbc5a3f53d35b2b5d7dcbd68ce6aa9e7474bfe", checked := Try.checked }
namespace Rows
def none {H : Type} : Left H := { results := [], args := [] }

/-- 'simulatorlaw15.EvalOperators': WHATEVER THE INPUT: true; the input reads as it did. -/
def evalOperatorsSpec : ChangeSpec := { name := "evalOperators", fn := fun _ => fun
  | [d1, d2, d3] => { results := [.lit (.bool true)], args := [d1, d2, d3] }
  | _ => none }
def evalOperatorsRow : OpenClaim := { program := "ytnahhdbheeinfaa", sum := "d3d5a24520b651bbb67f06c30cdbc5a3f53d35b2b5d7dcbd68ce6aa9e7474bfe", func := "simulator/simulatorlaw15.EvalOperators", spec := "evalOperators", recurses := true, apart := false }
def EvalOperatorsSaid : Prop := evalOperatorsRow.holds Try.pinned (OpenSpec.ofChange evalOperatorsSpec)

/-- ITS FALSE NEIGHBOUR: 'it returns false'. Refute it at one input. -/
def evalOperatorsWrong : ChangeSpec := { name := "evalOperators", fn := fun _ => fun
  | [d1, d2, d3] => { results := [.lit (.bool false)], args := [d1, d2, d3] }
  | _ => none }
def EvalOperatorsWrongFalsely : Prop := evalOperatorsRow.holds Try.pinned (OpenSpec.ofChange evalOperatorsWrong)

/-- 'simulatorlaw15.EvalKids': WHATEVER THE INPUT: true; the input reads as it did. -/
def evalKidsSpec : ChangeSpec := { name := "evalKids", fn := fun _ => fun
  | [d1, d2] => { results := [.lit (.bool true)], args := [d1, d2] }
  | _ => none }
def evalKidsRow : OpenClaim := { program := "ytnahhdbheeinfaa", sum := "d3d5a24520b651bbb67f06c30cdbc5a3f53d35b2b5d7dcbd68ce6aa9e7474bfe", func := "simulator/simulatorlaw15.EvalKids", spec := "evalKids", recurses := true, loops := true, apart := false }
def EvalKidsSaid : Prop := evalKidsRow.holds Try.pinned (OpenSpec.ofChange evalKidsSpec)

/-- ITS FALSE NEIGHBOUR: 'it returns false'. Refute it at one input. -/
def evalKidsWrong : ChangeSpec := { name := "evalKids", fn := fun _ => fun
  | [d1, d2] => { results := [.lit (.bool false)], args := [d1, d2] }
  | _ => none }
def EvalKidsWrongFalsely : Prop := evalKidsRow.holds Try.pinned (OpenSpec.ofChange evalKidsWrong)

/-- 'simulatorlaw15.EvalOrder': WHATEVER THE INPUT: true; the input reads as it did. -/
def evalOrderSpec : ChangeSpec := { name := "evalOrder", fn := fun _ => fun
  | [d1, d2] => { results := [.lit (.bool true)], args := [d1, d2] }
  | _ => none }
def evalOrderRow : OpenClaim := { program := "ytnahhdbheeinfaa", sum := "d3d5a24520b651bbb67f06c30cdbc5a3f53d35b2b5d7dcbd68ce6aa9e7474bfe", func := "simulator/simulatorlaw15.EvalOrder", spec := "evalOrder", recurses := true, apart := false }
def EvalOrderSaid : Prop := evalOrderRow.holds Try.pinned (OpenSpec.ofChange evalOrderSpec)

/-- ITS FALSE NEIGHBOUR: 'it returns false'. Refute it at one input. -/
def evalOrderWrong : ChangeSpec := { name := "evalOrder", fn := fun _ => fun
  | [d1, d2] => { results := [.lit (.bool false)], args := [d1, d2] }
  | _ => none }
def EvalOrderWrongFalsely : Prop := evalOrderRow.holds Try.pinned (OpenSpec.ofChange evalOrderWrong)

/-- 'simulatorlaw15.EvalArithmetic': WHATEVER THE INPUT: true; the input reads as it did. -/
def evalArithmeticSpec : ChangeSpec := { name := "evalArithmetic", fn := fun _ => fun
  | [d1, d2] => { results := [.lit (.bool true)], args := [d1, d2] }
  | _ => none }
def evalArithmeticRow : OpenClaim := { program := "ytnahhdbheeinfaa", sum := "d3d5a24520b651bbb67f06c30cdbc5a3f53d35b2b5d7dcbd68ce6aa9e7474bfe", func := "simulator/simulatorlaw15.EvalArithmetic", spec := "evalArithmetic", recurses := true, apart := false }
def EvalArithmeticSaid : Prop := evalArithmeticRow.holds Try.pinned (OpenSpec.ofChange evalArithmeticSpec)

/-- ITS FALSE NEIGHBOUR: 'it returns false'. Refute it at one input. -/
def evalArithmeticWrong : ChangeSpec := { name := "evalArithmetic", fn := fun _ => fun
  | [d1, d2] => { results := [.lit (.bool false)], args := [d1, d2] }
  | _ => none }
def EvalArithmeticWrongFalsely : Prop := evalArithmeticRow.holds Try.pinned (OpenSpec.ofChange evalArithmeticWrong)

/-- 'simulatorlaw15.EvalSees': WHATEVER THE INPUT: true; the input reads as it did. -/
def evalSeesSpec : ChangeSpec := { name := "evalSees", fn := fun _ => fun
  | [d1, d2, d3, d4] => { results := [.lit (.bool true)], args := [d1, d2, d3, d4] }
  | _ => none }
def evalSeesRow : OpenClaim := { program := "ytnahhdbheeinfaa", sum := "d3d5a24520b651bbb67f06c30cdbc5a3f53d35b2b5d7dcbd68ce6aa9e7474bfe", func := "simulator/simulatorlaw15.EvalSees", spec := "evalSees", recurses := true, loops := true, apart := false }
def EvalSeesSaid : Prop := evalSeesRow.holds Try.pinned (OpenSpec.ofChange evalSeesSpec)

/-- ITS FALSE NEIGHBOUR: 'it returns false'. Refute it at one input. -/
def evalSeesWrong : ChangeSpec := { name := "evalSees", fn := fun _ => fun
  | [d1, d2, d3, d4] => { results := [.lit (.bool false)], args := [d1, d2, d3, d4] }
  | _ => none }
def EvalSeesWrongFalsely : Prop := evalSeesRow.holds Try.pinned (OpenSpec.ofChange evalSeesWrong)

/-- 'simulatorlaw15.EvalExact': WHATEVER THE INPUT: true; the input reads as it did. -/
def evalExactSpec : ChangeSpec := { name := "evalExact", fn := fun _ => fun
  | [d1, d2] => { results := [.lit (.bool true)], args := [d1, d2] }
  | _ => none }
def evalExactRow : OpenClaim := { program := "ytnahhdbheeinfaa", sum := "d3d5a24520b651bbb67f06c30cdbc5a3f53d35b2b5d7dcbd68ce6aa9e7474bfe", func := "simulator/simulatorlaw15.EvalExact", spec := "evalExact", recurses := true, loops := true, apart := false }
def EvalExactSaid : Prop := evalExactRow.holds Try.pinned (OpenSpec.ofChange evalExactSpec)

/-- ITS FALSE NEIGHBOUR: 'it returns false'. Refute it at one input. -/
def evalExactWrong : ChangeSpec := { name := "evalExact", fn := fun _ => fun
  | [d1, d2] => { results := [.lit (.bool false)], args := [d1, d2] }
  | _ => none }
def EvalExactWrongFalsely : Prop := evalExactRow.holds Try.pinned (OpenSpec.ofChange evalExactWrong)

/- THE SECOND FORM. 'bulk': how many values and letters a reading holds, each counted each time it is reached (what is shared counts as often as it is met; a slice's spare places count too). A statement '..UptoSaid' is the law's where the arguments, and the package variables that the reading takes, are together of bulk at most 1048576: NARROWER than '..Said'. Prove '..Said' where nothing that the law and all that it calls make is longer than what came in: it says more and counts as full. Else prove '..UptoSaid'. A law counts once. -/
mutual
def uptoBulk {H : Type} : DataW H → Nat
  | .lit (.string bytes) => bytes.length + 1
  | .lit _ => 1
  | .nil => 1
  | .ptr d => uptoBulk d + 1
  | .slice elems spare => uptoBulkAll elems + uptoBulkAll spare + 1
  | .agg parts => uptoBulkAll parts + 1
  | .iface _ d => uptoBulk d + 1
  | .map entries => uptoBulkEntries entries + 1
  | .held _ => 1
def uptoBulkAll {H : Type} : List (DataW H) → Nat
  | [] => 0
  | d :: r => uptoBulk d + uptoBulkAll r
def uptoBulkEntries {H : Type} : List (Lit × DataW H) → Nat
  | [] => 0
  | x :: r => uptoBulkEntry x + uptoBulkEntries r
def uptoBulkEntry {H : Type} : Lit × DataW H → Nat
  | (.string bytes, d) => bytes.length + uptoBulk d + 1
  | (_, d) => uptoBulk d + 1
 end
def uptoSmall : (H : Type) → List (DataW H) → Bool := fun _ ds => decide (uptoBulkAll ds ≤ 1048576)
def OpenSpec.upto (s : _root_.Go.ChangeSpec) : _root_.Go.OpenSpec := { _root_.Go.OpenSpec.ofChange s with cond := some uptoSmall }

/-- 'simulatorlaw15.EvalOperators', WHERE WHAT IT READS IS OF BULK AT MOST 1048576: true; the input reads as it did. -/
def evalOperatorsUptoRow : OpenClaim := { program := "ytnahhdbheeinfaa", sum := "d3d5a24520b651bbb67f06c30cdbc5a3f53d35b2b5d7dcbd68ce6aa9e7474bfe", func := "simulator/simulatorlaw15.EvalOperators", spec := "evalOperators", recurses := true, apart := false, narrowed := true }
def EvalOperatorsUptoSaid : Prop := evalOperatorsUptoRow.holds Try.pinned (OpenSpec.upto evalOperatorsSpec)

/-- 'simulatorlaw15.EvalKids', WHERE WHAT IT READS IS OF BULK AT MOST 1048576: true; the input reads as it did. -/
def evalKidsUptoRow : OpenClaim := { program := "ytnahhdbheeinfaa", sum := "d3d5a24520b651bbb67f06c30cdbc5a3f53d35b2b5d7dcbd68ce6aa9e7474bfe", func := "simulator/simulatorlaw15.EvalKids", spec := "evalKids", recurses := true, loops := true, apart := false, narrowed := true }
def EvalKidsUptoSaid : Prop := evalKidsUptoRow.holds Try.pinned (OpenSpec.upto evalKidsSpec)

/-- 'simulatorlaw15.EvalOrder', WHERE WHAT IT READS IS OF BULK AT MOST 1048576: true; the input reads as it did. -/
def evalOrderUptoRow : OpenClaim := { program := "ytnahhdbheeinfaa", sum := "d3d5a24520b651bbb67f06c30cdbc5a3f53d35b2b5d7dcbd68ce6aa9e7474bfe", func := "simulator/simulatorlaw15.EvalOrder", spec := "evalOrder", recurses := true, apart := false, narrowed := true }
def EvalOrderUptoSaid : Prop := evalOrderUptoRow.holds Try.pinned (OpenSpec.upto evalOrderSpec)

/-- 'simulatorlaw15.EvalArithmetic', WHERE WHAT IT READS IS OF BULK AT MOST 1048576: true; the input reads as it did. -/
def evalArithmeticUptoRow : OpenClaim := { program := "ytnahhdbheeinfaa", sum := "d3d5a24520b651bbb67f06c30cdbc5a3f53d35b2b5d7dcbd68ce6aa9e7474bfe", func := "simulator/simulatorlaw15.EvalArithmetic", spec := "evalArithmetic", recurses := true, apart := false, narrowed := true }
def EvalArithmeticUptoSaid : Prop := evalArithmeticUptoRow.holds Try.pinned (OpenSpec.upto evalArithmeticSpec)

/-- 'simulatorlaw15.EvalSees', WHERE WHAT IT READS IS OF BULK AT MOST 1048576: true; the input reads as it did. -/
def evalSeesUptoRow : OpenClaim := { program := "ytnahhdbheeinfaa", sum := "d3d5a24520b651bbb67f06c30cdbc5a3f53d35b2b5d7dcbd68ce6aa9e7474bfe", func := "simulator/simulatorlaw15.EvalSees", spec := "evalSees", recurses := true, loops := true, apart := false, narrowed := true }
def EvalSeesUptoSaid : Prop := evalSeesUptoRow.holds Try.pinned (OpenSpec.upto evalSeesSpec)

/-- 'simulatorlaw15.EvalExact', WHERE WHAT IT READS IS OF BULK AT MOST 1048576: true; the input reads as it did. -/
def evalExactUptoRow : OpenClaim := { program := "ytnahhdbheeinfaa", sum := "d3d5a24520b651bbb67f06c30cdbc5a3f53d35b2b5d7dcbd68ce6aa9e7474bfe", func := "simulator/simulatorlaw15.EvalExact", spec := "evalExact", recurses := true, loops := true, apart := false, narrowed := true }
def EvalExactUptoSaid : Prop := evalExactUptoRow.holds Try.pinned (OpenSpec.upto evalExactSpec)

end Rows
end Go.Proofs.Ytnahhdbheeinfaa
