/- The proof of Rows.EvalSeesUptoSaid: the row by the law's contract, where what came in is of bulk at most 1048576 (a list longer than memory can hold cannot be copied). -/
import Derived.Test.YtnahhdbheeinfaaRows
import Derived.Test.YtnahhdbheeinfaaL4
import Derived.Test.YtnahhdbheeinfaaU1
import Derived.WalkKit
import Derived.ProofKit
import Derived.OpenShut
import Derived.ShutString
import Derived.ChangeOld
import Derived.Below
import Derived.JoinedCond
namespace Go.Proofs.Ytnahhdbheeinfaa.evalSees
open Go.AL Go.ChangeShapes Go.WideShapes Go.ChangeAt Go.RowKit

theorem own : ownKnob Try.prog.godebug = none := by kernel_rfl
theorem laidOut : laidOutB Try.prog = true := by kernel_rfl
theorem plain : ([29, 3, 27, 32, 22, 9, 30, 5] : List TypeId).all (plainT Try.prog [29, 3, 27, 32, 22, 9, 30, 5]) = true := by kernel_rfl
theorem rowed : ([29, 32, 5, 3] : List TypeId).all (fun t => Try.prog.readableRec t && decide (t < Try.prog.types.size)) = true := by kernel_rfl

set_option maxRecDepth 100000 in
theorem walk (ax : List A) (v0 v1 v2 v3 : Value) (w : World) (hrep : RepL Try.prog w NoF [] ax [v0, v1, v2, v3]) (hwt : WTL Try.prog [29, 32, 5, 3] ax) (hb : ∀ (x0 : TView) (r : List A), ax = .agg x0.cells :: r → x0.fSlots.length ≤ 4000000000 ∧ x0.fVars.length ≤ 4000000000 ∧ x0.fFree.length ≤ 4000000000 ∧ x0.fSize.length ≤ 4000000000 ∧ x0.fWaiting.length ≤ 4000000000) :
    Calls Try.prog 7 #[v0, v1, v2, v3] w fun e w' => e = .returned (.bool true) ∧ Below w.heap.size w w' := by
  match ax, hrep, hwt, hb with
  | [a0, a1, a2, a3], hrep, hwt, hb =>
    obtain ⟨⟨n0, cs0, h0, rfl⟩, ⟨n1, cs1, h1, rfl⟩, ⟨n2, cs2, h2, rfl⟩, ⟨n3, cs3, h3, rfl⟩, _⟩ := hwt
    obtain ⟨x0, rfl, b0⟩ := wt_TView h0
    obtain ⟨x1, rfl, b1⟩ := wt_TExpr h1
    obtain ⟨x2, rfl, b2⟩ := WTc_int (k := .u8) i5_ h2
    obtain ⟨x3, rfl, b3⟩ := WTc_int (k := .i64) i3_ h3
    rw [pack_agg a29_] at hrep hb
    obtain ⟨k, rfl, hk⟩ : ∃ k : Nat, x2 = (k : Int) ∧ k ≤ 255 := by
      have h0 : IntKind.u8.min ≤ x2 ∧ x2 ≤ IntKind.u8.max := by simpa [Lit.wf] using b2
      have e1 : IntKind.u8.min = 0 := by decide
      have e2 : IntKind.u8.max = 255 := by decide
      rw [e1, e2] at h0
      exact ⟨x2.toNat, by omega, by omega⟩
    rw [pack_agg a32_] at hrep
    rw [pack_one a5_] at hrep
    rw [pack_one a3_] at hrep
    exact walk_law (c_EvalSees x0 x1 k x3 hk b1 (hb x0 _ rfl)) hrep

set_option maxRecDepth 100000 in
theorem lifted (os : Os) (started : os.Started) (H : Type) (enc : TypeId × Value → H) (F : Stop.Interp) :
    ReturnsInHanded {} Try.checked os 7 .any ((Rows.OpenSpec.upto Rows.evalSeesSpec).pre6 enc Try.prog Try.f7 Rows.evalSeesUptoRow.domain false) (((Rows.OpenSpec.upto Rows.evalSeesSpec).at F).post enc Try.prog Try.f7 false true false false) := by
  refine returnsInHanded_of_cond (C := Try.checked) (s := Rows.OpenSpec.upto Rows.evalSeesSpec) (k := Rows.uptoSmall) rfl own started (by kernel_rfl) Try.func7
    (OpenSpec.witness (enc := enc) (C := Try.checked) (s := Rows.OpenSpec.upto Rows.evalSeesSpec) (k := Rows.uptoSmall) rfl false ⟨#[], #[.agg #[.int .i64 0, .slice none 0 0, .slice none 0 0, .slice none 0 0, .slice none 0 0, .slice none 0 0], .agg #[.int .i64 0, .string ⟨#[]⟩, .int .i64 0, .slice none 0 0], .int .u8 0, .int .i64 0], []⟩ 8 (by kernel_rfl) (by kernel_rfl) (by kernel_rfl)
      (x := ([.agg [.lit (.int .i64 0), .nil, .nil, .nil, .nil, .nil], .agg [.lit (.int .i64 0), .lit (.string []), .lit (.int .i64 0), .nil], .lit (.int .u8 0), .lit (.int .i64 0)], [], [])) (by kernel_rfl) rfl (by kernel_rfl)) ?_
  intro W base args ds gs before hval0 hW _ hk _
  have hval : ∀ (j : Nat) t v, Try.f7.params[j]? = some t → args[j]? = some v → Value.okWide Try.prog W .any base t v := hval0
  have hW' := hW
  obtain ⟨p, q, hA0, hV, rfl, hfz, hnd⟩ := hW
  have hA : DataW.TrodAll enc Try.prog W 0 (fun _ => true) true Try.f7.params.toList args.toList ds p := hA0
  rw [Try.params7] at hA hval
  have hA1 := hA
  obtain ⟨v0, vs0, d0, ds0, p0, q0, hargs, rfl, rfl, h0, r0⟩ := trodAll_cons hA1
  obtain ⟨v1, vs1, d1, ds1, p1, q1, rfl, rfl, rfl, h1, r1⟩ := trodAll_cons r0
  obtain ⟨v2, vs2, d2, ds2, p2, q2, rfl, rfl, rfl, h2, r2⟩ := trodAll_cons r1
  obtain ⟨v3, vs3, d3, ds3, p3, q3, rfl, rfl, rfl, h3, r3⟩ := trodAll_cons r2
  obtain ⟨rfl, rfl, rfl⟩ := trodAll_nil r3
  obtain rfl : args = #[v0, v1, v2, v3] := by cases args; simp_all
  obtain ⟨rfl, rfl⟩ := trodVars_none hV
  obtain ⟨ax, hrep, hwt⟩ := open_all (S := [29, 3, 27, 32, 22, 9, 30, 5]) (fun t ht => List.all_eq_true.1 plain t ht) (params := [29, 32, 5, 3]) (by simp) (fun j t v ht hv => hval j t v (by simpa using ht) (by simpa using hv)) hA
  have hb : ∀ (x0 : TView) (r : List A), ax = .agg x0.cells :: r → x0.fSlots.length ≤ 4000000000 ∧ x0.fVars.length ≤ 4000000000 ∧ x0.fFree.length ≤ 4000000000 ∧ x0.fSize.length ≤ 4000000000 ∧ x0.fWaiting.length ≤ 4000000000 := by
    rintro x0 r rfl
    have hk1 := of_decide_eq_true hk
    simp only [Rows.uptoBulkAll, List.cons_append, List.nil_append] at hk1
    have g1 := bulk_field (P := Try.prog) w29_ (e := 27) (off := 1) (by simp) u27_ c27_ (cs := x0.cells) (f := false) (es := x0.fSlots.map Enc.enc) rfl h0 hrep.1
    rw [List.length_map] at g1
    have g2 := bulk_field (P := Try.prog) w29_ (e := 27) (off := 2) (by simp) u27_ c27_ (cs := x0.cells) (f := false) (es := x0.fVars.map Enc.enc) rfl h0 hrep.1
    rw [List.length_map] at g2
    have g3 := bulk_field (P := Try.prog) w29_ (e := 27) (off := 3) (by simp) u27_ c27_ (cs := x0.cells) (f := false) (es := x0.fFree.map Enc.enc) rfl h0 hrep.1
    rw [List.length_map] at g3
    have g4 := bulk_field (P := Try.prog) w29_ (e := 27) (off := 4) (by simp) u27_ c27_ (cs := x0.cells) (f := false) (es := x0.fSize.map Enc.enc) rfl h0 hrep.1
    rw [List.length_map] at g4
    have g5 := bulk_field (P := Try.prog) w29_ (e := 27) (off := 5) (by simp) u27_ c27_ (cs := x0.cells) (f := false) (es := x0.fWaiting.map Enc.enc) rfl h0 hrep.1
    rw [List.length_map] at g5
    omega
  refine (walk ax v0 v1 v2 v3 W hrep hwt hb).mono fun e W' ⟨he, bel⟩ => ?_
  subst he
  have hback := trodAll_below (enc := enc) laidOut bel (params := [29, 32, 5, 3]) (fun t ht => by have := List.all_eq_true.1 rowed t ht; simpa using this) hA
  exact ⟨_, rfl, _, _, _, [], _, [], hW', trodAll_mk1 (shut_bool Try.underlying4 _), hback, rfl, bel.frame _, fun h => by cases h⟩

theorem over : Rows.evalSeesUptoRow.holds Try.pinned (Rows.OpenSpec.upto Rows.evalSeesSpec) :=
  OpenClaim.holds_of_cond 7 Try.f7 rfl rfl rfl rfl rfl rfl rfl ⟨rfl, rfl, rfl, rfl, rfl⟩ rfl rfl rfl rfl rfl (by kernel_rfl) Try.func7 (by kernel_rfl)
    (of_decide_eq_true (by kernel_rfl)) (by unfold Func.isWrapper; first | (rw [if_pos (by decide +kernel)]; kernel_rfl) | (rw [if_neg (by decide +kernel)]; exact ⟨rfl, rfl⟩))
    (fun os started H enc _ F => lifted os started H enc F)

/-- THE STATEMENT -/
theorem proved : Rows.EvalSeesUptoSaid := over
end Go.Proofs.Ytnahhdbheeinfaa.evalSees
