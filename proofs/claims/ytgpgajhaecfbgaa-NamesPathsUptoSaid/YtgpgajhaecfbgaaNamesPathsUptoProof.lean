/- The proof of Rows.NamesPathsUptoSaid: the row by the law's contract, where what came in is of bulk at most 1048576 (two texts joined may be longer than any text can be). -/
import Derived.Test.YtgpgajhaecfbgaaRows
import Derived.Test.YtgpgajhaecfbgaaB3
import Derived.WalkKit
import Derived.ProofKit
import Derived.OpenShut
import Derived.ShutString
import Derived.ChangeOld
import Derived.Below
import Derived.JoinedCond
import Derived.ChangeMaps5
namespace Go.Proofs.Ytgpgajhaecfbgaa.namesPaths
open Go.AL Go.ChangeShapes Go.WideShapes Go.ChangeAt Go.RowKit

theorem own : ownKnob Try.prog.godebug = none := by kernel_rfl
theorem laidOut : laidOutB Try.prog = true := by kernel_rfl
theorem plain : ([9] : List TypeId).all (plainT Try.prog [9]) = true := by kernel_rfl
theorem rowed : ([9, 9] : List TypeId).all (fun t => Try.prog.readableRec t && decide (t < Try.prog.types.size)) = true := by kernel_rfl

set_option maxRecDepth 100000 in
theorem walk (ax : List A) (v0 v1 : Value) (w : World) (hrep : RepL Try.prog w NoF [] ax [v0, v1]) (hwt : WTL Try.prog [9, 9] ax) (hb : ∀ x0 x1, ax = [.str x0, .str x1] → x0.length + 1 + x1.length ≤ 9223372036854775807) :
    Calls Try.prog 7 #[v0, v1] w fun e w' => e = .returned (.bool true) ∧ Below w.heap.size w w' := by
  match ax, hrep, hwt with
  | [a0, a1], hrep, hwt =>
    obtain ⟨⟨n0, cs0, h0, rfl⟩, ⟨n1, cs1, h1, rfl⟩, _⟩ := hwt
    obtain ⟨x0, rfl, b0⟩ := WTc_str t9_ h0
    obtain ⟨x1, rfl, b1⟩ := WTc_str t9_ h1
    simp only [pack_one a9_] at hrep hb
    exact walk_law (c_NamesPaths x0 x1 (hb x0 x1 rfl)) hrep

set_option maxRecDepth 100000 in
theorem lifted (os : Os) (started : os.Started) (H : Type) (enc : TypeId × Value → H) (F : Stop.Interp) :
    ReturnsInHanded {} Try.checked os 7 .any ((Rows.OpenSpec.upto Rows.namesPathsSpec).pre6 enc Try.prog Try.f7 Rows.namesPathsUptoRow.domain false) (((Rows.OpenSpec.upto Rows.namesPathsSpec).at F).post enc Try.prog Try.f7 false true false false) := by
  refine returnsInHanded_of_cond (C := Try.checked) (s := Rows.OpenSpec.upto Rows.namesPathsSpec) (k := Rows.uptoSmall) rfl own started (by kernel_rfl) Try.func7
    (OpenSpec.witness (enc := enc) (C := Try.checked) (s := Rows.OpenSpec.upto Rows.namesPathsSpec) (k := Rows.uptoSmall) rfl false ⟨#[], #[.string .empty, .string .empty], []⟩ 8 (by kernel_rfl) (by kernel_rfl) (by kernel_rfl)
      (x := ([.lit (.string []), .lit (.string [])], [], [])) (by kernel_rfl) rfl (by kernel_rfl)) ?_
  intro W base args ds gs before hval0 hW _ hk _
  have hval : ∀ (j : Nat) t v, Try.f7.params[j]? = some t → args[j]? = some v → Value.okWide Try.prog W .any base t v := hval0
  have hW' := hW
  obtain ⟨p, q, hA0, hV, rfl, hfz, hnd⟩ := hW
  have hA : DataW.TrodAll enc Try.prog W 0 (fun _ => true) true Try.f7.params.toList args.toList ds p := hA0
  rw [Try.params7] at hA hval
  have hA1 := hA
  obtain ⟨v0, vs0, d0, ds0, p0, q0, hargs, rfl, rfl, h0, r0⟩ := trodAll_cons hA1
  obtain ⟨v1, vs1, d1, ds1, p1, q1, rfl, rfl, rfl, h1, r1⟩ := trodAll_cons r0
  obtain ⟨rfl, rfl, rfl⟩ := trodAll_nil r1
  obtain rfl : args = #[v0, v1] := by cases args; simp_all
  obtain ⟨rfl, rfl⟩ := trodVars_none hV
  obtain ⟨ax, hrep, hwt⟩ := open_all (S := [9]) (fun t ht => List.all_eq_true.1 plain t ht) (params := [9, 9]) (by simp) (fun j t v ht hv => hval j t v (by simpa using ht) (by simpa using hv)) hA
  have hb : ∀ x0 x1, ax = [.str x0, .str x1] → x0.length + 1 + x1.length ≤ 9223372036854775807 := by
    rintro x0 x1 rfl
    obtain ⟨s0, e0, f0, _⟩ := Go.ChangeMaps.open_string Try.underlying9 (hval 0 9 v0 rfl rfl) h0
    obtain ⟨s1, e1, f1, _⟩ := Go.ChangeMaps.open_string Try.underlying9 (hval 1 9 v1 rfl rfl) h1
    have g0 := (Rep.str_inv hrep.1).symm.trans e0
    have g1 := (Rep.str_inv hrep.2.1).symm.trans e1
    injection g0 with g0
    injection g1 with g1
    have hk1 := of_decide_eq_true hk
    rw [f0, f1, ← g0, ← g1] at hk1
    simp only [Rows.uptoBulkAll, Rows.uptoBulk, List.cons_append, List.nil_append] at hk1
    omega
  refine (walk ax v0 v1 W hrep hwt hb).mono fun e W' ⟨he, bel⟩ => ?_
  subst he
  have hback := trodAll_below (enc := enc) laidOut bel (params := [9, 9]) (fun t ht => by have := List.all_eq_true.1 rowed t ht; simpa using this) hA
  exact ⟨_, rfl, _, _, _, [], _, [], hW', trodAll_mk1 (shut_bool Try.underlying4 _), hback, rfl, bel.frame _, fun h => by cases h⟩

theorem over : Rows.namesPathsUptoRow.holds Try.pinned (Rows.OpenSpec.upto Rows.namesPathsSpec) :=
  OpenClaim.holds_of_cond 7 Try.f7 rfl rfl rfl rfl rfl rfl rfl ⟨rfl, rfl, rfl, rfl, rfl⟩ rfl rfl rfl rfl rfl (by kernel_rfl) Try.func7 (by kernel_rfl)
    (of_decide_eq_true (by kernel_rfl)) (by unfold Func.isWrapper; first | (rw [if_pos (by decide +kernel)]; kernel_rfl) | (rw [if_neg (by decide +kernel)]; exact ⟨rfl, rfl⟩))
    (fun os started H enc _ F => lifted os started H enc F)

/-- THE STATEMENT -/
theorem proved : Rows.NamesPathsUptoSaid := over
end Go.Proofs.Ytgpgajhaecfbgaa.namesPaths
