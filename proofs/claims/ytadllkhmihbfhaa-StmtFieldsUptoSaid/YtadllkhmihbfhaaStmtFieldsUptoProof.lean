/- The proof of Rows.StmtFieldsUptoSaid: the row by the law's contract, where what came in is of bulk at most 1048576 (shared lists may be of a size that goes round). -/
import Derived.Test.YtadllkhmihbfhaaRows
import Derived.Test.YtadllkhmihbfhaaL7
import Derived.Test.YtadllkhmihbfhaaB2
import Derived.Test.YtadllkhmihbfhaaS3
import Derived.WalkKit
import Derived.ProofKit
import Derived.OpenShut
import Derived.ShutString
import Derived.ChangeOld
import Derived.Below
import Derived.JoinedCond
namespace Go.Proofs.Ytadllkhmihbfhaa.stmtFields
open Go.AL Go.ChangeShapes Go.WideShapes Go.ChangeAt Go.RowKit

theorem own : ownKnob Try.prog.godebug = none := by kernel_rfl
theorem laidOut : laidOutB Try.prog = true := by kernel_rfl
theorem plain : ([22, 47, 37, 9, 41, 38, 3, 39, 45, 42, 43, 4, 5] : List TypeId).all (plainT Try.prog [22, 47, 37, 9, 41, 38, 3, 39, 45, 42, 43, 4, 5]) = true := by kernel_rfl
theorem rowed : ([22, 5, 5] : List TypeId).all (fun t => Try.prog.readableRec t && decide (t < Try.prog.types.size)) = true := by kernel_rfl
theorem noarr : ([22, 47, 37, 9, 41, 38, 3, 39, 45, 42, 43, 4, 5] : List TypeId).all (fun t => match Try.prog.underlying t with | some (.array _ _) => false | _ => true) = true := by kernel_rfl
theorem noarr' : ∀ t ∈ ([22, 47, 37, 9, 41, 38, 3, 39, 45, 42, 43, 4, 5] : List TypeId), ∀ m e, Try.prog.underlying t ≠ some (.array m e) := fun t ht m e q => by
  have := List.all_eq_true.1 noarr t ht
  rw [q] at this
  cases this

set_option maxRecDepth 100000 in
theorem walk (ax : List A) (v0 v1 v2 : Value) (w : World) (hrep : RepL Try.prog w NoF [] ax [v0, v1, v2]) (hwt : WTL Try.prog [22, 5, 5] ax) (hb : wK ax ≤ 1048576) :
    Calls Try.prog 8 #[v0, v1, v2] w fun e w' => e = .returned (.bool true) ∧ Below w.heap.size w w' := by
  match ax, hrep, hwt, hb with
  | [a0, a1, a2], hrep, hwt, hb =>
    obtain ⟨⟨n0, cs0, h0, rfl⟩, ⟨n1, cs1, h1, rfl⟩, ⟨n2, cs2, h2, rfl⟩, _⟩ := hwt
    obtain ⟨x0, rfl, b0, q0⟩ := WTc_slice (P := Try.prog) (α := TStmt) (Q := (fun y => y.ok)) s22_ (fun m cs _ h => by
      rw [l22_] at h ⊢
      obtain ⟨x, rfl, b⟩ := wt_TStmt h
      exact ⟨x, (pack_agg a47_).trans (enc_TStmt x).symm, b⟩) h0
    obtain ⟨x1, rfl, b1⟩ := WTc_int (k := .u8) i5_ h1
    obtain ⟨x2, rfl, b2⟩ := WTc_int (k := .u8) i5_ h2
    obtain ⟨k1, rfl, hk1⟩ : ∃ k : Nat, x1 = (k : Int) ∧ k ≤ 255 := by
      have h0 : IntKind.u8.min ≤ x1 ∧ x1 ≤ IntKind.u8.max := by simpa [Lit.wf] using b1
      have e1 : IntKind.u8.min = 0 := by decide
      have e2 : IntKind.u8.max = 255 := by decide
      rw [e1, e2] at h0
      exact ⟨x1.toNat, by omega, by omega⟩
    obtain ⟨k2, rfl, hk2⟩ : ∃ k : Nat, x2 = (k : Int) ∧ k ≤ 255 := by
      have h0 : IntKind.u8.min ≤ x2 ∧ x2 ≤ IntKind.u8.max := by simpa [Lit.wf] using b2
      have e1 : IntKind.u8.min = 0 := by decide
      have e2 : IntKind.u8.max = 255 := by decide
      rw [e1, e2] at h0
      exact ⟨x2.toNat, by omega, by omega⟩
    rw [pack_one a22_] at hrep hb
    rw [pack_one a5_] at hrep hb
    rw [pack_one a5_] at hrep hb
    simp only [wK_cons, wK_nil] at hb
    have hz0 : sizT x0 ≤ 4000000000 := by have := wST x0; omega
    exact walk_law (c_StmtFields sortAt x0 k1 k2 b0 q0 hk1 hk2 hz0) hrep

set_option maxRecDepth 100000 in
theorem lifted (os : Os) (started : os.Started) (H : Type) (enc : TypeId × Value → H) (F : Stop.Interp) :
    ReturnsInHanded {} Try.checked os 8 .any ((Rows.OpenSpec.upto Rows.stmtFieldsSpec).pre6 enc Try.prog Try.f8 Rows.stmtFieldsUptoRow.domain false) (((Rows.OpenSpec.upto Rows.stmtFieldsSpec).at F).post enc Try.prog Try.f8 false true false false) := by
  refine returnsInHanded_of_cond (C := Try.checked) (s := Rows.OpenSpec.upto Rows.stmtFieldsSpec) (k := Rows.uptoSmall) rfl own started (by kernel_rfl) Try.func8
    (OpenSpec.witness (enc := enc) (C := Try.checked) (s := Rows.OpenSpec.upto Rows.stmtFieldsSpec) (k := Rows.uptoSmall) rfl false ⟨#[], #[.slice none 0 0, .int .u8 0, .int .u8 0], []⟩ 8 (by kernel_rfl) (by kernel_rfl) (by kernel_rfl)
      (x := ([.nil, .lit (.int .u8 0), .lit (.int .u8 0)], [], [])) (by kernel_rfl) rfl (by kernel_rfl)) ?_
  intro W base args ds gs before hval0 hW _ hk _
  have hval : ∀ (j : Nat) t v, Try.f8.params[j]? = some t → args[j]? = some v → Value.okWide Try.prog W .any base t v := hval0
  have hW' := hW
  obtain ⟨p, q, hA0, hV, rfl, hfz, hnd⟩ := hW
  have hA : DataW.TrodAll enc Try.prog W 0 (fun _ => true) true Try.f8.params.toList args.toList ds p := hA0
  rw [Try.params8] at hA hval
  have hA1 := hA
  obtain ⟨v0, vs0, d0, ds0, p0, q0, hargs, rfl, rfl, h0, r0⟩ := trodAll_cons hA1
  obtain ⟨v1, vs1, d1, ds1, p1, q1, rfl, rfl, rfl, h1, r1⟩ := trodAll_cons r0
  obtain ⟨v2, vs2, d2, ds2, p2, q2, rfl, rfl, rfl, h2, r2⟩ := trodAll_cons r1
  obtain ⟨rfl, rfl, rfl⟩ := trodAll_nil r2
  obtain rfl : args = #[v0, v1, v2] := by cases args; simp_all
  obtain ⟨rfl, rfl⟩ := trodVars_none hV
  obtain ⟨ax, hrep, hwt, hbk⟩ := open_allB (S := [22, 47, 37, 9, 41, 38, 3, 39, 45, 42, 43, 4, 5]) (fun t ht => List.all_eq_true.1 plain t ht) noarr' (params := [22, 5, 5]) (by simp) (fun j t v ht hv => hval j t v (by simpa using ht) (by simpa using hv)) hA
  have hb : wK ax ≤ 1048576 := by
    have hk1 := of_decide_eq_true hk
    simp only [Rows.uptoBulkAll, List.cons_append, List.nil_append] at hk1 hbk
    omega
  refine (walk ax v0 v1 v2 W hrep hwt hb).mono fun e W' ⟨he, bel⟩ => ?_
  subst he
  have hback := trodAll_below (enc := enc) laidOut bel (params := [22, 5, 5]) (fun t ht => by have := List.all_eq_true.1 rowed t ht; simpa using this) hA
  exact ⟨_, rfl, _, _, _, [], _, [], hW', trodAll_mk1 (shut_bool Try.underlying4 _), hback, rfl, bel.frame _, fun h => by cases h⟩

theorem over : Rows.stmtFieldsUptoRow.holds Try.pinned (Rows.OpenSpec.upto Rows.stmtFieldsSpec) :=
  OpenClaim.holds_of_cond 8 Try.f8 rfl rfl rfl rfl rfl rfl rfl ⟨rfl, rfl, rfl, rfl, rfl⟩ rfl rfl rfl rfl rfl (by kernel_rfl) Try.func8 (by kernel_rfl)
    (of_decide_eq_true (by kernel_rfl)) (by unfold Func.isWrapper; first | (rw [if_pos (by decide +kernel)]; kernel_rfl) | (rw [if_neg (by decide +kernel)]; exact ⟨rfl, rfl⟩))
    (fun os started H enc _ F => lifted os started H enc F)

/-- THE STATEMENT -/
theorem proved : Rows.StmtFieldsUptoSaid := over
end Go.Proofs.Ytadllkhmihbfhaa.stmtFields
