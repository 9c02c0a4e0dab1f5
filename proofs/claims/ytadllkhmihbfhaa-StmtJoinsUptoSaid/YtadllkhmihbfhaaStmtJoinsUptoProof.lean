/- The proof of Rows.StmtJoinsUptoSaid: the row by the law's contract, where what came in is of bulk at most 1048576 (shared lists may be of a size that goes round). -/
import Derived.Test.YtadllkhmihbfhaaRows
import Derived.Test.YtadllkhmihbfhaaL8
import Derived.Test.YtadllkhmihbfhaaB2
import Derived.Test.YtadllkhmihbfhaaS3
import Derived.WalkKit
import Derived.ProofKit
import Derived.OpenShut
import Derived.ShutString
import Derived.ChangeOld
import Derived.Below
import Derived.JoinedCond
namespace Go.Proofs.Ytadllkhmihbfhaa.stmtJoins
open Go.AL Go.ChangeShapes Go.WideShapes Go.ChangeAt Go.RowKit

theorem own : ownKnob Try.prog.godebug = none := by kernel_rfl
theorem laidOut : laidOutB Try.prog = true := by kernel_rfl
theorem plain : ([22, 47, 37, 9, 41, 38, 3, 39, 45, 42, 43, 4] : List TypeId).all (plainT Try.prog [22, 47, 37, 9, 41, 38, 3, 39, 45, 42, 43, 4]) = true := by kernel_rfl
theorem rowed : ([22, 22, 9] : List TypeId).all (fun t => Try.prog.readableRec t && decide (t < Try.prog.types.size)) = true := by kernel_rfl
theorem noarr : ([22, 47, 37, 9, 41, 38, 3, 39, 45, 42, 43, 4] : List TypeId).all (fun t => match Try.prog.underlying t with | some (.array _ _) => false | _ => true) = true := by kernel_rfl
theorem noarr' : ∀ t ∈ ([22, 47, 37, 9, 41, 38, 3, 39, 45, 42, 43, 4] : List TypeId), ∀ m e, Try.prog.underlying t ≠ some (.array m e) := fun t ht m e q => by
  have := List.all_eq_true.1 noarr t ht
  rw [q] at this
  cases this

set_option maxRecDepth 100000 in
theorem walk (ax : List A) (v0 v1 v2 : Value) (w : World) (hrep : RepL Try.prog w NoF [] ax [v0, v1, v2]) (hwt : WTL Try.prog [22, 22, 9] ax) (hb : wK ax ≤ 1048576) :
    Calls Try.prog 6 #[v0, v1, v2] w fun e w' => e = .returned (.bool true) ∧ Below w.heap.size w w' := by
  match ax, hrep, hwt, hb with
  | [a0, a1, a2], hrep, hwt, hb =>
    obtain ⟨⟨n0, cs0, h0, rfl⟩, ⟨n1, cs1, h1, rfl⟩, ⟨n2, cs2, h2, rfl⟩, _⟩ := hwt
    obtain ⟨x0, rfl, b0, q0⟩ := WTc_slice (P := Try.prog) (α := TStmt) (Q := (fun y => y.ok)) s22_ (fun m cs _ h => by
      rw [l22_] at h ⊢
      obtain ⟨x, rfl, b⟩ := wt_TStmt h
      exact ⟨x, (pack_agg a47_).trans (enc_TStmt x).symm, b⟩) h0
    obtain ⟨x1, rfl, b1, q1⟩ := WTc_slice (P := Try.prog) (α := TStmt) (Q := (fun y => y.ok)) s22_ (fun m cs _ h => by
      rw [l22_] at h ⊢
      obtain ⟨x, rfl, b⟩ := wt_TStmt h
      exact ⟨x, (pack_agg a47_).trans (enc_TStmt x).symm, b⟩) h1
    obtain ⟨x2, rfl, b2⟩ := WTc_str t9_ h2
    rw [pack_one a22_] at hrep hb
    rw [pack_one a22_] at hrep hb
    rw [pack_one a9_] at hrep hb
    simp only [wK_cons, wK_nil] at hb
    have hz0 : sizT x0 ≤ 4000000000 := by have := wST x0; omega
    have hz1 : sizT x1 ≤ 4000000000 := by have := wST x1; omega
    exact walk_law (c_StmtJoins sortAt x0 x1 x2 b0 q0 b1 q1 hz0 hz1) hrep

set_option maxRecDepth 100000 in
theorem lifted (os : Os) (started : os.Started) (H : Type) (enc : TypeId × Value → H) (F : Stop.Interp) :
    ReturnsInHanded {} Try.checked os 6 .any ((Rows.OpenSpec.upto Rows.stmtJoinsSpec).pre6 enc Try.prog Try.f6 Rows.stmtJoinsUptoRow.domain false) (((Rows.OpenSpec.upto Rows.stmtJoinsSpec).at F).post enc Try.prog Try.f6 false true false false) := by
  refine returnsInHanded_of_cond (C := Try.checked) (s := Rows.OpenSpec.upto Rows.stmtJoinsSpec) (k := Rows.uptoSmall) rfl own started (by kernel_rfl) Try.func6
    (OpenSpec.witness (enc := enc) (C := Try.checked) (s := Rows.OpenSpec.upto Rows.stmtJoinsSpec) (k := Rows.uptoSmall) rfl false ⟨#[], #[.slice none 0 0, .slice none 0 0, .string ⟨#[]⟩], []⟩ 8 (by kernel_rfl) (by kernel_rfl) (by kernel_rfl)
      (x := ([.nil, .nil, .lit (.string [])], [], [])) (by kernel_rfl) rfl (by kernel_rfl)) ?_
  intro W base args ds gs before hval0 hW _ hk _
  have hval : ∀ (j : Nat) t v, Try.f6.params[j]? = some t → args[j]? = some v → Value.okWide Try.prog W .any base t v := hval0
  have hW' := hW
  obtain ⟨p, q, hA0, hV, rfl, hfz, hnd⟩ := hW
  have hA : DataW.TrodAll enc Try.prog W 0 (fun _ => true) true Try.f6.params.toList args.toList ds p := hA0
  rw [Try.params6] at hA hval
  have hA1 := hA
  obtain ⟨v0, vs0, d0, ds0, p0, q0, hargs, rfl, rfl, h0, r0⟩ := trodAll_cons hA1
  obtain ⟨v1, vs1, d1, ds1, p1, q1, rfl, rfl, rfl, h1, r1⟩ := trodAll_cons r0
  obtain ⟨v2, vs2, d2, ds2, p2, q2, rfl, rfl, rfl, h2, r2⟩ := trodAll_cons r1
  obtain ⟨rfl, rfl, rfl⟩ := trodAll_nil r2
  obtain rfl : args = #[v0, v1, v2] := by cases args; simp_all
  obtain ⟨rfl, rfl⟩ := trodVars_none hV
  obtain ⟨ax, hrep, hwt, hbk⟩ := open_allB (S := [22, 47, 37, 9, 41, 38, 3, 39, 45, 42, 43, 4]) (fun t ht => List.all_eq_true.1 plain t ht) noarr' (params := [22, 22, 9]) (by simp) (fun j t v ht hv => hval j t v (by simpa using ht) (by simpa using hv)) hA
  have hb : wK ax ≤ 1048576 := by
    have hk1 := of_decide_eq_true hk
    simp only [Rows.uptoBulkAll, List.cons_append, List.nil_append] at hk1 hbk
    omega
  refine (walk ax v0 v1 v2 W hrep hwt hb).mono fun e W' ⟨he, bel⟩ => ?_
  subst he
  have hback := trodAll_below (enc := enc) laidOut bel (params := [22, 22, 9]) (fun t ht => by have := List.all_eq_true.1 rowed t ht; simpa using this) hA
  exact ⟨_, rfl, _, _, _, [], _, [], hW', trodAll_mk1 (shut_bool Try.underlying4 _), hback, rfl, bel.frame _, fun h => by cases h⟩

theorem over : Rows.stmtJoinsUptoRow.holds Try.pinned (Rows.OpenSpec.upto Rows.stmtJoinsSpec) :=
  OpenClaim.holds_of_cond 6 Try.f6 rfl rfl rfl rfl rfl rfl rfl ⟨rfl, rfl, rfl, rfl, rfl⟩ rfl rfl rfl rfl rfl (by kernel_rfl) Try.func6 (by kernel_rfl)
    (of_decide_eq_true (by kernel_rfl)) (by unfold Func.isWrapper; first | (rw [if_pos (by decide +kernel)]; kernel_rfl) | (rw [if_neg (by decide +kernel)]; exact ⟨rfl, rfl⟩))
    (fun os started H enc _ F => lifted os started H enc F)

/-- THE STATEMENT -/
theorem proved : Rows.StmtJoinsUptoSaid := over
end Go.Proofs.Ytadllkhmihbfhaa.stmtJoins
