/- The proof of Rows.StmtSameSaid: the row by the law's contract, whatever came in. -/
import Derived.Test.YtadllkhmihbfhaaRows
import Derived.Test.YtadllkhmihbfhaaL3
import Derived.WalkKit
import Derived.ProofKit
import Derived.OpenShut
import Derived.ShutString
import Derived.ChangeOld
import Derived.Below
namespace Go.Proofs.Ytadllkhmihbfhaa.stmtSame
open Go.AL Go.ChangeShapes Go.WideShapes Go.ChangeAt Go.RowKit

theorem own : ownKnob Try.prog.godebug = none := by kernel_rfl
theorem laidOut : laidOutB Try.prog = true := by kernel_rfl
theorem plain : ([22, 47, 37, 9, 41, 38, 3, 39, 45, 42, 43, 4] : List TypeId).all (plainT Try.prog [22, 47, 37, 9, 41, 38, 3, 39, 45, 42, 43, 4]) = true := by kernel_rfl
theorem rowed : ([22, 22] : List TypeId).all (fun t => Try.prog.readableRec t && decide (t < Try.prog.types.size)) = true := by kernel_rfl

set_option maxRecDepth 100000 in
theorem walk (ax : List A) (v0 v1 : Value) (w : World) (hrep : RepL Try.prog w NoF [] ax [v0, v1]) (hwt : WTL Try.prog [22, 22] ax) :
    Calls Try.prog 5 #[v0, v1] w fun e w' => e = .returned (.bool true) ∧ Below w.heap.size w w' := by
  match ax, hrep, hwt with
  | [a0, a1], hrep, hwt =>
    obtain ⟨⟨n0, cs0, h0, rfl⟩, ⟨n1, cs1, h1, rfl⟩, _⟩ := hwt
    obtain ⟨x0, rfl, b0, q0⟩ := WTc_slice (P := Try.prog) (α := TStmt) (Q := (fun y => y.ok)) s22_ (fun m cs _ h => by
      rw [l22_] at h ⊢
      obtain ⟨x, rfl, b⟩ := wt_TStmt h
      exact ⟨x, (pack_agg a47_).trans (enc_TStmt x).symm, b⟩) h0
    obtain ⟨x1, rfl, b1, q1⟩ := WTc_slice (P := Try.prog) (α := TStmt) (Q := (fun y => y.ok)) s22_ (fun m cs _ h => by
      rw [l22_] at h ⊢
      obtain ⟨x, rfl, b⟩ := wt_TStmt h
      exact ⟨x, (pack_agg a47_).trans (enc_TStmt x).symm, b⟩) h1
    rw [pack_one a22_] at hrep
    rw [pack_one a22_] at hrep
    exact walk_law (c_StmtSame sortAt x0 x1 b0 q0 b1 q1) hrep

set_option maxRecDepth 100000 in
theorem lifted (os : Os) (started : os.Started) (H : Type) (enc : TypeId × Value → H) :
    ReturnsInHanded {} Try.checked os 5 .any (Rows.stmtSameSpec.pre6 enc Try.prog Try.f5 Rows.stmtSameRow.domain false) (Rows.stmtSameSpec.post enc Try.prog Try.f5 false true false false) := by
  refine returnsInHanded_of_change (C := Try.checked) own started (by kernel_rfl) Try.func5
    (ChangeSpec.witness6 (enc := enc) (C := Try.checked) false ⟨#[], #[.slice none 0 0, .slice none 0 0], []⟩ 8 (by kernel_rfl) (by kernel_rfl) (by kernel_rfl) (by kernel_rfl)) ?_
  intro W base args ds gs before hval0 hW hcnd _
  have hval : ∀ (j : Nat) t v, Try.f5.params[j]? = some t → args[j]? = some v → Value.okWide Try.prog W .any base t v := hval0
  have hW' := hW
  obtain ⟨p, q, hA0, hV, rfl, hfz, hnd⟩ := hW
  have hA : DataW.TrodAll enc Try.prog W 0 (fun _ => true) true Try.f5.params.toList args.toList ds p := hA0
  rw [Try.params5] at hA hval
  have hA1 := hA
  obtain ⟨v0, vs0, d0, ds0, p0, q0, hargs, rfl, rfl, h0, r0⟩ := trodAll_cons hA1
  obtain ⟨v1, vs1, d1, ds1, p1, q1, rfl, rfl, rfl, h1, r1⟩ := trodAll_cons r0
  obtain ⟨rfl, rfl, rfl⟩ := trodAll_nil r1
  obtain rfl : args = #[v0, v1] := by cases args; simp_all
  obtain ⟨rfl, rfl⟩ := trodVars_none hV
  obtain ⟨ax, hrep, hwt⟩ := open_all (S := [22, 47, 37, 9, 41, 38, 3, 39, 45, 42, 43, 4]) (fun t ht => List.all_eq_true.1 plain t ht) (params := [22, 22]) (by simp) (fun j t v ht hv => hval j t v (by simpa using ht) (by simpa using hv)) hA
  refine (walk ax v0 v1 W hrep hwt).mono fun e W' ⟨he, bel⟩ => ?_
  subst he
  have hback := trodAll_below (enc := enc) laidOut bel (params := [22, 22]) (fun t ht => by have := List.all_eq_true.1 rowed t ht; simpa using this) hA
  exact ⟨_, rfl, _, _, _, [], _, [], hW', trodAll_mk1 (shut_bool Try.underlying4 _), hback, rfl, bel.frame _, fun h => by cases h⟩

theorem over : Rows.stmtSameRow.holds Try.pinned (OpenSpec.ofChange Rows.stmtSameSpec) :=
  OpenClaim.holds_of_wide 5 Try.f5 rfl rfl rfl rfl rfl rfl rfl ⟨rfl, rfl, rfl, rfl, rfl⟩ rfl rfl rfl rfl rfl (by kernel_rfl) Try.func5 (by kernel_rfl)
    (of_decide_eq_true (by kernel_rfl)) (by unfold Func.isWrapper; first | (rw [if_pos (by decide +kernel)]; kernel_rfl) | (rw [if_neg (by decide +kernel)]; exact ⟨rfl, rfl⟩))
    (fun os started H enc _ => lifted os started H enc)

/-- THE STATEMENT -/
theorem proved : Rows.StmtSameSaid := over
end Go.Proofs.Ytadllkhmihbfhaa.stmtSame
