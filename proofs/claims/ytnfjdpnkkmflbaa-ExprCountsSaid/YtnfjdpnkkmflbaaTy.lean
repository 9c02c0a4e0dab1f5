/- The types of the chapter, as Lean's own, and how they lie in memory. -/
import Derived.Test.YtnfjdpnkkmflbaaAlFacts
namespace Go.Proofs.Ytnfjdpnkkmflbaa
open Go.AL
structure TExpr where
  fOp : Int
  fName : List UInt8
  fN : Int
  fKids : List TExpr
mutual
def TExpr.encA : TExpr → A
  | ⟨fOp, fName, fN, fKids⟩ => .agg ([A.int .i64 fOp, A.str fName, A.int .i64 fN, A.sl false (TExpr.encL fKids)])
def TExpr.encL : List TExpr → List A
  | [] => []
  | x :: l => x.encA :: TExpr.encL l
end
theorem TExpr.encL_map (l : List TExpr) : TExpr.encL l = l.map TExpr.encA := by
  induction l with
  | nil => rw [TExpr.encL]; rfl
  | cons x l ih => rw [TExpr.encL, ih]; rfl
theorem TExpr.wkE (x : TExpr) : wkA x.encA = x.encA :=
  TExpr.rec (motive_1 := fun x => wkA x.encA = x.encA) (motive_2 := fun l => wkL (TExpr.encL l) = TExpr.encL l) (by intros; simp [TExpr.encA, *]) (by simp [TExpr.encL]) (by intros; simp [TExpr.encL, *]) x
instance : Enc TExpr := ⟨TExpr.encA, 4, fun x => by cases x; simp [TExpr.encA], TExpr.wkE, fun x => by cases x; simp [TExpr.encA], by decide⟩
@[simp] def TExpr.cells (x : TExpr) : List A := [A.int .i64 x.fOp, A.str x.fName, A.int .i64 x.fN, Ls false x.fKids]
@[simp] theorem enc_TExpr (x : TExpr) : Enc.enc x = A.agg x.cells := by
  show x.encA = _
  cases x
  rw [TExpr.encA, TExpr.encL_map]
  rfl
theorem TExpr.ind {motive : TExpr → Prop} (h : ∀ e : TExpr, (∀ y ∈ e.fKids, motive y) → motive e) : ∀ e, motive e := by
  intro e
  exact TExpr.rec (motive_1 := motive) (motive_2 := fun l => ∀ y ∈ l, motive y) (fun _ _ _ _ i0 => h _ i0) (by simp) (fun a l h1 h2 y hy => by
    rcases List.mem_cons.1 hy with rfl | hy
    · exact h1
    · exact h2 _ hy) e
@[simp] theorem sz_TExpr : Enc.sz TExpr = 4 := rfl
inductive TExpr.ok : TExpr → Prop
  | mk (x : TExpr) (hOp : (Lit.int .i64 x.fOp).wf = true) (hName : x.fName.length ≤ 9223372036854775807) (hN : (Lit.int .i64 x.fN).wf = true) (lKids : x.fKids.length ≤ 9223372036854775807) (hKids : ∀ y ∈ x.fKids, TExpr.ok y) : TExpr.ok x
theorem wt_TExpr {P : Program} [h : Facts P] {n : Nat} {cs : List A} (h : WTc P n 25 cs) : ∃ x : TExpr, cs = x.cells ∧ x.ok := by
  induction n using Nat.strongRecOn generalizing cs with
  | ind n ih =>
  obtain ⟨m, rfl, hl, h⟩ := WTc_struct w25_ h
  rw [c25_] at hl
  match cs, hl with
  | [c0, c1, c2, c3], _ =>
    have h0 := h (22, 0) (by simp)
    have h1 := h (9, 1) (by simp)
    have h2 := h (3, 2) (by simp)
    have h3 := h (23, 3) (by simp)
    clear h
    simp only [c22_, c23_, c3_, c9_, List.drop, List.take] at h0 h1 h2 h3
    obtain ⟨z0, e0, b0⟩ := WTc_int (k := .i64) i22_ h0
    obtain ⟨z1, e1, b1⟩ := WTc_str t9_ h1
    obtain ⟨z2, e2, b2⟩ := WTc_int (k := .i64) i3_ h2
    obtain ⟨z3, e3, b3, q3⟩ := WTc_slice (α := TExpr) (Q := (fun y => y.ok)) s23_ (fun m cs _ h => by
      rw [l23_] at h ⊢
      obtain ⟨x, rfl, b⟩ := ih _ (by omega) h
      exact ⟨x, by rw [enc_TExpr]; exact pack_agg a25_, b⟩) h3
    simp only [List.cons.injEq, and_true] at e0
    subst e0
    simp only [List.cons.injEq, and_true] at e1
    subst e1
    simp only [List.cons.injEq, and_true] at e2
    subst e2
    simp only [List.cons.injEq, and_true] at e3
    subst e3
    exact ⟨⟨z0, z1, z2, z3⟩, rfl, .mk _ b0 (by rw [← maxLen_eq]; exact b1) b2 b3 q3⟩

structure Tkind where
  fCode : Bool
  deriving DecidableEq
@[simp] def Tkind.cells (x : Tkind) : List A := [A.bool x.fCode]
instance : Enc Tkind := ⟨fun x => .agg x.cells, 1, fun x => by simp, fun x => by simp, fun x => by simp, by decide⟩
@[simp] theorem enc_Tkind (x : Tkind) : Enc.enc x = A.agg x.cells := rfl
@[simp] theorem sz_Tkind : Enc.sz Tkind = 1 := rfl
def Tkind.ok (x : Tkind) : Prop := True
theorem wt_Tkind {P : Program} [h : Facts P] {n : Nat} {cs : List A} (h : WTc P n 47 cs) : ∃ x : Tkind, cs = x.cells ∧ x.ok := by
  obtain ⟨m, rfl, hl, h⟩ := WTc_struct w47_ h
  rw [c47_] at hl
  match cs, hl with
  | [c0], _ =>
    have h0 := h (4, 0) (by simp)
    clear h
    simp only [c4_, List.drop, List.take] at h0
    obtain ⟨z0, e0⟩ := WTc_bool d4_ h0
    simp only [List.cons.injEq, and_true] at e0
    subst e0
    exact ⟨⟨z0⟩, rfl, trivial⟩

/-! types: TExpr 25, Tkind 47 -/
end Go.Proofs.Ytnfjdpnkkmflbaa
