/- The types of the chapter, as Lean's own, and how they lie in memory. -/
import Derived.Test.YtnahhdbheeinfaaAlFacts
namespace Go.Proofs.Ytnahhdbheeinfaa
open Go.AL
structure TExpr where
  fOp : Int
  fName : List UInt8
  fN : Int
  fKids : List TExpr
mutual
def TExpr.encA : TExpr → A
  | ⟨fOp, fName, fN, fKids⟩ => .agg ([A.int .i64 fOp, A.str fName, A.int .i64 fN, A.sl false (TExpr.encL fKids)])
def TExpr.encL : List TExpr → List A
  | [] => []
  | x :: l => x.encA :: TExpr.encL l
end
theorem TExpr.encL_map (l : List TExpr) : TExpr.encL l = l.map TExpr.encA := by
  induction l with
  | nil => rw [TExpr.encL]; rfl
  | cons x l ih => rw [TExpr.encL, ih]; rfl
theorem TExpr.wkE (x : TExpr) : wkA x.encA = x.encA :=
  TExpr.rec (motive_1 := fun x => wkA x.encA = x.encA) (motive_2 := fun l => wkL (TExpr.encL l) = TExpr.encL l) (by intros; simp [TExpr.encA, *]) (by simp [TExpr.encL]) (by intros; simp [TExpr.encL, *]) x
instance : Enc TExpr := ⟨TExpr.encA, 4, fun x => by cases x; simp [TExpr.encA], TExpr.wkE, fun x => by cases x; simp [TExpr.encA], by decide⟩
@[simp] def TExpr.cells (x : TExpr) : List A := [A.int .i64 x.fOp, A.str x.fName, A.int .i64 x.fN, Ls false x.fKids]
@[simp] theorem enc_TExpr (x : TExpr) : Enc.enc x = A.agg x.cells := by
  show x.encA = _
  cases x
  rw [TExpr.encA, TExpr.encL_map]
  rfl
theorem TExpr.ind {motive : TExpr → Prop} (h : ∀ e : TExpr, (∀ y ∈ e.fKids, motive y) → motive e) : ∀ e, motive e := by
  intro e
  exact TExpr.rec (motive_1 := motive) (motive_2 := fun l => ∀ y ∈ l, motive y) (fun _ _ _ _ i0 => h _ i0) (by simp) (fun a l h1 h2 y hy => by
    rcases List.mem_cons.1 hy with rfl | hy
    · exact h1
    · exact h2 _ hy) e
@[simp] theorem sz_TExpr : Enc.sz TExpr = 4 := rfl
inductive TExpr.ok : TExpr → Prop
  | mk (x : TExpr) (hOp : (Lit.int .i64 x.fOp).wf = true) (hName : x.fName.length ≤ 9223372036854775807) (hN : (Lit.int .i64 x.fN).wf = true) (lKids : x.fKids.length ≤ 9223372036854775807) (hKids : ∀ y ∈ x.fKids, TExpr.ok y) : TExpr.ok x
theorem wt_TExpr {P : Program} [h : Facts P] {n : Nat} {cs : List A} (h : WTc P n 32 cs) : ∃ x : TExpr, cs = x.cells ∧ x.ok := by
  induction n using Nat.strongRecOn generalizing cs with
  | ind n ih =>
  obtain ⟨m, rfl, hl, h⟩ := WTc_struct w32_ h
  rw [c32_] at hl
  match cs, hl with
  | [c0, c1, c2, c3], _ =>
    have h0 := h (22, 0) (by simp)
    have h1 := h (9, 1) (by simp)
    have h2 := h (3, 2) (by simp)
    have h3 := h (30, 3) (by simp)
    clear h
    simp only [c22_, c30_, c3_, c9_, List.drop, List.take] at h0 h1 h2 h3
    obtain ⟨z0, e0, b0⟩ := WTc_int (k := .i64) i22_ h0
    obtain ⟨z1, e1, b1⟩ := WTc_str t9_ h1
    obtain ⟨z2, e2, b2⟩ := WTc_int (k := .i64) i3_ h2
    obtain ⟨z3, e3, b3, q3⟩ := WTc_slice (α := TExpr) (Q := (fun y => y.ok)) s30_ (fun m cs _ h => by
      rw [l30_] at h ⊢
      obtain ⟨x, rfl, b⟩ := ih _ (by omega) h
      exact ⟨x, by rw [enc_TExpr]; exact pack_agg a32_, b⟩) h3
    simp only [List.cons.injEq, and_true] at e0
    subst e0
    simp only [List.cons.injEq, and_true] at e1
    subst e1
    simp only [List.cons.injEq, and_true] at e2
    subst e2
    simp only [List.cons.injEq, and_true] at e3
    subst e3
    exact ⟨⟨z0, z1, z2, z3⟩, rfl, .mk _ b0 (by rw [← maxLen_eq]; exact b1) b2 b3 q3⟩

structure TView where
  fNow : Int
  fSlots : List Int
  fVars : List Int
  fFree : List Int
  fSize : List Int
  fWaiting : List Int
  deriving DecidableEq
@[simp] def TView.cells (x : TView) : List A := [A.int .i64 x.fNow, Ls false x.fSlots, Ls false x.fVars, Ls false x.fFree, Ls false x.fSize, Ls false x.fWaiting]
instance : Enc TView := ⟨fun x => .agg x.cells, 6, fun x => by simp, fun x => by simp, fun x => by simp, by decide⟩
@[simp] theorem enc_TView (x : TView) : Enc.enc x = A.agg x.cells := rfl
@[simp] theorem sz_TView : Enc.sz TView = 6 := rfl
def TView.ok (x : TView) : Prop := ((Lit.int .i64 x.fNow).wf = true) ∧ (x.fSlots.length ≤ 9223372036854775807 ∧ ∀ y0 ∈ x.fSlots, (Lit.int .i64 y0).wf = true) ∧ (x.fVars.length ≤ 9223372036854775807 ∧ ∀ y0 ∈ x.fVars, (Lit.int .i64 y0).wf = true) ∧ (x.fFree.length ≤ 9223372036854775807 ∧ ∀ y0 ∈ x.fFree, (Lit.int .i64 y0).wf = true) ∧ (x.fSize.length ≤ 9223372036854775807 ∧ ∀ y0 ∈ x.fSize, (Lit.int .i64 y0).wf = true) ∧ (x.fWaiting.length ≤ 9223372036854775807 ∧ ∀ y0 ∈ x.fWaiting, (Lit.int .i64 y0).wf = true)
theorem wt_TView {P : Program} [h : Facts P] {n : Nat} {cs : List A} (h : WTc P n 29 cs) : ∃ x : TView, cs = x.cells ∧ x.ok := by
  obtain ⟨m, rfl, hl, h⟩ := WTc_struct w29_ h
  rw [c29_] at hl
  match cs, hl with
  | [c0, c1, c2, c3, c4, c5], _ =>
    have h0 := h (3, 0) (by simp)
    have h1 := h (27, 1) (by simp)
    have h2 := h (27, 2) (by simp)
    have h3 := h (27, 3) (by simp)
    have h4 := h (27, 4) (by simp)
    have h5 := h (27, 5) (by simp)
    clear h
    simp only [c27_, c3_, List.drop, List.take] at h0 h1 h2 h3 h4 h5
    obtain ⟨z0, e0, b0⟩ := WTc_int (k := .i64) i3_ h0
    obtain ⟨z1, e1, b1, q1⟩ := WTc_slice (α := Int) (Q := (fun y => (Lit.int .i64 y).wf = true)) s27_ (fun m cs _ h => by
      rw [l27_] at h ⊢
      obtain ⟨z, rfl, b⟩ := WTc_int (k := .i64) i3_ h
      exact ⟨z, pack_one a3_, b⟩) h1
    obtain ⟨z2, e2, b2, q2⟩ := WTc_slice (α := Int) (Q := (fun y => (Lit.int .i64 y).wf = true)) s27_ (fun m cs _ h => by
      rw [l27_] at h ⊢
      obtain ⟨z, rfl, b⟩ := WTc_int (k := .i64) i3_ h
      exact ⟨z, pack_one a3_, b⟩) h2
    obtain ⟨z3, e3, b3, q3⟩ := WTc_slice (α := Int) (Q := (fun y => (Lit.int .i64 y).wf = true)) s27_ (fun m cs _ h => by
      rw [l27_] at h ⊢
      obtain ⟨z, rfl, b⟩ := WTc_int (k := .i64) i3_ h
      exact ⟨z, pack_one a3_, b⟩) h3
    obtain ⟨z4, e4, b4, q4⟩ := WTc_slice (α := Int) (Q := (fun y => (Lit.int .i64 y).wf = true)) s27_ (fun m cs _ h => by
      rw [l27_] at h ⊢
      obtain ⟨z, rfl, b⟩ := WTc_int (k := .i64) i3_ h
      exact ⟨z, pack_one a3_, b⟩) h4
    obtain ⟨z5, e5, b5, q5⟩ := WTc_slice (α := Int) (Q := (fun y => (Lit.int .i64 y).wf = true)) s27_ (fun m cs _ h => by
      rw [l27_] at h ⊢
      obtain ⟨z, rfl, b⟩ := WTc_int (k := .i64) i3_ h
      exact ⟨z, pack_one a3_, b⟩) h5
    simp only [List.cons.injEq, and_true] at e0
    subst e0
    simp only [List.cons.injEq, and_true] at e1
    subst e1
    simp only [List.cons.injEq, and_true] at e2
    subst e2
    simp only [List.cons.injEq, and_true] at e3
    subst e3
    simp only [List.cons.injEq, and_true] at e4
    subst e4
    simp only [List.cons.injEq, and_true] at e5
    subst e5
    exact ⟨⟨z0, z1, z2, z3, z4, z5⟩, rfl, b0, ⟨b1, q1⟩, ⟨b2, q2⟩, ⟨b3, q3⟩, ⟨b4, q4⟩, ⟨b5, q5⟩⟩

structure Tkind where
  fCode : Bool
  deriving DecidableEq
@[simp] def Tkind.cells (x : Tkind) : List A := [A.bool x.fCode]
instance : Enc Tkind := ⟨fun x => .agg x.cells, 1, fun x => by simp, fun x => by simp, fun x => by simp, by decide⟩
@[simp] theorem enc_Tkind (x : Tkind) : Enc.enc x = A.agg x.cells := rfl
@[simp] theorem sz_Tkind : Enc.sz Tkind = 1 := rfl
def Tkind.ok (x : Tkind) : Prop := True
theorem wt_Tkind {P : Program} [h : Facts P] {n : Nat} {cs : List A} (h : WTc P n 49 cs) : ∃ x : Tkind, cs = x.cells ∧ x.ok := by
  obtain ⟨m, rfl, hl, h⟩ := WTc_struct w49_ h
  rw [c49_] at hl
  match cs, hl with
  | [c0], _ =>
    have h0 := h (4, 0) (by simp)
    clear h
    simp only [c4_, List.drop, List.take] at h0
    obtain ⟨z0, e0⟩ := WTc_bool d4_ h0
    simp only [List.cons.injEq, and_true] at e0
    subst e0
    exact ⟨⟨z0⟩, rfl, trivial⟩

/-! types: TExpr 32, TView 29, Tkind 49 -/
end Go.Proofs.Ytnahhdbheeinfaa
