/- The types of the chapter, as Lean's own, and how they lie in memory. -/
import Derived.Test.YtmnpiibjjamjiaaAlFacts
namespace Go.Proofs.Ytmnpiibjjamjiaa
open Go.AL
structure TReady where
  fProc : Int
  fItem : Int
  deriving DecidableEq
@[simp] def TReady.cells (x : TReady) : List A := [A.int .i64 x.fProc, A.int .i64 x.fItem]
instance : Enc TReady := ⟨fun x => .agg x.cells, 2, fun x => by simp, fun x => by simp, fun x => by simp, by decide⟩
@[simp] theorem enc_TReady (x : TReady) : Enc.enc x = A.agg x.cells := rfl
@[simp] theorem sz_TReady : Enc.sz TReady = 2 := rfl
def TReady.ok (x : TReady) : Prop := ((Lit.int .i64 x.fProc).wf = true) ∧ ((Lit.int .i64 x.fItem).wf = true)
theorem wt_TReady {P : Program} [h : Facts P] {n : Nat} {cs : List A} (h : WTc P n 47 cs) : ∃ x : TReady, cs = x.cells ∧ x.ok := by
  obtain ⟨m, rfl, hl, h⟩ := WTc_struct w47_ h
  rw [c47_] at hl
  match cs, hl with
  | [c0, c1], _ =>
    have h0 := h (3, 0) (by simp)
    have h1 := h (3, 1) (by simp)
    clear h
    simp only [c3_, List.drop, List.take] at h0 h1
    obtain ⟨z0, e0, b0⟩ := WTc_int (k := .i64) i3_ h0
    obtain ⟨z1, e1, b1⟩ := WTc_int (k := .i64) i3_ h1
    simp only [List.cons.injEq, and_true] at e0
    subst e0
    simp only [List.cons.injEq, and_true] at e1
    subst e1
    exact ⟨⟨z0, z1⟩, rfl, b0, b1⟩

structure TStore where
  fRoom : Int
  fPolicy : Int
  fItems : List Int
  fPutters : List TReady
  fGetters : List Int
  fIn : Int
  fOut : Int
  deriving DecidableEq
@[simp] def TStore.cells (x : TStore) : List A := [A.int .i64 x.fRoom, A.int .i64 x.fPolicy, Ls false x.fItems, Ls false x.fPutters, Ls false x.fGetters, A.int .i64 x.fIn, A.int .i64 x.fOut]
instance : Enc TStore := ⟨fun x => .agg x.cells, 7, fun x => by simp, fun x => by simp, fun x => by simp, by decide⟩
@[simp] theorem enc_TStore (x : TStore) : Enc.enc x = A.agg x.cells := rfl
@[simp] theorem sz_TStore : Enc.sz TStore = 7 := rfl
def TStore.ok (x : TStore) : Prop := ((Lit.int .i64 x.fRoom).wf = true) ∧ ((Lit.int .i64 x.fPolicy).wf = true) ∧ (x.fItems.length ≤ 9223372036854775807 ∧ ∀ y0 ∈ x.fItems, (Lit.int .i64 y0).wf = true) ∧ (x.fPutters.length ≤ 9223372036854775807 ∧ ∀ y0 ∈ x.fPutters, y0.ok) ∧ (x.fGetters.length ≤ 9223372036854775807 ∧ ∀ y0 ∈ x.fGetters, (Lit.int .i64 y0).wf = true) ∧ ((Lit.int .i64 x.fIn).wf = true) ∧ ((Lit.int .i64 x.fOut).wf = true)
theorem wt_TStore {P : Program} [h : Facts P] {n : Nat} {cs : List A} (h : WTc P n 26 cs) : ∃ x : TStore, cs = x.cells ∧ x.ok := by
  obtain ⟨m, rfl, hl, h⟩ := WTc_struct w26_ h
  rw [c26_] at hl
  match cs, hl with
  | [c0, c1, c2, c3, c4, c5, c6], _ =>
    have h0 := h (3, 0) (by simp)
    have h1 := h (22, 1) (by simp)
    have h2 := h (23, 2) (by simp)
    have h3 := h (24, 3) (by simp)
    have h4 := h (23, 4) (by simp)
    have h5 := h (3, 5) (by simp)
    have h6 := h (3, 6) (by simp)
    clear h
    simp only [c22_, c23_, c24_, c3_, List.drop, List.take] at h0 h1 h2 h3 h4 h5 h6
    obtain ⟨z0, e0, b0⟩ := WTc_int (k := .i64) i3_ h0
    obtain ⟨z1, e1, b1⟩ := WTc_int (k := .i64) i22_ h1
    obtain ⟨z2, e2, b2, q2⟩ := WTc_slice (α := Int) (Q := (fun y => (Lit.int .i64 y).wf = true)) s23_ (fun m cs _ h => by
      rw [l23_] at h ⊢
      obtain ⟨z, rfl, b⟩ := WTc_int (k := .i64) i3_ h
      exact ⟨z, pack_one a3_, b⟩) h2
    obtain ⟨z3, e3, b3, q3⟩ := WTc_slice (α := TReady) (Q := (fun y => y.ok)) s24_ (fun m cs _ h => by
      rw [l24_] at h ⊢
      obtain ⟨x, rfl, b⟩ := wt_TReady h
      exact ⟨x, pack_agg a47_, b⟩) h3
    obtain ⟨z4, e4, b4, q4⟩ := WTc_slice (α := Int) (Q := (fun y => (Lit.int .i64 y).wf = true)) s23_ (fun m cs _ h => by
      rw [l23_] at h ⊢
      obtain ⟨z, rfl, b⟩ := WTc_int (k := .i64) i3_ h
      exact ⟨z, pack_one a3_, b⟩) h4
    obtain ⟨z5, e5, b5⟩ := WTc_int (k := .i64) i3_ h5
    obtain ⟨z6, e6, b6⟩ := WTc_int (k := .i64) i3_ h6
    simp only [List.cons.injEq, and_true] at e0
    subst e0
    simp only [List.cons.injEq, and_true] at e1
    subst e1
    simp only [List.cons.injEq, and_true] at e2
    subst e2
    simp only [List.cons.injEq, and_true] at e3
    subst e3
    simp only [List.cons.injEq, and_true] at e4
    subst e4
    simp only [List.cons.injEq, and_true] at e5
    subst e5
    simp only [List.cons.injEq, and_true] at e6
    subst e6
    exact ⟨⟨z0, z1, z2, z3, z4, z5, z6⟩, rfl, b0, b1, ⟨b2, q2⟩, ⟨b3, q3⟩, ⟨b4, q4⟩, b5, b6⟩

structure TAct where
  fProc : Int
  fItem : Int
  fGet : Bool
  fLeave : Bool
  deriving DecidableEq
@[simp] def TAct.cells (x : TAct) : List A := [A.int .i64 x.fProc, A.int .i64 x.fItem, A.bool x.fGet, A.bool x.fLeave]
instance : Enc TAct := ⟨fun x => .agg x.cells, 4, fun x => by simp, fun x => by simp, fun x => by simp, by decide⟩
@[simp] theorem enc_TAct (x : TAct) : Enc.enc x = A.agg x.cells := rfl
@[simp] theorem sz_TAct : Enc.sz TAct = 4 := rfl
def TAct.ok (x : TAct) : Prop := ((Lit.int .i64 x.fProc).wf = true) ∧ ((Lit.int .i64 x.fItem).wf = true)
theorem wt_TAct {P : Program} [h : Facts P] {n : Nat} {cs : List A} (h : WTc P n 43 cs) : ∃ x : TAct, cs = x.cells ∧ x.ok := by
  obtain ⟨m, rfl, hl, h⟩ := WTc_struct w43_ h
  rw [c43_] at hl
  match cs, hl with
  | [c0, c1, c2, c3], _ =>
    have h0 := h (3, 0) (by simp)
    have h1 := h (3, 1) (by simp)
    have h2 := h (4, 2) (by simp)
    have h3 := h (4, 3) (by simp)
    clear h
    simp only [c3_, c4_, List.drop, List.take] at h0 h1 h2 h3
    obtain ⟨z0, e0, b0⟩ := WTc_int (k := .i64) i3_ h0
    obtain ⟨z1, e1, b1⟩ := WTc_int (k := .i64) i3_ h1
    obtain ⟨z2, e2⟩ := WTc_bool d4_ h2
    obtain ⟨z3, e3⟩ := WTc_bool d4_ h3
    simp only [List.cons.injEq, and_true] at e0
    subst e0
    simp only [List.cons.injEq, and_true] at e1
    subst e1
    simp only [List.cons.injEq, and_true] at e2
    subst e2
    simp only [List.cons.injEq, and_true] at e3
    subst e3
    exact ⟨⟨z0, z1, z2, z3⟩, rfl, b0, b1⟩

/-! types: TReady 47, TStore 26, TAct 43 -/
end Go.Proofs.Ytmnpiibjjamjiaa
