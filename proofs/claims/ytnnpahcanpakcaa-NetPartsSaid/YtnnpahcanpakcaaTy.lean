/- The types of the chapter, as Lean's own, and how they lie in memory. -/
import Derived.Test.YtnnpahcanpakcaaAlFacts
namespace Go.Proofs.Ytnnpahcanpakcaa
open Go.AL
structure TEvent where
  fTime : Int
  fPrio : Int
  fFrom : Int
  fSeq : Int
  fSite : Int
  fKind : Int
  fA : Int
  fB : Int
  fArgs : List Int
  deriving DecidableEq
@[simp] def TEvent.cells (x : TEvent) : List A := [A.int .i64 x.fTime, A.int .i64 x.fPrio, A.int .i64 x.fFrom, A.int .i64 x.fSeq, A.int .i64 x.fSite, A.int .i64 x.fKind, A.int .i64 x.fA, A.int .i64 x.fB, Ls false x.fArgs]
instance : Enc TEvent := ⟨fun x => .agg x.cells, 9, fun x => by simp, fun x => by simp, fun x => by simp, by decide⟩
@[simp] theorem enc_TEvent (x : TEvent) : Enc.enc x = A.agg x.cells := rfl
@[simp] theorem sz_TEvent : Enc.sz TEvent = 9 := rfl
def TEvent.ok (x : TEvent) : Prop := ((Lit.int .i64 x.fTime).wf = true) ∧ ((Lit.int .i64 x.fPrio).wf = true) ∧ ((Lit.int .i64 x.fFrom).wf = true) ∧ ((Lit.int .i64 x.fSeq).wf = true) ∧ ((Lit.int .i64 x.fSite).wf = true) ∧ ((Lit.int .i64 x.fKind).wf = true) ∧ ((Lit.int .i64 x.fA).wf = true) ∧ ((Lit.int .i64 x.fB).wf = true) ∧ (x.fArgs.length ≤ 9223372036854775807 ∧ ∀ y0 ∈ x.fArgs, (Lit.int .i64 y0).wf = true)
theorem wt_TEvent {P : Program} [h : Facts P] {n : Nat} {cs : List A} (h : WTc P n 36 cs) : ∃ x : TEvent, cs = x.cells ∧ x.ok := by
  obtain ⟨m, rfl, hl, h⟩ := WTc_struct w36_ h
  rw [c36_] at hl
  match cs, hl with
  | [c0, c1, c2, c3, c4, c5, c6, c7, c8], _ =>
    have h0 := h (3, 0) (by simp)
    have h1 := h (3, 1) (by simp)
    have h2 := h (3, 2) (by simp)
    have h3 := h (3, 3) (by simp)
    have h4 := h (3, 4) (by simp)
    have h5 := h (34, 5) (by simp)
    have h6 := h (3, 6) (by simp)
    have h7 := h (3, 7) (by simp)
    have h8 := h (22, 8) (by simp)
    clear h
    simp only [c22_, c34_, c3_, List.drop, List.take] at h0 h1 h2 h3 h4 h5 h6 h7 h8
    obtain ⟨z0, e0, b0⟩ := WTc_int (k := .i64) i3_ h0
    obtain ⟨z1, e1, b1⟩ := WTc_int (k := .i64) i3_ h1
    obtain ⟨z2, e2, b2⟩ := WTc_int (k := .i64) i3_ h2
    obtain ⟨z3, e3, b3⟩ := WTc_int (k := .i64) i3_ h3
    obtain ⟨z4, e4, b4⟩ := WTc_int (k := .i64) i3_ h4
    obtain ⟨z5, e5, b5⟩ := WTc_int (k := .i64) i34_ h5
    obtain ⟨z6, e6, b6⟩ := WTc_int (k := .i64) i3_ h6
    obtain ⟨z7, e7, b7⟩ := WTc_int (k := .i64) i3_ h7
    obtain ⟨z8, e8, b8, q8⟩ := WTc_slice (α := Int) (Q := (fun y => (Lit.int .i64 y).wf = true)) s22_ (fun m cs _ h => by
      rw [l22_] at h ⊢
      obtain ⟨z, rfl, b⟩ := WTc_int (k := .i64) i3_ h
      exact ⟨z, pack_one a3_, b⟩) h8
    simp only [List.cons.injEq, and_true] at e0
    subst e0
    simp only [List.cons.injEq, and_true] at e1
    subst e1
    simp only [List.cons.injEq, and_true] at e2
    subst e2
    simp only [List.cons.injEq, and_true] at e3
    subst e3
    simp only [List.cons.injEq, and_true] at e4
    subst e4
    simp only [List.cons.injEq, and_true] at e5
    subst e5
    simp only [List.cons.injEq, and_true] at e6
    subst e6
    simp only [List.cons.injEq, and_true] at e7
    subst e7
    simp only [List.cons.injEq, and_true] at e8
    subst e8
    exact ⟨⟨z0, z1, z2, z3, z4, z5, z6, z7, z8⟩, rfl, b0, b1, b2, b3, b4, b5, b6, b7, ⟨b8, q8⟩⟩

structure TMsg where
  fFrom : Int
  fTo : Int
  fArrive : Int
  fEvent : TEvent
  fAnti : Bool
  fNull : Bool
  fBound : Int
  deriving DecidableEq
@[simp] def TMsg.cells (x : TMsg) : List A := [A.int .i64 x.fFrom, A.int .i64 x.fTo, A.int .i64 x.fArrive] ++ x.fEvent.cells ++ [A.bool x.fAnti, A.bool x.fNull, A.int .i64 x.fBound]
instance : Enc TMsg := ⟨fun x => .agg x.cells, 15, fun x => by simp, fun x => by simp, fun x => by simp, by decide⟩
@[simp] theorem enc_TMsg (x : TMsg) : Enc.enc x = A.agg x.cells := rfl
@[simp] theorem sz_TMsg : Enc.sz TMsg = 15 := rfl
def TMsg.ok (x : TMsg) : Prop := ((Lit.int .i64 x.fFrom).wf = true) ∧ ((Lit.int .i64 x.fTo).wf = true) ∧ ((Lit.int .i64 x.fArrive).wf = true) ∧ (x.fEvent.ok) ∧ ((Lit.int .i64 x.fBound).wf = true)
theorem wt_TMsg {P : Program} [h : Facts P] {n : Nat} {cs : List A} (h : WTc P n 38 cs) : ∃ x : TMsg, cs = x.cells ∧ x.ok := by
  obtain ⟨m, rfl, hl, h⟩ := WTc_struct w38_ h
  rw [c38_] at hl
  match cs, hl with
  | [c0, c1, c2, c3, c4, c5, c6, c7, c8, c9, c10, c11, c12, c13, c14], _ =>
    have h0 := h (3, 0) (by simp)
    have h1 := h (3, 1) (by simp)
    have h2 := h (3, 2) (by simp)
    have h3 := h (36, 3) (by simp)
    have h4 := h (4, 12) (by simp)
    have h5 := h (4, 13) (by simp)
    have h6 := h (3, 14) (by simp)
    clear h
    simp only [c36_, c3_, c4_, List.drop, List.take] at h0 h1 h2 h3 h4 h5 h6
    obtain ⟨z0, e0, b0⟩ := WTc_int (k := .i64) i3_ h0
    obtain ⟨z1, e1, b1⟩ := WTc_int (k := .i64) i3_ h1
    obtain ⟨z2, e2, b2⟩ := WTc_int (k := .i64) i3_ h2
    obtain ⟨z3, e3, b3⟩ := wt_TEvent h3
    obtain ⟨z4, e4⟩ := WTc_bool d4_ h4
    obtain ⟨z5, e5⟩ := WTc_bool d4_ h5
    obtain ⟨z6, e6, b6⟩ := WTc_int (k := .i64) i3_ h6
    simp only [List.cons.injEq, and_true] at e0
    subst e0
    simp only [List.cons.injEq, and_true] at e1
    subst e1
    simp only [List.cons.injEq, and_true] at e2
    subst e2
    simp only [TEvent.cells, List.cons_append, List.nil_append, List.cons.injEq, and_true] at e3
    obtain ⟨rfl, rfl, rfl, rfl, rfl, rfl, rfl, rfl, rfl⟩ := e3
    simp only [List.cons.injEq, and_true] at e4
    subst e4
    simp only [List.cons.injEq, and_true] at e5
    subst e5
    simp only [List.cons.injEq, and_true] at e6
    subst e6
    exact ⟨⟨z0, z1, z2, z3, z4, z5, z6⟩, rfl, b0, b1, b2, b3, b6⟩

structure TNet where
  fDelays : List Int
  fUsed : Int
  fMsgs : List TMsg
  deriving DecidableEq
@[simp] def TNet.cells (x : TNet) : List A := [Ls false x.fDelays, A.int .i64 x.fUsed, Ls false x.fMsgs]
instance : Enc TNet := ⟨fun x => .agg x.cells, 3, fun x => by simp, fun x => by simp, fun x => by simp, by decide⟩
@[simp] theorem enc_TNet (x : TNet) : Enc.enc x = A.agg x.cells := rfl
@[simp] theorem sz_TNet : Enc.sz TNet = 3 := rfl
def TNet.ok (x : TNet) : Prop := (x.fDelays.length ≤ 9223372036854775807 ∧ ∀ y0 ∈ x.fDelays, (Lit.int .i64 y0).wf = true) ∧ ((Lit.int .i64 x.fUsed).wf = true) ∧ (x.fMsgs.length ≤ 9223372036854775807 ∧ ∀ y0 ∈ x.fMsgs, y0.ok)
theorem wt_TNet {P : Program} [h : Facts P] {n : Nat} {cs : List A} (h : WTc P n 25 cs) : ∃ x : TNet, cs = x.cells ∧ x.ok := by
  obtain ⟨m, rfl, hl, h⟩ := WTc_struct w25_ h
  rw [c25_] at hl
  match cs, hl with
  | [c0, c1, c2], _ =>
    have h0 := h (22, 0) (by simp)
    have h1 := h (3, 1) (by simp)
    have h2 := h (23, 2) (by simp)
    clear h
    simp only [c22_, c23_, c3_, List.drop, List.take] at h0 h1 h2
    obtain ⟨z0, e0, b0, q0⟩ := WTc_slice (α := Int) (Q := (fun y => (Lit.int .i64 y).wf = true)) s22_ (fun m cs _ h => by
      rw [l22_] at h ⊢
      obtain ⟨z, rfl, b⟩ := WTc_int (k := .i64) i3_ h
      exact ⟨z, pack_one a3_, b⟩) h0
    obtain ⟨z1, e1, b1⟩ := WTc_int (k := .i64) i3_ h1
    obtain ⟨z2, e2, b2, q2⟩ := WTc_slice (α := TMsg) (Q := (fun y => y.ok)) s23_ (fun m cs _ h => by
      rw [l23_] at h ⊢
      obtain ⟨x, rfl, b⟩ := wt_TMsg h
      exact ⟨x, pack_agg a38_, b⟩) h2
    simp only [List.cons.injEq, and_true] at e0
    subst e0
    simp only [List.cons.injEq, and_true] at e1
    subst e1
    simp only [List.cons.injEq, and_true] at e2
    subst e2
    exact ⟨⟨z0, z1, z2⟩, rfl, ⟨b0, q0⟩, b1, ⟨b2, q2⟩⟩

structure TOp where
  fSends : Bool
  fNear : Bool
  fFrom : Int
  fTo : Int
  deriving DecidableEq
@[simp] def TOp.cells (x : TOp) : List A := [A.bool x.fSends, A.bool x.fNear, A.int .i64 x.fFrom, A.int .i64 x.fTo]
instance : Enc TOp := ⟨fun x => .agg x.cells, 4, fun x => by simp, fun x => by simp, fun x => by simp, by decide⟩
@[simp] theorem enc_TOp (x : TOp) : Enc.enc x = A.agg x.cells := rfl
@[simp] theorem sz_TOp : Enc.sz TOp = 4 := rfl
def TOp.ok (x : TOp) : Prop := ((Lit.int .i64 x.fFrom).wf = true) ∧ ((Lit.int .i64 x.fTo).wf = true)
theorem wt_TOp {P : Program} [h : Facts P] {n : Nat} {cs : List A} (h : WTc P n 51 cs) : ∃ x : TOp, cs = x.cells ∧ x.ok := by
  obtain ⟨m, rfl, hl, h⟩ := WTc_struct w51_ h
  rw [c51_] at hl
  match cs, hl with
  | [c0, c1, c2, c3], _ =>
    have h0 := h (4, 0) (by simp)
    have h1 := h (4, 1) (by simp)
    have h2 := h (3, 2) (by simp)
    have h3 := h (3, 3) (by simp)
    clear h
    simp only [c3_, c4_, List.drop, List.take] at h0 h1 h2 h3
    obtain ⟨z0, e0⟩ := WTc_bool d4_ h0
    obtain ⟨z1, e1⟩ := WTc_bool d4_ h1
    obtain ⟨z2, e2, b2⟩ := WTc_int (k := .i64) i3_ h2
    obtain ⟨z3, e3, b3⟩ := WTc_int (k := .i64) i3_ h3
    simp only [List.cons.injEq, and_true] at e0
    subst e0
    simp only [List.cons.injEq, and_true] at e1
    subst e1
    simp only [List.cons.injEq, and_true] at e2
    subst e2
    simp only [List.cons.injEq, and_true] at e3
    subst e3
    exact ⟨⟨z0, z1, z2, z3⟩, rfl, b2, b3⟩

/-! types: TEvent 36, TMsg 38, TNet 25, TOp 51 -/
end Go.Proofs.Ytnnpahcanpakcaa
