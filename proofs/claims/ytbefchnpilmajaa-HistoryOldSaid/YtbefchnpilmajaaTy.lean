/- Chapter 37: the types, as Lean's own, and how they lie in memory. -/
import Derived.Test.YtbefchnpilmajaaAlFacts
namespace Go.Proofs.Ytbefchnpilmajaa
open Go.AL
structure TEvent where
  fTime : Int
  fPrio : Int
  fFrom : Int
  fSeq : Int
  fSite : Int
  fKind : Int
  fA : Int
  fB : Int
  fArgs : List Int
@[simp] def TEvent.cells (x : TEvent) : List A := [A.int .i64 x.fTime, A.int .i64 x.fPrio, A.int .i64 x.fFrom, A.int .i64 x.fSeq, A.int .i64 x.fSite, A.int .i64 x.fKind, A.int .i64 x.fA, A.int .i64 x.fB, Ls false x.fArgs]
instance : Enc TEvent := ⟨fun x => .agg x.cells, 9, fun x => by simp, fun x => by simp, fun x => by simp, by decide⟩
@[simp] theorem enc_TEvent (x : TEvent) : Enc.enc x = A.agg x.cells := rfl
@[simp] theorem sz_TEvent : Enc.sz TEvent = 9 := rfl
def TEvent.ok (x : TEvent) : Prop := ((Lit.int .i64 x.fTime).wf = true) ∧ ((Lit.int .i64 x.fPrio).wf = true) ∧ ((Lit.int .i64 x.fFrom).wf = true) ∧ ((Lit.int .i64 x.fSeq).wf = true) ∧ ((Lit.int .i64 x.fSite).wf = true) ∧ ((Lit.int .i64 x.fKind).wf = true) ∧ ((Lit.int .i64 x.fA).wf = true) ∧ ((Lit.int .i64 x.fB).wf = true) ∧ (x.fArgs.length ≤ 9223372036854775807 ∧ ∀ y0 ∈ x.fArgs, (Lit.int .i64 y0).wf = true)
theorem wt_TEvent {P : Program} [h : Facts P] {n : Nat} {cs : List A} (h : WTc P n 26 cs) : ∃ x : TEvent, cs = x.cells ∧ x.ok := by
  obtain ⟨m, rfl, hl, h⟩ := WTc_struct w26_ h
  rw [c26_] at hl
  match cs, hl with
  | [c0, c1, c2, c3, c4, c5, c6, c7, c8], _ =>
    have h0 := h (3, 0) (by simp)
    have h1 := h (3, 1) (by simp)
    have h2 := h (3, 2) (by simp)
    have h3 := h (3, 3) (by simp)
    have h4 := h (3, 4) (by simp)
    have h5 := h (23, 5) (by simp)
    have h6 := h (3, 6) (by simp)
    have h7 := h (3, 7) (by simp)
    have h8 := h (24, 8) (by simp)
    clear h
    simp only [c23_, c24_, c3_, List.drop, List.take] at h0 h1 h2 h3 h4 h5 h6 h7 h8
    obtain ⟨z0, e0, b0⟩ := WTc_int (k := .i64) i3_ h0
    obtain ⟨z1, e1, b1⟩ := WTc_int (k := .i64) i3_ h1
    obtain ⟨z2, e2, b2⟩ := WTc_int (k := .i64) i3_ h2
    obtain ⟨z3, e3, b3⟩ := WTc_int (k := .i64) i3_ h3
    obtain ⟨z4, e4, b4⟩ := WTc_int (k := .i64) i3_ h4
    obtain ⟨z5, e5, b5⟩ := WTc_int (k := .i64) i23_ h5
    obtain ⟨z6, e6, b6⟩ := WTc_int (k := .i64) i3_ h6
    obtain ⟨z7, e7, b7⟩ := WTc_int (k := .i64) i3_ h7
    obtain ⟨z8, e8, b8, q8⟩ := WTc_slice (α := Int) (Q := (fun y => (Lit.int .i64 y).wf = true)) s24_ (fun m cs _ h => by
      rw [l24_] at h ⊢
      obtain ⟨z, rfl, b⟩ := WTc_int (k := .i64) i3_ h
      exact ⟨z, pack_one a3_, b⟩) h8
    simp only [List.cons.injEq, and_true] at e0
    subst e0
    simp only [List.cons.injEq, and_true] at e1
    subst e1
    simp only [List.cons.injEq, and_true] at e2
    subst e2
    simp only [List.cons.injEq, and_true] at e3
    subst e3
    simp only [List.cons.injEq, and_true] at e4
    subst e4
    simp only [List.cons.injEq, and_true] at e5
    subst e5
    simp only [List.cons.injEq, and_true] at e6
    subst e6
    simp only [List.cons.injEq, and_true] at e7
    subst e7
    simp only [List.cons.injEq, and_true] at e8
    subst e8
    exact ⟨⟨z0, z1, z2, z3, z4, z5, z6, z7, z8⟩, rfl, b0, b1, b2, b3, b4, b5, b6, b7, ⟨b8, q8⟩⟩

structure TProc where
  fId : Int
  fRoutine : Int
  fPc : Int
  fSlots : List Int
  fStatus : Int
  fBorn : Int
  fLeft : Int
@[simp] def TProc.cells (x : TProc) : List A := [A.int .i64 x.fId, A.int .i64 x.fRoutine, A.int .i64 x.fPc, Ls false x.fSlots, A.int .i64 x.fStatus, A.int .i64 x.fBorn, A.int .i64 x.fLeft]
instance : Enc TProc := ⟨fun x => .agg x.cells, 7, fun x => by simp, fun x => by simp, fun x => by simp, by decide⟩
@[simp] theorem enc_TProc (x : TProc) : Enc.enc x = A.agg x.cells := rfl
@[simp] theorem sz_TProc : Enc.sz TProc = 7 := rfl
def TProc.ok (x : TProc) : Prop := ((Lit.int .i64 x.fId).wf = true) ∧ ((Lit.int .i64 x.fRoutine).wf = true) ∧ ((Lit.int .i64 x.fPc).wf = true) ∧ (x.fSlots.length ≤ 9223372036854775807 ∧ ∀ y0 ∈ x.fSlots, (Lit.int .i64 y0).wf = true) ∧ ((Lit.int .i64 x.fStatus).wf = true) ∧ ((Lit.int .i64 x.fBorn).wf = true) ∧ ((Lit.int .i64 x.fLeft).wf = true)
theorem wt_TProc {P : Program} [h : Facts P] {n : Nat} {cs : List A} (h : WTc P n 76 cs) : ∃ x : TProc, cs = x.cells ∧ x.ok := by
  obtain ⟨m, rfl, hl, h⟩ := WTc_struct w76_ h
  rw [c76_] at hl
  match cs, hl with
  | [c0, c1, c2, c3, c4, c5, c6], _ =>
    have h0 := h (3, 0) (by simp)
    have h1 := h (3, 1) (by simp)
    have h2 := h (3, 2) (by simp)
    have h3 := h (24, 3) (by simp)
    have h4 := h (74, 4) (by simp)
    have h5 := h (3, 5) (by simp)
    have h6 := h (3, 6) (by simp)
    clear h
    simp only [c24_, c3_, c74_, List.drop, List.take] at h0 h1 h2 h3 h4 h5 h6
    obtain ⟨z0, e0, b0⟩ := WTc_int (k := .i64) i3_ h0
    obtain ⟨z1, e1, b1⟩ := WTc_int (k := .i64) i3_ h1
    obtain ⟨z2, e2, b2⟩ := WTc_int (k := .i64) i3_ h2
    obtain ⟨z3, e3, b3, q3⟩ := WTc_slice (α := Int) (Q := (fun y => (Lit.int .i64 y).wf = true)) s24_ (fun m cs _ h => by
      rw [l24_] at h ⊢
      obtain ⟨z, rfl, b⟩ := WTc_int (k := .i64) i3_ h
      exact ⟨z, pack_one a3_, b⟩) h3
    obtain ⟨z4, e4, b4⟩ := WTc_int (k := .i64) i74_ h4
    obtain ⟨z5, e5, b5⟩ := WTc_int (k := .i64) i3_ h5
    obtain ⟨z6, e6, b6⟩ := WTc_int (k := .i64) i3_ h6
    simp only [List.cons.injEq, and_true] at e0
    subst e0
    simp only [List.cons.injEq, and_true] at e1
    subst e1
    simp only [List.cons.injEq, and_true] at e2
    subst e2
    simp only [List.cons.injEq, and_true] at e3
    subst e3
    simp only [List.cons.injEq, and_true] at e4
    subst e4
    simp only [List.cons.injEq, and_true] at e5
    subst e5
    simp only [List.cons.injEq, and_true] at e6
    subst e6
    exact ⟨⟨z0, z1, z2, z3, z4, z5, z6⟩, rfl, b0, b1, b2, ⟨b3, q3⟩, b4, b5, b6⟩

structure TClaim where
  fProc : Int
  fUnits : Int
  fPrio : Int
  fSeq : Int
  fPreempt : Bool
@[simp] def TClaim.cells (x : TClaim) : List A := [A.int .i64 x.fProc, A.int .i64 x.fUnits, A.int .i64 x.fPrio, A.int .i64 x.fSeq, A.bool x.fPreempt]
instance : Enc TClaim := ⟨fun x => .agg x.cells, 5, fun x => by simp, fun x => by simp, fun x => by simp, by decide⟩
@[simp] theorem enc_TClaim (x : TClaim) : Enc.enc x = A.agg x.cells := rfl
@[simp] theorem sz_TClaim : Enc.sz TClaim = 5 := rfl
def TClaim.ok (x : TClaim) : Prop := ((Lit.int .i64 x.fProc).wf = true) ∧ ((Lit.int .i64 x.fUnits).wf = true) ∧ ((Lit.int .i64 x.fPrio).wf = true) ∧ ((Lit.int .i64 x.fSeq).wf = true)
theorem wt_TClaim {P : Program} [h : Facts P] {n : Nat} {cs : List A} (h : WTc P n 105 cs) : ∃ x : TClaim, cs = x.cells ∧ x.ok := by
  obtain ⟨m, rfl, hl, h⟩ := WTc_struct w105_ h
  rw [c105_] at hl
  match cs, hl with
  | [c0, c1, c2, c3, c4], _ =>
    have h0 := h (3, 0) (by simp)
    have h1 := h (3, 1) (by simp)
    have h2 := h (3, 2) (by simp)
    have h3 := h (3, 3) (by simp)
    have h4 := h (4, 4) (by simp)
    clear h
    simp only [c3_, c4_, List.drop, List.take] at h0 h1 h2 h3 h4
    obtain ⟨z0, e0, b0⟩ := WTc_int (k := .i64) i3_ h0
    obtain ⟨z1, e1, b1⟩ := WTc_int (k := .i64) i3_ h1
    obtain ⟨z2, e2, b2⟩ := WTc_int (k := .i64) i3_ h2
    obtain ⟨z3, e3, b3⟩ := WTc_int (k := .i64) i3_ h3
    obtain ⟨z4, e4⟩ := WTc_bool d4_ h4
    simp only [List.cons.injEq, and_true] at e0
    subst e0
    simp only [List.cons.injEq, and_true] at e1
    subst e1
    simp only [List.cons.injEq, and_true] at e2
    subst e2
    simp only [List.cons.injEq, and_true] at e3
    subst e3
    simp only [List.cons.injEq, and_true] at e4
    subst e4
    exact ⟨⟨z0, z1, z2, z3, z4⟩, rfl, b0, b1, b2, b3⟩

structure TResource where
  fUnits : Int
  fDown : Bool
  fHolders : List TClaim
  fQueue : List TClaim
  fNext : Int
@[simp] def TResource.cells (x : TResource) : List A := [A.int .i64 x.fUnits, A.bool x.fDown, Ls false x.fHolders, Ls false x.fQueue, A.int .i64 x.fNext]
instance : Enc TResource := ⟨fun x => .agg x.cells, 5, fun x => by simp, fun x => by simp, fun x => by simp, by decide⟩
@[simp] theorem enc_TResource (x : TResource) : Enc.enc x = A.agg x.cells := rfl
@[simp] theorem sz_TResource : Enc.sz TResource = 5 := rfl
def TResource.ok (x : TResource) : Prop := ((Lit.int .i64 x.fUnits).wf = true) ∧ (x.fHolders.length ≤ 9223372036854775807 ∧ ∀ y0 ∈ x.fHolders, y0.ok) ∧ (x.fQueue.length ≤ 9223372036854775807 ∧ ∀ y0 ∈ x.fQueue, y0.ok) ∧ ((Lit.int .i64 x.fNext).wf = true)
theorem wt_TResource {P : Program} [h : Facts P] {n : Nat} {cs : List A} (h : WTc P n 80 cs) : ∃ x : TResource, cs = x.cells ∧ x.ok := by
  obtain ⟨m, rfl, hl, h⟩ := WTc_struct w80_ h
  rw [c80_] at hl
  match cs, hl with
  | [c0, c1, c2, c3, c4], _ =>
    have h0 := h (3, 0) (by simp)
    have h1 := h (4, 1) (by simp)
    have h2 := h (78, 2) (by simp)
    have h3 := h (78, 3) (by simp)
    have h4 := h (3, 4) (by simp)
    clear h
    simp only [c3_, c4_, c78_, List.drop, List.take] at h0 h1 h2 h3 h4
    obtain ⟨z0, e0, b0⟩ := WTc_int (k := .i64) i3_ h0
    obtain ⟨z1, e1⟩ := WTc_bool d4_ h1
    obtain ⟨z2, e2, b2, q2⟩ := WTc_slice (α := TClaim) (Q := (fun y => y.ok)) s78_ (fun m cs _ h => by
      rw [l78_] at h ⊢
      obtain ⟨x, rfl, b⟩ := wt_TClaim h
      exact ⟨x, pack_agg a105_, b⟩) h2
    obtain ⟨z3, e3, b3, q3⟩ := WTc_slice (α := TClaim) (Q := (fun y => y.ok)) s78_ (fun m cs _ h => by
      rw [l78_] at h ⊢
      obtain ⟨x, rfl, b⟩ := wt_TClaim h
      exact ⟨x, pack_agg a105_, b⟩) h3
    obtain ⟨z4, e4, b4⟩ := WTc_int (k := .i64) i3_ h4
    simp only [List.cons.injEq, and_true] at e0
    subst e0
    simp only [List.cons.injEq, and_true] at e1
    subst e1
    simp only [List.cons.injEq, and_true] at e2
    subst e2
    simp only [List.cons.injEq, and_true] at e3
    subst e3
    simp only [List.cons.injEq, and_true] at e4
    subst e4
    exact ⟨⟨z0, z1, z2, z3, z4⟩, rfl, b0, ⟨b2, q2⟩, ⟨b3, q3⟩, b4⟩

structure TReady where
  fProc : Int
  fItem : Int
@[simp] def TReady.cells (x : TReady) : List A := [A.int .i64 x.fProc, A.int .i64 x.fItem]
instance : Enc TReady := ⟨fun x => .agg x.cells, 2, fun x => by simp, fun x => by simp, fun x => by simp, by decide⟩
@[simp] theorem enc_TReady (x : TReady) : Enc.enc x = A.agg x.cells := rfl
@[simp] theorem sz_TReady : Enc.sz TReady = 2 := rfl
def TReady.ok (x : TReady) : Prop := ((Lit.int .i64 x.fProc).wf = true) ∧ ((Lit.int .i64 x.fItem).wf = true)
theorem wt_TReady {P : Program} [h : Facts P] {n : Nat} {cs : List A} (h : WTc P n 101 cs) : ∃ x : TReady, cs = x.cells ∧ x.ok := by
  obtain ⟨m, rfl, hl, h⟩ := WTc_struct w101_ h
  rw [c101_] at hl
  match cs, hl with
  | [c0, c1], _ =>
    have h0 := h (3, 0) (by simp)
    have h1 := h (3, 1) (by simp)
    clear h
    simp only [c3_, List.drop, List.take] at h0 h1
    obtain ⟨z0, e0, b0⟩ := WTc_int (k := .i64) i3_ h0
    obtain ⟨z1, e1, b1⟩ := WTc_int (k := .i64) i3_ h1
    simp only [List.cons.injEq, and_true] at e0
    subst e0
    simp only [List.cons.injEq, and_true] at e1
    subst e1
    exact ⟨⟨z0, z1⟩, rfl, b0, b1⟩

structure TStore where
  fRoom : Int
  fPolicy : Int
  fItems : List Int
  fPutters : List TReady
  fGetters : List Int
  fIn : Int
  fOut : Int
@[simp] def TStore.cells (x : TStore) : List A := [A.int .i64 x.fRoom, A.int .i64 x.fPolicy, Ls false x.fItems, Ls false x.fPutters, Ls false x.fGetters, A.int .i64 x.fIn, A.int .i64 x.fOut]
instance : Enc TStore := ⟨fun x => .agg x.cells, 7, fun x => by simp, fun x => by simp, fun x => by simp, by decide⟩
@[simp] theorem enc_TStore (x : TStore) : Enc.enc x = A.agg x.cells := rfl
@[simp] theorem sz_TStore : Enc.sz TStore = 7 := rfl
def TStore.ok (x : TStore) : Prop := ((Lit.int .i64 x.fRoom).wf = true) ∧ ((Lit.int .i64 x.fPolicy).wf = true) ∧ (x.fItems.length ≤ 9223372036854775807 ∧ ∀ y0 ∈ x.fItems, (Lit.int .i64 y0).wf = true) ∧ (x.fPutters.length ≤ 9223372036854775807 ∧ ∀ y0 ∈ x.fPutters, y0.ok) ∧ (x.fGetters.length ≤ 9223372036854775807 ∧ ∀ y0 ∈ x.fGetters, (Lit.int .i64 y0).wf = true) ∧ ((Lit.int .i64 x.fIn).wf = true) ∧ ((Lit.int .i64 x.fOut).wf = true)
theorem wt_TStore {P : Program} [h : Facts P] {n : Nat} {cs : List A} (h : WTc P n 85 cs) : ∃ x : TStore, cs = x.cells ∧ x.ok := by
  obtain ⟨m, rfl, hl, h⟩ := WTc_struct w85_ h
  rw [c85_] at hl
  match cs, hl with
  | [c0, c1, c2, c3, c4, c5, c6], _ =>
    have h0 := h (3, 0) (by simp)
    have h1 := h (82, 1) (by simp)
    have h2 := h (24, 2) (by simp)
    have h3 := h (83, 3) (by simp)
    have h4 := h (24, 4) (by simp)
    have h5 := h (3, 5) (by simp)
    have h6 := h (3, 6) (by simp)
    clear h
    simp only [c24_, c3_, c82_, c83_, List.drop, List.take] at h0 h1 h2 h3 h4 h5 h6
    obtain ⟨z0, e0, b0⟩ := WTc_int (k := .i64) i3_ h0
    obtain ⟨z1, e1, b1⟩ := WTc_int (k := .i64) i82_ h1
    obtain ⟨z2, e2, b2, q2⟩ := WTc_slice (α := Int) (Q := (fun y => (Lit.int .i64 y).wf = true)) s24_ (fun m cs _ h => by
      rw [l24_] at h ⊢
      obtain ⟨z, rfl, b⟩ := WTc_int (k := .i64) i3_ h
      exact ⟨z, pack_one a3_, b⟩) h2
    obtain ⟨z3, e3, b3, q3⟩ := WTc_slice (α := TReady) (Q := (fun y => y.ok)) s83_ (fun m cs _ h => by
      rw [l83_] at h ⊢
      obtain ⟨x, rfl, b⟩ := wt_TReady h
      exact ⟨x, pack_agg a101_, b⟩) h3
    obtain ⟨z4, e4, b4, q4⟩ := WTc_slice (α := Int) (Q := (fun y => (Lit.int .i64 y).wf = true)) s24_ (fun m cs _ h => by
      rw [l24_] at h ⊢
      obtain ⟨z, rfl, b⟩ := WTc_int (k := .i64) i3_ h
      exact ⟨z, pack_one a3_, b⟩) h4
    obtain ⟨z5, e5, b5⟩ := WTc_int (k := .i64) i3_ h5
    obtain ⟨z6, e6, b6⟩ := WTc_int (k := .i64) i3_ h6
    simp only [List.cons.injEq, and_true] at e0
    subst e0
    simp only [List.cons.injEq, and_true] at e1
    subst e1
    simp only [List.cons.injEq, and_true] at e2
    subst e2
    simp only [List.cons.injEq, and_true] at e3
    subst e3
    simp only [List.cons.injEq, and_true] at e4
    subst e4
    simp only [List.cons.injEq, and_true] at e5
    subst e5
    simp only [List.cons.injEq, and_true] at e6
    subst e6
    exact ⟨⟨z0, z1, z2, z3, z4, z5, z6⟩, rfl, b0, b1, ⟨b2, q2⟩, ⟨b3, q3⟩, ⟨b4, q4⟩, b5, b6⟩

structure TRider where
  fProc : Int
  fEntry : Int
  fExit : Int
@[simp] def TRider.cells (x : TRider) : List A := [A.int .i64 x.fProc, A.int .i64 x.fEntry, A.int .i64 x.fExit]
instance : Enc TRider := ⟨fun x => .agg x.cells, 3, fun x => by simp, fun x => by simp, fun x => by simp, by decide⟩
@[simp] theorem enc_TRider (x : TRider) : Enc.enc x = A.agg x.cells := rfl
@[simp] theorem sz_TRider : Enc.sz TRider = 3 := rfl
def TRider.ok (x : TRider) : Prop := ((Lit.int .i64 x.fProc).wf = true) ∧ ((Lit.int .i64 x.fEntry).wf = true) ∧ ((Lit.int .i64 x.fExit).wf = true)
theorem wt_TRider {P : Program} [h : Facts P] {n : Nat} {cs : List A} (h : WTc P n 103 cs) : ∃ x : TRider, cs = x.cells ∧ x.ok := by
  obtain ⟨m, rfl, hl, h⟩ := WTc_struct w103_ h
  rw [c103_] at hl
  match cs, hl with
  | [c0, c1, c2], _ =>
    have h0 := h (3, 0) (by simp)
    have h1 := h (3, 1) (by simp)
    have h2 := h (3, 2) (by simp)
    clear h
    simp only [c3_, List.drop, List.take] at h0 h1 h2
    obtain ⟨z0, e0, b0⟩ := WTc_int (k := .i64) i3_ h0
    obtain ⟨z1, e1, b1⟩ := WTc_int (k := .i64) i3_ h1
    obtain ⟨z2, e2, b2⟩ := WTc_int (k := .i64) i3_ h2
    simp only [List.cons.injEq, and_true] at e0
    subst e0
    simp only [List.cons.injEq, and_true] at e1
    subst e1
    simp only [List.cons.injEq, and_true] at e2
    subst e2
    exact ⟨⟨z0, z1, z2⟩, rfl, b0, b1, b2⟩

structure TBelt where
  fLength : Int
  fStep : Int
  fRiders : List TRider
  fLast : Int
@[simp] def TBelt.cells (x : TBelt) : List A := [A.int .i64 x.fLength, A.int .i64 x.fStep, Ls false x.fRiders, A.int .i64 x.fLast]
instance : Enc TBelt := ⟨fun x => .agg x.cells, 4, fun x => by simp, fun x => by simp, fun x => by simp, by decide⟩
@[simp] theorem enc_TBelt (x : TBelt) : Enc.enc x = A.agg x.cells := rfl
@[simp] theorem sz_TBelt : Enc.sz TBelt = 4 := rfl
def TBelt.ok (x : TBelt) : Prop := ((Lit.int .i64 x.fLength).wf = true) ∧ ((Lit.int .i64 x.fStep).wf = true) ∧ (x.fRiders.length ≤ 9223372036854775807 ∧ ∀ y0 ∈ x.fRiders, y0.ok) ∧ ((Lit.int .i64 x.fLast).wf = true)
theorem wt_TBelt {P : Program} [h : Facts P] {n : Nat} {cs : List A} (h : WTc P n 89 cs) : ∃ x : TBelt, cs = x.cells ∧ x.ok := by
  obtain ⟨m, rfl, hl, h⟩ := WTc_struct w89_ h
  rw [c89_] at hl
  match cs, hl with
  | [c0, c1, c2, c3], _ =>
    have h0 := h (3, 0) (by simp)
    have h1 := h (3, 1) (by simp)
    have h2 := h (87, 2) (by simp)
    have h3 := h (3, 3) (by simp)
    clear h
    simp only [c3_, c87_, List.drop, List.take] at h0 h1 h2 h3
    obtain ⟨z0, e0, b0⟩ := WTc_int (k := .i64) i3_ h0
    obtain ⟨z1, e1, b1⟩ := WTc_int (k := .i64) i3_ h1
    obtain ⟨z2, e2, b2, q2⟩ := WTc_slice (α := TRider) (Q := (fun y => y.ok)) s87_ (fun m cs _ h => by
      rw [l87_] at h ⊢
      obtain ⟨x, rfl, b⟩ := wt_TRider h
      exact ⟨x, pack_agg a103_, b⟩) h2
    obtain ⟨z3, e3, b3⟩ := WTc_int (k := .i64) i3_ h3
    simp only [List.cons.injEq, and_true] at e0
    subst e0
    simp only [List.cons.injEq, and_true] at e1
    subst e1
    simp only [List.cons.injEq, and_true] at e2
    subst e2
    simp only [List.cons.injEq, and_true] at e3
    subst e3
    exact ⟨⟨z0, z1, z2, z3⟩, rfl, b0, b1, ⟨b2, q2⟩, b3⟩

structure TStream where
  fKey : Int
  fPos : Int
  fAnti : Bool
@[simp] def TStream.cells (x : TStream) : List A := [A.int .u64 x.fKey, A.int .i64 x.fPos, A.bool x.fAnti]
instance : Enc TStream := ⟨fun x => .agg x.cells, 3, fun x => by simp, fun x => by simp, fun x => by simp, by decide⟩
@[simp] theorem enc_TStream (x : TStream) : Enc.enc x = A.agg x.cells := rfl
@[simp] theorem sz_TStream : Enc.sz TStream = 3 := rfl
def TStream.ok (x : TStream) : Prop := ((Lit.int .u64 x.fKey).wf = true) ∧ ((Lit.int .i64 x.fPos).wf = true)
theorem wt_TStream {P : Program} [h : Facts P] {n : Nat} {cs : List A} (h : WTc P n 92 cs) : ∃ x : TStream, cs = x.cells ∧ x.ok := by
  obtain ⟨m, rfl, hl, h⟩ := WTc_struct w92_ h
  rw [c92_] at hl
  match cs, hl with
  | [c0, c1, c2], _ =>
    have h0 := h (90, 0) (by simp)
    have h1 := h (3, 1) (by simp)
    have h2 := h (4, 2) (by simp)
    clear h
    simp only [c3_, c4_, c90_, List.drop, List.take] at h0 h1 h2
    obtain ⟨z0, e0, b0⟩ := WTc_int (k := .u64) i90_ h0
    obtain ⟨z1, e1, b1⟩ := WTc_int (k := .i64) i3_ h1
    obtain ⟨z2, e2⟩ := WTc_bool d4_ h2
    simp only [List.cons.injEq, and_true] at e0
    subst e0
    simp only [List.cons.injEq, and_true] at e1
    subst e1
    simp only [List.cons.injEq, and_true] at e2
    subst e2
    exact ⟨⟨z0, z1, z2⟩, rfl, b0, b1⟩

structure TTally where
  fN : Int
  fSum : Int
  fSquares : Int
  fMin : Int
  fMax : Int
@[simp] def TTally.cells (x : TTally) : List A := [A.int .i64 x.fN, A.int .i64 x.fSum, A.int .i64 x.fSquares, A.int .i64 x.fMin, A.int .i64 x.fMax]
instance : Enc TTally := ⟨fun x => .agg x.cells, 5, fun x => by simp, fun x => by simp, fun x => by simp, by decide⟩
@[simp] theorem enc_TTally (x : TTally) : Enc.enc x = A.agg x.cells := rfl
@[simp] theorem sz_TTally : Enc.sz TTally = 5 := rfl
def TTally.ok (x : TTally) : Prop := ((Lit.int .i64 x.fN).wf = true) ∧ ((Lit.int .i64 x.fSum).wf = true) ∧ ((Lit.int .i64 x.fSquares).wf = true) ∧ ((Lit.int .i64 x.fMin).wf = true) ∧ ((Lit.int .i64 x.fMax).wf = true)
theorem wt_TTally {P : Program} [h : Facts P] {n : Nat} {cs : List A} (h : WTc P n 94 cs) : ∃ x : TTally, cs = x.cells ∧ x.ok := by
  obtain ⟨m, rfl, hl, h⟩ := WTc_struct w94_ h
  rw [c94_] at hl
  match cs, hl with
  | [c0, c1, c2, c3, c4], _ =>
    have h0 := h (3, 0) (by simp)
    have h1 := h (3, 1) (by simp)
    have h2 := h (3, 2) (by simp)
    have h3 := h (3, 3) (by simp)
    have h4 := h (3, 4) (by simp)
    clear h
    simp only [c3_, List.drop, List.take] at h0 h1 h2 h3 h4
    obtain ⟨z0, e0, b0⟩ := WTc_int (k := .i64) i3_ h0
    obtain ⟨z1, e1, b1⟩ := WTc_int (k := .i64) i3_ h1
    obtain ⟨z2, e2, b2⟩ := WTc_int (k := .i64) i3_ h2
    obtain ⟨z3, e3, b3⟩ := WTc_int (k := .i64) i3_ h3
    obtain ⟨z4, e4, b4⟩ := WTc_int (k := .i64) i3_ h4
    simp only [List.cons.injEq, and_true] at e0
    subst e0
    simp only [List.cons.injEq, and_true] at e1
    subst e1
    simp only [List.cons.injEq, and_true] at e2
    subst e2
    simp only [List.cons.injEq, and_true] at e3
    subst e3
    simp only [List.cons.injEq, and_true] at e4
    subst e4
    exact ⟨⟨z0, z1, z2, z3, z4⟩, rfl, b0, b1, b2, b3, b4⟩

structure TLevel where
  fValue : Int
  fSince : Int
  fBegin : Int
  fArea : Int
  fMin : Int
  fMax : Int
@[simp] def TLevel.cells (x : TLevel) : List A := [A.int .i64 x.fValue, A.int .i64 x.fSince, A.int .i64 x.fBegin, A.int .i64 x.fArea, A.int .i64 x.fMin, A.int .i64 x.fMax]
instance : Enc TLevel := ⟨fun x => .agg x.cells, 6, fun x => by simp, fun x => by simp, fun x => by simp, by decide⟩
@[simp] theorem enc_TLevel (x : TLevel) : Enc.enc x = A.agg x.cells := rfl
@[simp] theorem sz_TLevel : Enc.sz TLevel = 6 := rfl
def TLevel.ok (x : TLevel) : Prop := ((Lit.int .i64 x.fValue).wf = true) ∧ ((Lit.int .i64 x.fSince).wf = true) ∧ ((Lit.int .i64 x.fBegin).wf = true) ∧ ((Lit.int .i64 x.fArea).wf = true) ∧ ((Lit.int .i64 x.fMin).wf = true) ∧ ((Lit.int .i64 x.fMax).wf = true)
theorem wt_TLevel {P : Program} [h : Facts P] {n : Nat} {cs : List A} (h : WTc P n 96 cs) : ∃ x : TLevel, cs = x.cells ∧ x.ok := by
  obtain ⟨m, rfl, hl, h⟩ := WTc_struct w96_ h
  rw [c96_] at hl
  match cs, hl with
  | [c0, c1, c2, c3, c4, c5], _ =>
    have h0 := h (3, 0) (by simp)
    have h1 := h (3, 1) (by simp)
    have h2 := h (3, 2) (by simp)
    have h3 := h (3, 3) (by simp)
    have h4 := h (3, 4) (by simp)
    have h5 := h (3, 5) (by simp)
    clear h
    simp only [c3_, List.drop, List.take] at h0 h1 h2 h3 h4 h5
    obtain ⟨z0, e0, b0⟩ := WTc_int (k := .i64) i3_ h0
    obtain ⟨z1, e1, b1⟩ := WTc_int (k := .i64) i3_ h1
    obtain ⟨z2, e2, b2⟩ := WTc_int (k := .i64) i3_ h2
    obtain ⟨z3, e3, b3⟩ := WTc_int (k := .i64) i3_ h3
    obtain ⟨z4, e4, b4⟩ := WTc_int (k := .i64) i3_ h4
    obtain ⟨z5, e5, b5⟩ := WTc_int (k := .i64) i3_ h5
    simp only [List.cons.injEq, and_true] at e0
    subst e0
    simp only [List.cons.injEq, and_true] at e1
    subst e1
    simp only [List.cons.injEq, and_true] at e2
    subst e2
    simp only [List.cons.injEq, and_true] at e3
    subst e3
    simp only [List.cons.injEq, and_true] at e4
    subst e4
    simp only [List.cons.injEq, and_true] at e5
    subst e5
    exact ⟨⟨z0, z1, z2, z3, z4, z5⟩, rfl, b0, b1, b2, b3, b4, b5⟩

structure TState where
  fSite : Int
  fNow : Int
  fSeq : Int
  fAgenda : List TEvent
  fProcs : List TProc
  fNextProc : Int
  fVars : List Int
  fResources : List TResource
  fStores : List TStore
  fBelts : List TBelt
  fQueues : List (List Int)
  fStreams : List TStream
  fTallies : List TTally
  fLevels : List TLevel
  fCounts : List Int
  fCreated : List Int
  fEnded : List Int
  fDropped : Int
@[simp] def TState.cells (x : TState) : List A := [A.int .i64 x.fSite, A.int .i64 x.fNow, A.int .i64 x.fSeq, Ls false x.fAgenda, Ls false x.fProcs, A.int .i64 x.fNextProc, Ls false x.fVars, Ls false x.fResources, Ls false x.fStores, Ls false x.fBelts, Ls false x.fQueues, Ls false x.fStreams, Ls false x.fTallies, Ls false x.fLevels, Ls false x.fCounts, Ls false x.fCreated, Ls false x.fEnded, A.int .i64 x.fDropped]
instance : Enc TState := ⟨fun x => .agg x.cells, 18, fun x => by simp, fun x => by simp, fun x => by simp, by decide⟩
@[simp] theorem enc_TState (x : TState) : Enc.enc x = A.agg x.cells := rfl
@[simp] theorem sz_TState : Enc.sz TState = 18 := rfl
def TState.ok (x : TState) : Prop := ((Lit.int .i64 x.fSite).wf = true) ∧ ((Lit.int .i64 x.fNow).wf = true) ∧ ((Lit.int .i64 x.fSeq).wf = true) ∧ (x.fAgenda.length ≤ 9223372036854775807 ∧ ∀ y0 ∈ x.fAgenda, y0.ok) ∧ (x.fProcs.length ≤ 9223372036854775807 ∧ ∀ y0 ∈ x.fProcs, y0.ok) ∧ ((Lit.int .i64 x.fNextProc).wf = true) ∧ (x.fVars.length ≤ 9223372036854775807 ∧ ∀ y0 ∈ x.fVars, (Lit.int .i64 y0).wf = true) ∧ (x.fResources.length ≤ 9223372036854775807 ∧ ∀ y0 ∈ x.fResources, y0.ok) ∧ (x.fStores.length ≤ 9223372036854775807 ∧ ∀ y0 ∈ x.fStores, y0.ok) ∧ (x.fBelts.length ≤ 9223372036854775807 ∧ ∀ y0 ∈ x.fBelts, y0.ok) ∧ (x.fQueues.length ≤ 9223372036854775807 ∧ ∀ y0 ∈ x.fQueues, y0.length ≤ 9223372036854775807 ∧ ∀ y1 ∈ y0, (Lit.int .i64 y1).wf = true) ∧ (x.fStreams.length ≤ 9223372036854775807 ∧ ∀ y0 ∈ x.fStreams, y0.ok) ∧ (x.fTallies.length ≤ 9223372036854775807 ∧ ∀ y0 ∈ x.fTallies, y0.ok) ∧ (x.fLevels.length ≤ 9223372036854775807 ∧ ∀ y0 ∈ x.fLevels, y0.ok) ∧ (x.fCounts.length ≤ 9223372036854775807 ∧ ∀ y0 ∈ x.fCounts, (Lit.int .i64 y0).wf = true) ∧ (x.fCreated.length ≤ 9223372036854775807 ∧ ∀ y0 ∈ x.fCreated, (Lit.int .i64 y0).wf = true) ∧ (x.fEnded.length ≤ 9223372036854775807 ∧ ∀ y0 ∈ x.fEnded, (Lit.int .i64 y0).wf = true) ∧ ((Lit.int .i64 x.fDropped).wf = true)
theorem wt_TState {P : Program} [h : Facts P] {n : Nat} {cs : List A} (h : WTc P n 37 cs) : ∃ x : TState, cs = x.cells ∧ x.ok := by
  obtain ⟨m, rfl, hl, h⟩ := WTc_struct w37_ h
  rw [c37_] at hl
  match cs, hl with
  | [c0, c1, c2, c3, c4, c5, c6, c7, c8, c9, c10, c11, c12, c13, c14, c15, c16, c17], _ =>
    have h0 := h (3, 0) (by simp)
    have h1 := h (3, 1) (by simp)
    have h2 := h (3, 2) (by simp)
    have h3 := h (27, 3) (by simp)
    have h4 := h (28, 4) (by simp)
    have h5 := h (3, 5) (by simp)
    have h6 := h (24, 6) (by simp)
    have h7 := h (29, 7) (by simp)
    have h8 := h (30, 8) (by simp)
    have h9 := h (31, 9) (by simp)
    have h10 := h (32, 10) (by simp)
    have h11 := h (33, 11) (by simp)
    have h12 := h (34, 12) (by simp)
    have h13 := h (35, 13) (by simp)
    have h14 := h (24, 14) (by simp)
    have h15 := h (24, 15) (by simp)
    have h16 := h (24, 16) (by simp)
    have h17 := h (3, 17) (by simp)
    clear h
    simp only [c24_, c27_, c28_, c29_, c30_, c31_, c32_, c33_, c34_, c35_, c3_, List.drop, List.take] at h0 h1 h2 h3 h4 h5 h6 h7 h8 h9 h10 h11 h12 h13 h14 h15 h16 h17
    obtain ⟨z0, e0, b0⟩ := WTc_int (k := .i64) i3_ h0
    obtain ⟨z1, e1, b1⟩ := WTc_int (k := .i64) i3_ h1
    obtain ⟨z2, e2, b2⟩ := WTc_int (k := .i64) i3_ h2
    obtain ⟨z3, e3, b3, q3⟩ := WTc_slice (α := TEvent) (Q := (fun y => y.ok)) s27_ (fun m cs _ h => by
      rw [l27_] at h ⊢
      obtain ⟨x, rfl, b⟩ := wt_TEvent h
      exact ⟨x, pack_agg a26_, b⟩) h3
    obtain ⟨z4, e4, b4, q4⟩ := WTc_slice (α := TProc) (Q := (fun y => y.ok)) s28_ (fun m cs _ h => by
      rw [l28_] at h ⊢
      obtain ⟨x, rfl, b⟩ := wt_TProc h
      exact ⟨x, pack_agg a76_, b⟩) h4
    obtain ⟨z5, e5, b5⟩ := WTc_int (k := .i64) i3_ h5
    obtain ⟨z6, e6, b6, q6⟩ := WTc_slice (α := Int) (Q := (fun y => (Lit.int .i64 y).wf = true)) s24_ (fun m cs _ h => by
      rw [l24_] at h ⊢
      obtain ⟨z, rfl, b⟩ := WTc_int (k := .i64) i3_ h
      exact ⟨z, pack_one a3_, b⟩) h6
    obtain ⟨z7, e7, b7, q7⟩ := WTc_slice (α := TResource) (Q := (fun y => y.ok)) s29_ (fun m cs _ h => by
      rw [l29_] at h ⊢
      obtain ⟨x, rfl, b⟩ := wt_TResource h
      exact ⟨x, pack_agg a80_, b⟩) h7
    obtain ⟨z8, e8, b8, q8⟩ := WTc_slice (α := TStore) (Q := (fun y => y.ok)) s30_ (fun m cs _ h => by
      rw [l30_] at h ⊢
      obtain ⟨x, rfl, b⟩ := wt_TStore h
      exact ⟨x, pack_agg a85_, b⟩) h8
    obtain ⟨z9, e9, b9, q9⟩ := WTc_slice (α := TBelt) (Q := (fun y => y.ok)) s31_ (fun m cs _ h => by
      rw [l31_] at h ⊢
      obtain ⟨x, rfl, b⟩ := wt_TBelt h
      exact ⟨x, pack_agg a89_, b⟩) h9
    obtain ⟨z10, e10, b10, q10⟩ := WTc_slice (α := List Int) (Q := (fun y => y.length ≤ 9223372036854775807 ∧ ∀ y0 ∈ y, (Lit.int .i64 y0).wf = true)) s32_ (fun m cs _ h => by
      rw [l32_] at h ⊢
      obtain ⟨z, rfl, b, q⟩ := WTc_slice (α := Int) (Q := (fun y => (Lit.int .i64 y).wf = true)) s24_ (fun m cs _ h => by
        rw [l24_] at h ⊢
        obtain ⟨z, rfl, b⟩ := WTc_int (k := .i64) i3_ h
        exact ⟨z, pack_one a3_, b⟩) h
      exact ⟨z, pack_one a24_, b, q⟩) h10
    obtain ⟨z11, e11, b11, q11⟩ := WTc_slice (α := TStream) (Q := (fun y => y.ok)) s33_ (fun m cs _ h => by
      rw [l33_] at h ⊢
      obtain ⟨x, rfl, b⟩ := wt_TStream h
      exact ⟨x, pack_agg a92_, b⟩) h11
    obtain ⟨z12, e12, b12, q12⟩ := WTc_slice (α := TTally) (Q := (fun y => y.ok)) s34_ (fun m cs _ h => by
      rw [l34_] at h ⊢
      obtain ⟨x, rfl, b⟩ := wt_TTally h
      exact ⟨x, pack_agg a94_, b⟩) h12
    obtain ⟨z13, e13, b13, q13⟩ := WTc_slice (α := TLevel) (Q := (fun y => y.ok)) s35_ (fun m cs _ h => by
      rw [l35_] at h ⊢
      obtain ⟨x, rfl, b⟩ := wt_TLevel h
      exact ⟨x, pack_agg a96_, b⟩) h13
    obtain ⟨z14, e14, b14, q14⟩ := WTc_slice (α := Int) (Q := (fun y => (Lit.int .i64 y).wf = true)) s24_ (fun m cs _ h => by
      rw [l24_] at h ⊢
      obtain ⟨z, rfl, b⟩ := WTc_int (k := .i64) i3_ h
      exact ⟨z, pack_one a3_, b⟩) h14
    obtain ⟨z15, e15, b15, q15⟩ := WTc_slice (α := Int) (Q := (fun y => (Lit.int .i64 y).wf = true)) s24_ (fun m cs _ h => by
      rw [l24_] at h ⊢
      obtain ⟨z, rfl, b⟩ := WTc_int (k := .i64) i3_ h
      exact ⟨z, pack_one a3_, b⟩) h15
    obtain ⟨z16, e16, b16, q16⟩ := WTc_slice (α := Int) (Q := (fun y => (Lit.int .i64 y).wf = true)) s24_ (fun m cs _ h => by
      rw [l24_] at h ⊢
      obtain ⟨z, rfl, b⟩ := WTc_int (k := .i64) i3_ h
      exact ⟨z, pack_one a3_, b⟩) h16
    obtain ⟨z17, e17, b17⟩ := WTc_int (k := .i64) i3_ h17
    simp only [List.cons.injEq, and_true] at e0
    subst e0
    simp only [List.cons.injEq, and_true] at e1
    subst e1
    simp only [List.cons.injEq, and_true] at e2
    subst e2
    simp only [List.cons.injEq, and_true] at e3
    subst e3
    simp only [List.cons.injEq, and_true] at e4
    subst e4
    simp only [List.cons.injEq, and_true] at e5
    subst e5
    simp only [List.cons.injEq, and_true] at e6
    subst e6
    simp only [List.cons.injEq, and_true] at e7
    subst e7
    simp only [List.cons.injEq, and_true] at e8
    subst e8
    simp only [List.cons.injEq, and_true] at e9
    subst e9
    simp only [List.cons.injEq, and_true] at e10
    subst e10
    simp only [List.cons.injEq, and_true] at e11
    subst e11
    simp only [List.cons.injEq, and_true] at e12
    subst e12
    simp only [List.cons.injEq, and_true] at e13
    subst e13
    simp only [List.cons.injEq, and_true] at e14
    subst e14
    simp only [List.cons.injEq, and_true] at e15
    subst e15
    simp only [List.cons.injEq, and_true] at e16
    subst e16
    simp only [List.cons.injEq, and_true] at e17
    subst e17
    exact ⟨⟨z0, z1, z2, z3, z4, z5, z6, z7, z8, z9, z10, z11, z12, z13, z14, z15, z16, z17⟩, rfl, b0, b1, b2, ⟨b3, q3⟩, ⟨b4, q4⟩, b5, ⟨b6, q6⟩, ⟨b7, q7⟩, ⟨b8, q8⟩, ⟨b9, q9⟩, ⟨b10, q10⟩, ⟨b11, q11⟩, ⟨b12, q12⟩, ⟨b13, q13⟩, ⟨b14, q14⟩, ⟨b15, q15⟩, ⟨b16, q16⟩, b17⟩

structure TRec where
  fTime : Int
  fSite : Int
  fWhat : Int
  fProc : Int
  fIndex : Int
  fValue : Int
@[simp] def TRec.cells (x : TRec) : List A := [A.int .i64 x.fTime, A.int .i64 x.fSite, A.int .i64 x.fWhat, A.int .i64 x.fProc, A.int .i64 x.fIndex, A.int .i64 x.fValue]
instance : Enc TRec := ⟨fun x => .agg x.cells, 6, fun x => by simp, fun x => by simp, fun x => by simp, by decide⟩
@[simp] theorem enc_TRec (x : TRec) : Enc.enc x = A.agg x.cells := rfl
@[simp] theorem sz_TRec : Enc.sz TRec = 6 := rfl
def TRec.ok (x : TRec) : Prop := ((Lit.int .i64 x.fTime).wf = true) ∧ ((Lit.int .i64 x.fSite).wf = true) ∧ ((Lit.int .i64 x.fWhat).wf = true) ∧ ((Lit.int .i64 x.fProc).wf = true) ∧ ((Lit.int .i64 x.fIndex).wf = true) ∧ ((Lit.int .i64 x.fValue).wf = true)
theorem wt_TRec {P : Program} [h : Facts P] {n : Nat} {cs : List A} (h : WTc P n 70 cs) : ∃ x : TRec, cs = x.cells ∧ x.ok := by
  obtain ⟨m, rfl, hl, h⟩ := WTc_struct w70_ h
  rw [c70_] at hl
  match cs, hl with
  | [c0, c1, c2, c3, c4, c5], _ =>
    have h0 := h (3, 0) (by simp)
    have h1 := h (3, 1) (by simp)
    have h2 := h (68, 2) (by simp)
    have h3 := h (3, 3) (by simp)
    have h4 := h (3, 4) (by simp)
    have h5 := h (3, 5) (by simp)
    clear h
    simp only [c3_, c68_, List.drop, List.take] at h0 h1 h2 h3 h4 h5
    obtain ⟨z0, e0, b0⟩ := WTc_int (k := .i64) i3_ h0
    obtain ⟨z1, e1, b1⟩ := WTc_int (k := .i64) i3_ h1
    obtain ⟨z2, e2, b2⟩ := WTc_int (k := .i64) i68_ h2
    obtain ⟨z3, e3, b3⟩ := WTc_int (k := .i64) i3_ h3
    obtain ⟨z4, e4, b4⟩ := WTc_int (k := .i64) i3_ h4
    obtain ⟨z5, e5, b5⟩ := WTc_int (k := .i64) i3_ h5
    simp only [List.cons.injEq, and_true] at e0
    subst e0
    simp only [List.cons.injEq, and_true] at e1
    subst e1
    simp only [List.cons.injEq, and_true] at e2
    subst e2
    simp only [List.cons.injEq, and_true] at e3
    subst e3
    simp only [List.cons.injEq, and_true] at e4
    subst e4
    simp only [List.cons.injEq, and_true] at e5
    subst e5
    exact ⟨⟨z0, z1, z2, z3, z4, z5⟩, rfl, b0, b1, b2, b3, b4, b5⟩

structure TPast where
  fEvent : TEvent
  fRemote : Bool
  fBefore : TState
  fSends : List TEvent
  fRecs : List TRec
@[simp] def TPast.cells (x : TPast) : List A := x.fEvent.cells ++ [A.bool x.fRemote] ++ x.fBefore.cells ++ [Ls false x.fSends, Ls false x.fRecs]
instance : Enc TPast := ⟨fun x => .agg x.cells, 30, fun x => by simp, fun x => by simp, fun x => by simp, by decide⟩
@[simp] theorem enc_TPast (x : TPast) : Enc.enc x = A.agg x.cells := rfl
@[simp] theorem sz_TPast : Enc.sz TPast = 30 := rfl
def TPast.ok (x : TPast) : Prop := (x.fEvent.ok) ∧ (x.fBefore.ok) ∧ (x.fSends.length ≤ 9223372036854775807 ∧ ∀ y0 ∈ x.fSends, y0.ok) ∧ (x.fRecs.length ≤ 9223372036854775807 ∧ ∀ y0 ∈ x.fRecs, y0.ok)
theorem wt_TPast {P : Program} [h : Facts P] {n : Nat} {cs : List A} (h : WTc P n 40 cs) : ∃ x : TPast, cs = x.cells ∧ x.ok := by
  obtain ⟨m, rfl, hl, h⟩ := WTc_struct w40_ h
  rw [c40_] at hl
  match cs, hl with
  | [c0, c1, c2, c3, c4, c5, c6, c7, c8, c9, c10, c11, c12, c13, c14, c15, c16, c17, c18, c19, c20, c21, c22, c23, c24, c25, c26, c27, c28, c29], _ =>
    have h0 := h (26, 0) (by simp)
    have h1 := h (4, 9) (by simp)
    have h2 := h (37, 10) (by simp)
    have h3 := h (27, 28) (by simp)
    have h4 := h (38, 29) (by simp)
    clear h
    simp only [c26_, c27_, c37_, c38_, c4_, List.drop, List.take] at h0 h1 h2 h3 h4
    obtain ⟨z0, e0, b0⟩ := wt_TEvent h0
    obtain ⟨z1, e1⟩ := WTc_bool d4_ h1
    obtain ⟨z2, e2, b2⟩ := wt_TState h2
    obtain ⟨z3, e3, b3, q3⟩ := WTc_slice (α := TEvent) (Q := (fun y => y.ok)) s27_ (fun m cs _ h => by
      rw [l27_] at h ⊢
      obtain ⟨x, rfl, b⟩ := wt_TEvent h
      exact ⟨x, pack_agg a26_, b⟩) h3
    obtain ⟨z4, e4, b4, q4⟩ := WTc_slice (α := TRec) (Q := (fun y => y.ok)) s38_ (fun m cs _ h => by
      rw [l38_] at h ⊢
      obtain ⟨x, rfl, b⟩ := wt_TRec h
      exact ⟨x, pack_agg a70_, b⟩) h4
    simp only [TEvent.cells, List.cons_append, List.nil_append, List.cons.injEq, and_true] at e0
    obtain ⟨rfl, rfl, rfl, rfl, rfl, rfl, rfl, rfl, rfl⟩ := e0
    simp only [List.cons.injEq, and_true] at e1
    subst e1
    simp only [TState.cells, List.cons_append, List.nil_append, List.cons.injEq, and_true] at e2
    obtain ⟨rfl, rfl, rfl, rfl, rfl, rfl, rfl, rfl, rfl, rfl, rfl, rfl, rfl, rfl, rfl, rfl, rfl, rfl⟩ := e2
    simp only [List.cons.injEq, and_true] at e3
    subst e3
    simp only [List.cons.injEq, and_true] at e4
    subst e4
    exact ⟨⟨z0, z1, z2, z3, z4⟩, rfl, b0, b2, ⟨b3, q3⟩, ⟨b4, q4⟩⟩

/-! types: TEvent 26, TProc 76, TClaim 105, TResource 80, TReady 101, TStore 85, TRider 103, TBelt 89, TStream 92, TTally 94, TLevel 96, TState 37, TRec 70, TPast 40 -/
end Go.Proofs.Ytbefchnpilmajaa
