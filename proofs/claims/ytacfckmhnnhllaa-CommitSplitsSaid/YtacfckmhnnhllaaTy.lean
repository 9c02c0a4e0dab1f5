/- The types of the chapter, as Lean's own, and how they lie in memory. -/
import Derived.Test.YtacfckmhnnhllaaAlFacts
namespace Go.Proofs.Ytacfckmhnnhllaa
open Go.AL
structure TEvent where
  fTime : Int
  fPrio : Int
  fFrom : Int
  fSeq : Int
  fSite : Int
  fKind : Int
  fA : Int
  fB : Int
  fArgs : List Int
  deriving DecidableEq
@[simp] def TEvent.cells (x : TEvent) : List A := [A.int .i64 x.fTime, A.int .i64 x.fPrio, A.int .i64 x.fFrom, A.int .i64 x.fSeq, A.int .i64 x.fSite, A.int .i64 x.fKind, A.int .i64 x.fA, A.int .i64 x.fB, Ls false x.fArgs]
instance : Enc TEvent := ⟨fun x => .agg x.cells, 9, fun x => by simp, fun x => by simp, fun x => by simp, by decide⟩
@[simp] theorem enc_TEvent (x : TEvent) : Enc.enc x = A.agg x.cells := rfl
@[simp] theorem sz_TEvent : Enc.sz TEvent = 9 := rfl
def TEvent.ok (x : TEvent) : Prop := ((Lit.int .i64 x.fTime).wf = true) ∧ ((Lit.int .i64 x.fPrio).wf = true) ∧ ((Lit.int .i64 x.fFrom).wf = true) ∧ ((Lit.int .i64 x.fSeq).wf = true) ∧ ((Lit.int .i64 x.fSite).wf = true) ∧ ((Lit.int .i64 x.fKind).wf = true) ∧ ((Lit.int .i64 x.fA).wf = true) ∧ ((Lit.int .i64 x.fB).wf = true) ∧ (x.fArgs.length ≤ 9223372036854775807 ∧ ∀ y0 ∈ x.fArgs, (Lit.int .i64 y0).wf = true)
theorem wt_TEvent {P : Program} [h : Facts P] {n : Nat} {cs : List A} (h : WTc P n 44 cs) : ∃ x : TEvent, cs = x.cells ∧ x.ok := by
  obtain ⟨m, rfl, hl, h⟩ := WTc_struct w44_ h
  rw [c44_] at hl
  match cs, hl with
  | [c0, c1, c2, c3, c4, c5, c6, c7, c8], _ =>
    have h0 := h (3, 0) (by simp)
    have h1 := h (3, 1) (by simp)
    have h2 := h (3, 2) (by simp)
    have h3 := h (3, 3) (by simp)
    have h4 := h (3, 4) (by simp)
    have h5 := h (41, 5) (by simp)
    have h6 := h (3, 6) (by simp)
    have h7 := h (3, 7) (by simp)
    have h8 := h (42, 8) (by simp)
    clear h
    simp only [c3_, c41_, c42_, List.drop, List.take] at h0 h1 h2 h3 h4 h5 h6 h7 h8
    obtain ⟨z0, e0, b0⟩ := WTc_int (k := .i64) i3_ h0
    obtain ⟨z1, e1, b1⟩ := WTc_int (k := .i64) i3_ h1
    obtain ⟨z2, e2, b2⟩ := WTc_int (k := .i64) i3_ h2
    obtain ⟨z3, e3, b3⟩ := WTc_int (k := .i64) i3_ h3
    obtain ⟨z4, e4, b4⟩ := WTc_int (k := .i64) i3_ h4
    obtain ⟨z5, e5, b5⟩ := WTc_int (k := .i64) i41_ h5
    obtain ⟨z6, e6, b6⟩ := WTc_int (k := .i64) i3_ h6
    obtain ⟨z7, e7, b7⟩ := WTc_int (k := .i64) i3_ h7
    obtain ⟨z8, e8, b8, q8⟩ := WTc_slice (α := Int) (Q := (fun y => (Lit.int .i64 y).wf = true)) s42_ (fun m cs _ h => by
      rw [l42_] at h ⊢
      obtain ⟨z, rfl, b⟩ := WTc_int (k := .i64) i3_ h
      exact ⟨z, pack_one a3_, b⟩) h8
    simp only [List.cons.injEq, and_true] at e0
    subst e0
    simp only [List.cons.injEq, and_true] at e1
    subst e1
    simp only [List.cons.injEq, and_true] at e2
    subst e2
    simp only [List.cons.injEq, and_true] at e3
    subst e3
    simp only [List.cons.injEq, and_true] at e4
    subst e4
    simp only [List.cons.injEq, and_true] at e5
    subst e5
    simp only [List.cons.injEq, and_true] at e6
    subst e6
    simp only [List.cons.injEq, and_true] at e7
    subst e7
    simp only [List.cons.injEq, and_true] at e8
    subst e8
    exact ⟨⟨z0, z1, z2, z3, z4, z5, z6, z7, z8⟩, rfl, b0, b1, b2, b3, b4, b5, b6, b7, ⟨b8, q8⟩⟩

structure TRec where
  fTime : Int
  fSite : Int
  fWhat : Int
  fProc : Int
  fIndex : Int
  fValue : Int
  deriving DecidableEq
@[simp] def TRec.cells (x : TRec) : List A := [A.int .i64 x.fTime, A.int .i64 x.fSite, A.int .i64 x.fWhat, A.int .i64 x.fProc, A.int .i64 x.fIndex, A.int .i64 x.fValue]
instance : Enc TRec := ⟨fun x => .agg x.cells, 6, fun x => by simp, fun x => by simp, fun x => by simp, by decide⟩
@[simp] theorem enc_TRec (x : TRec) : Enc.enc x = A.agg x.cells := rfl
@[simp] theorem sz_TRec : Enc.sz TRec = 6 := rfl
def TRec.ok (x : TRec) : Prop := ((Lit.int .i64 x.fTime).wf = true) ∧ ((Lit.int .i64 x.fSite).wf = true) ∧ ((Lit.int .i64 x.fWhat).wf = true) ∧ ((Lit.int .i64 x.fProc).wf = true) ∧ ((Lit.int .i64 x.fIndex).wf = true) ∧ ((Lit.int .i64 x.fValue).wf = true)
theorem wt_TRec {P : Program} [h : Facts P] {n : Nat} {cs : List A} (h : WTc P n 47 cs) : ∃ x : TRec, cs = x.cells ∧ x.ok := by
  obtain ⟨m, rfl, hl, h⟩ := WTc_struct w47_ h
  rw [c47_] at hl
  match cs, hl with
  | [c0, c1, c2, c3, c4, c5], _ =>
    have h0 := h (3, 0) (by simp)
    have h1 := h (3, 1) (by simp)
    have h2 := h (45, 2) (by simp)
    have h3 := h (3, 3) (by simp)
    have h4 := h (3, 4) (by simp)
    have h5 := h (3, 5) (by simp)
    clear h
    simp only [c3_, c45_, List.drop, List.take] at h0 h1 h2 h3 h4 h5
    obtain ⟨z0, e0, b0⟩ := WTc_int (k := .i64) i3_ h0
    obtain ⟨z1, e1, b1⟩ := WTc_int (k := .i64) i3_ h1
    obtain ⟨z2, e2, b2⟩ := WTc_int (k := .i64) i45_ h2
    obtain ⟨z3, e3, b3⟩ := WTc_int (k := .i64) i3_ h3
    obtain ⟨z4, e4, b4⟩ := WTc_int (k := .i64) i3_ h4
    obtain ⟨z5, e5, b5⟩ := WTc_int (k := .i64) i3_ h5
    simp only [List.cons.injEq, and_true] at e0
    subst e0
    simp only [List.cons.injEq, and_true] at e1
    subst e1
    simp only [List.cons.injEq, and_true] at e2
    subst e2
    simp only [List.cons.injEq, and_true] at e3
    subst e3
    simp only [List.cons.injEq, and_true] at e4
    subst e4
    simp only [List.cons.injEq, and_true] at e5
    subst e5
    exact ⟨⟨z0, z1, z2, z3, z4, z5⟩, rfl, b0, b1, b2, b3, b4, b5⟩

structure TLog where
  fEvents : List TEvent
  fRecs : List TRec
  deriving DecidableEq
@[simp] def TLog.cells (x : TLog) : List A := [Ls false x.fEvents, Ls false x.fRecs]
instance : Enc TLog := ⟨fun x => .agg x.cells, 2, fun x => by simp, fun x => by simp, fun x => by simp, by decide⟩
@[simp] theorem enc_TLog (x : TLog) : Enc.enc x = A.agg x.cells := rfl
@[simp] theorem sz_TLog : Enc.sz TLog = 2 := rfl
def TLog.ok (x : TLog) : Prop := (x.fEvents.length ≤ 9223372036854775807 ∧ ∀ y0 ∈ x.fEvents, y0.ok) ∧ (x.fRecs.length ≤ 9223372036854775807 ∧ ∀ y0 ∈ x.fRecs, y0.ok)
theorem wt_TLog {P : Program} [h : Facts P] {n : Nat} {cs : List A} (h : WTc P n 25 cs) : ∃ x : TLog, cs = x.cells ∧ x.ok := by
  obtain ⟨m, rfl, hl, h⟩ := WTc_struct w25_ h
  rw [c25_] at hl
  match cs, hl with
  | [c0, c1], _ =>
    have h0 := h (22, 0) (by simp)
    have h1 := h (23, 1) (by simp)
    clear h
    simp only [c22_, c23_, List.drop, List.take] at h0 h1
    obtain ⟨z0, e0, b0, q0⟩ := WTc_slice (α := TEvent) (Q := (fun y => y.ok)) s22_ (fun m cs _ h => by
      rw [l22_] at h ⊢
      obtain ⟨x, rfl, b⟩ := wt_TEvent h
      exact ⟨x, (pack_agg a44_).trans (enc_TEvent x).symm, b⟩) h0
    obtain ⟨z1, e1, b1, q1⟩ := WTc_slice (α := TRec) (Q := (fun y => y.ok)) s23_ (fun m cs _ h => by
      rw [l23_] at h ⊢
      obtain ⟨x, rfl, b⟩ := wt_TRec h
      exact ⟨x, (pack_agg a47_).trans (enc_TRec x).symm, b⟩) h1
    simp only [List.cons.injEq, and_true] at e0
    subst e0
    simp only [List.cons.injEq, and_true] at e1
    subst e1
    exact ⟨⟨z0, z1⟩, rfl, ⟨b0, q0⟩, ⟨b1, q1⟩⟩

structure Tentry where
  fEvent : TEvent
  fRecs : List TRec
  deriving DecidableEq
@[simp] def Tentry.cells (x : Tentry) : List A := x.fEvent.cells ++ [Ls false x.fRecs]
instance : Enc Tentry := ⟨fun x => .agg x.cells, 10, fun x => by simp, fun x => by simp, fun x => by simp, by decide⟩
@[simp] theorem enc_Tentry (x : Tentry) : Enc.enc x = A.agg x.cells := rfl
@[simp] theorem sz_Tentry : Enc.sz Tentry = 10 := rfl
def Tentry.ok (x : Tentry) : Prop := (x.fEvent.ok) ∧ (x.fRecs.length ≤ 9223372036854775807 ∧ ∀ y0 ∈ x.fRecs, y0.ok)
theorem wt_Tentry {P : Program} [h : Facts P] {n : Nat} {cs : List A} (h : WTc P n 82 cs) : ∃ x : Tentry, cs = x.cells ∧ x.ok := by
  obtain ⟨m, rfl, hl, h⟩ := WTc_struct w82_ h
  rw [c82_] at hl
  match cs, hl with
  | [c0, c1, c2, c3, c4, c5, c6, c7, c8, c9], _ =>
    have h0 := h (44, 0) (by simp)
    have h1 := h (23, 9) (by simp)
    clear h
    simp only [c23_, c44_, List.drop, List.take] at h0 h1
    obtain ⟨z0, e0, b0⟩ := wt_TEvent h0
    obtain ⟨z1, e1, b1, q1⟩ := WTc_slice (α := TRec) (Q := (fun y => y.ok)) s23_ (fun m cs _ h => by
      rw [l23_] at h ⊢
      obtain ⟨x, rfl, b⟩ := wt_TRec h
      exact ⟨x, (pack_agg a47_).trans (enc_TRec x).symm, b⟩) h1
    simp only [TEvent.cells, List.cons.injEq, and_true] at e0
    obtain ⟨rfl, rfl, rfl, rfl, rfl, rfl, rfl, rfl, rfl⟩ := e0
    simp only [List.cons.injEq, and_true] at e1
    subst e1
    exact ⟨⟨z0, z1⟩, rfl, b0, ⟨b1, q1⟩⟩

structure Tplace where
  fTime : Int
  fSite : Int
  deriving DecidableEq
@[simp] def Tplace.cells (x : Tplace) : List A := [A.int .i64 x.fTime, A.int .i64 x.fSite]
instance : Enc Tplace := ⟨fun x => .agg x.cells, 2, fun x => by simp, fun x => by simp, fun x => by simp, by decide⟩
@[simp] theorem enc_Tplace (x : Tplace) : Enc.enc x = A.agg x.cells := rfl
@[simp] theorem sz_Tplace : Enc.sz Tplace = 2 := rfl
def Tplace.ok (x : Tplace) : Prop := ((Lit.int .i64 x.fTime).wf = true) ∧ ((Lit.int .i64 x.fSite).wf = true)
theorem wt_Tplace {P : Program} [h : Facts P] {n : Nat} {cs : List A} (h : WTc P n 53 cs) : ∃ x : Tplace, cs = x.cells ∧ x.ok := by
  obtain ⟨m, rfl, hl, h⟩ := WTc_struct w53_ h
  rw [c53_] at hl
  match cs, hl with
  | [c0, c1], _ =>
    have h0 := h (3, 0) (by simp)
    have h1 := h (3, 1) (by simp)
    clear h
    simp only [c3_, List.drop, List.take] at h0 h1
    obtain ⟨z0, e0, b0⟩ := WTc_int (k := .i64) i3_ h0
    obtain ⟨z1, e1, b1⟩ := WTc_int (k := .i64) i3_ h1
    simp only [List.cons.injEq, and_true] at e0
    subst e0
    simp only [List.cons.injEq, and_true] at e1
    subst e1
    exact ⟨⟨z0, z1⟩, rfl, b0, b1⟩

/-! types: TEvent 44, TRec 47, TLog 25, Tentry 82, Tplace 53 -/
end Go.Proofs.Ytacfckmhnnhllaa
