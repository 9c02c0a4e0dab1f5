/- The types of the chapter, as Lean's own, and how they lie in memory. -/
import Derived.Test.YtadllkhmihbfhaaAlFacts
namespace Go.Proofs.Ytadllkhmihbfhaa
open Go.AL
structure TExpr where
  fOp : Int
  fName : List UInt8
  fN : Int
  fKids : List TExpr
mutual
def TExpr.encA : TExpr → A
  | ⟨fOp, fName, fN, fKids⟩ => .agg ([A.int .i64 fOp, A.str fName, A.int .i64 fN, A.sl false (TExpr.encL fKids)])
def TExpr.encL : List TExpr → List A
  | [] => []
  | x :: l => x.encA :: TExpr.encL l
end
theorem TExpr.encL_map (l : List TExpr) : TExpr.encL l = l.map TExpr.encA := by
  induction l with
  | nil => rw [TExpr.encL]; rfl
  | cons x l ih => rw [TExpr.encL, ih]; rfl
theorem TExpr.wkE (x : TExpr) : wkA x.encA = x.encA :=
  TExpr.rec (motive_1 := fun x => wkA x.encA = x.encA) (motive_2 := fun l => wkL (TExpr.encL l) = TExpr.encL l) (by intros; simp [TExpr.encA, *]) (by simp [TExpr.encL]) (by intros; simp [TExpr.encL, *]) x
instance : Enc TExpr := ⟨TExpr.encA, 4, fun x => by cases x; simp [TExpr.encA], TExpr.wkE, fun x => by cases x; simp [TExpr.encA], by decide⟩
@[simp] def TExpr.cells (x : TExpr) : List A := [A.int .i64 x.fOp, A.str x.fName, A.int .i64 x.fN, Ls false x.fKids]
@[simp] theorem enc_TExpr (x : TExpr) : Enc.enc x = A.agg x.cells := by
  show x.encA = _
  cases x
  rw [TExpr.encA, TExpr.encL_map]
  rfl
theorem TExpr.ind {motive : TExpr → Prop} (h : ∀ e : TExpr, (∀ y ∈ e.fKids, motive y) → motive e) : ∀ e, motive e := by
  intro e
  exact TExpr.rec (motive_1 := motive) (motive_2 := fun l => ∀ y ∈ l, motive y) (fun _ _ _ _ i0 => h _ i0) (by simp) (fun a l h1 h2 y hy => by
    rcases List.mem_cons.1 hy with rfl | hy
    · exact h1
    · exact h2 _ hy) e
@[simp] theorem sz_TExpr : Enc.sz TExpr = 4 := rfl
inductive TExpr.ok : TExpr → Prop
  | mk (x : TExpr) (hOp : (Lit.int .i64 x.fOp).wf = true) (hName : x.fName.length ≤ 9223372036854775807) (hN : (Lit.int .i64 x.fN).wf = true) (lKids : x.fKids.length ≤ 9223372036854775807) (hKids : ∀ y ∈ x.fKids, TExpr.ok y) : TExpr.ok x
theorem wt_TExpr {P : Program} [h : Facts P] {n : Nat} {cs : List A} (h : WTc P n 41 cs) : ∃ x : TExpr, cs = x.cells ∧ x.ok := by
  induction n using Nat.strongRecOn generalizing cs with
  | ind n ih =>
  obtain ⟨m, rfl, hl, h⟩ := WTc_struct w41_ h
  rw [c41_] at hl
  match cs, hl with
  | [c0, c1, c2, c3], _ =>
    have h0 := h (38, 0) (by simp)
    have h1 := h (9, 1) (by simp)
    have h2 := h (3, 2) (by simp)
    have h3 := h (39, 3) (by simp)
    clear h
    simp only [c38_, c39_, c3_, c9_, List.drop, List.take] at h0 h1 h2 h3
    obtain ⟨z0, e0, b0⟩ := WTc_int (k := .i64) i38_ h0
    obtain ⟨z1, e1, b1⟩ := WTc_str t9_ h1
    obtain ⟨z2, e2, b2⟩ := WTc_int (k := .i64) i3_ h2
    obtain ⟨z3, e3, b3, q3⟩ := WTc_slice (α := TExpr) (Q := (fun y => y.ok)) s39_ (fun m cs _ h => by
      rw [l39_] at h ⊢
      obtain ⟨x, rfl, b⟩ := ih _ (by omega) h
      exact ⟨x, by rw [enc_TExpr]; exact pack_agg a41_, b⟩) h3
    simp only [List.cons.injEq, and_true] at e0
    subst e0
    simp only [List.cons.injEq, and_true] at e1
    subst e1
    simp only [List.cons.injEq, and_true] at e2
    subst e2
    simp only [List.cons.injEq, and_true] at e3
    subst e3
    exact ⟨⟨z0, z1, z2, z3⟩, rfl, .mk _ b0 (by rw [← maxLen_eq]; exact b1) b2 b3 q3⟩

structure TDist where
  fOp : Int
  fA : Int
  fB : Int
  fN : Int
  fValues : List Int
  fWeights : List Int
  deriving DecidableEq
@[simp] def TDist.cells (x : TDist) : List A := [A.int .i64 x.fOp, A.int .i64 x.fA, A.int .i64 x.fB, A.int .i64 x.fN, Ls false x.fValues, Ls false x.fWeights]
instance : Enc TDist := ⟨fun x => .agg x.cells, 6, fun x => by simp, fun x => by simp, fun x => by simp, by decide⟩
@[simp] theorem enc_TDist (x : TDist) : Enc.enc x = A.agg x.cells := rfl
@[simp] theorem sz_TDist : Enc.sz TDist = 6 := rfl
def TDist.ok (x : TDist) : Prop := ((Lit.int .i64 x.fOp).wf = true) ∧ ((Lit.int .i64 x.fA).wf = true) ∧ ((Lit.int .i64 x.fB).wf = true) ∧ ((Lit.int .i64 x.fN).wf = true) ∧ (x.fValues.length ≤ 9223372036854775807 ∧ ∀ y0 ∈ x.fValues, (Lit.int .i64 y0).wf = true) ∧ (x.fWeights.length ≤ 9223372036854775807 ∧ ∀ y0 ∈ x.fWeights, (Lit.int .i64 y0).wf = true)
theorem wt_TDist {P : Program} [h : Facts P] {n : Nat} {cs : List A} (h : WTc P n 45 cs) : ∃ x : TDist, cs = x.cells ∧ x.ok := by
  obtain ⟨m, rfl, hl, h⟩ := WTc_struct w45_ h
  rw [c45_] at hl
  match cs, hl with
  | [c0, c1, c2, c3, c4, c5], _ =>
    have h0 := h (42, 0) (by simp)
    have h1 := h (3, 1) (by simp)
    have h2 := h (3, 2) (by simp)
    have h3 := h (3, 3) (by simp)
    have h4 := h (43, 4) (by simp)
    have h5 := h (43, 5) (by simp)
    clear h
    simp only [c3_, c42_, c43_, List.drop, List.take] at h0 h1 h2 h3 h4 h5
    obtain ⟨z0, e0, b0⟩ := WTc_int (k := .i64) i42_ h0
    obtain ⟨z1, e1, b1⟩ := WTc_int (k := .i64) i3_ h1
    obtain ⟨z2, e2, b2⟩ := WTc_int (k := .i64) i3_ h2
    obtain ⟨z3, e3, b3⟩ := WTc_int (k := .i64) i3_ h3
    obtain ⟨z4, e4, b4, q4⟩ := WTc_slice (α := Int) (Q := (fun y => (Lit.int .i64 y).wf = true)) s43_ (fun m cs _ h => by
      rw [l43_] at h ⊢
      obtain ⟨z, rfl, b⟩ := WTc_int (k := .i64) i3_ h
      exact ⟨z, pack_one a3_, b⟩) h4
    obtain ⟨z5, e5, b5, q5⟩ := WTc_slice (α := Int) (Q := (fun y => (Lit.int .i64 y).wf = true)) s43_ (fun m cs _ h => by
      rw [l43_] at h ⊢
      obtain ⟨z, rfl, b⟩ := WTc_int (k := .i64) i3_ h
      exact ⟨z, pack_one a3_, b⟩) h5
    simp only [List.cons.injEq, and_true] at e0
    subst e0
    simp only [List.cons.injEq, and_true] at e1
    subst e1
    simp only [List.cons.injEq, and_true] at e2
    subst e2
    simp only [List.cons.injEq, and_true] at e3
    subst e3
    simp only [List.cons.injEq, and_true] at e4
    subst e4
    simp only [List.cons.injEq, and_true] at e5
    subst e5
    exact ⟨⟨z0, z1, z2, z3, z4, z5⟩, rfl, b0, b1, b2, b3, ⟨b4, q4⟩, ⟨b5, q5⟩⟩

structure TStmt where
  fOp : Int
  fName : List UInt8
  fOf : List UInt8
  fE : TExpr
  fF : TExpr
  fArgs : List TExpr
  fDist : TDist
  fFlag : Bool
  fBody : List TStmt
  fElse : List TStmt
mutual
def TStmt.encA : TStmt → A
  | ⟨fOp, fName, fOf, fE, fF, fArgs, fDist, fFlag, fBody, fElse⟩ => .agg ([A.int .i64 fOp, A.str fName, A.str fOf] ++ fE.cells ++ fF.cells ++ [Ls false fArgs] ++ fDist.cells ++ [A.bool fFlag, A.sl false (TStmt.encL fBody), A.sl false (TStmt.encL fElse)])
def TStmt.encL : List TStmt → List A
  | [] => []
  | x :: l => x.encA :: TStmt.encL l
end
theorem TStmt.encL_map (l : List TStmt) : TStmt.encL l = l.map TStmt.encA := by
  induction l with
  | nil => rw [TStmt.encL]; rfl
  | cons x l ih => rw [TStmt.encL, ih]; rfl
theorem TStmt.wkE (x : TStmt) : wkA x.encA = x.encA :=
  TStmt.rec (motive_1 := fun x => wkA x.encA = x.encA) (motive_2 := fun l => wkL (TStmt.encL l) = TStmt.encL l) (by intros; simp [TStmt.encA, *]) (by simp [TStmt.encL]) (by intros; simp [TStmt.encL, *]) x
instance : Enc TStmt := ⟨TStmt.encA, 21, fun x => by cases x; simp [TStmt.encA], TStmt.wkE, fun x => by cases x; simp [TStmt.encA], by decide⟩
@[simp] def TStmt.cells (x : TStmt) : List A := [A.int .i64 x.fOp, A.str x.fName, A.str x.fOf] ++ x.fE.cells ++ x.fF.cells ++ [Ls false x.fArgs] ++ x.fDist.cells ++ [A.bool x.fFlag, Ls false x.fBody, Ls false x.fElse]
@[simp] theorem enc_TStmt (x : TStmt) : Enc.enc x = A.agg x.cells := by
  show x.encA = _
  cases x
  rw [TStmt.encA, TStmt.encL_map, TStmt.encL_map]
  rfl
theorem TStmt.ind {motive : TStmt → Prop} (h : ∀ e : TStmt, (∀ y ∈ e.fBody, motive y) → (∀ y ∈ e.fElse, motive y) → motive e) : ∀ e, motive e := by
  intro e
  exact TStmt.rec (motive_1 := motive) (motive_2 := fun l => ∀ y ∈ l, motive y) (fun _ _ _ _ _ _ _ _ _ _ i0 i1 => h _ i0 i1) (by simp) (fun a l h1 h2 y hy => by
    rcases List.mem_cons.1 hy with rfl | hy
    · exact h1
    · exact h2 _ hy) e
@[simp] theorem sz_TStmt : Enc.sz TStmt = 21 := rfl
inductive TStmt.ok : TStmt → Prop
  | mk (x : TStmt) (hOp : (Lit.int .i64 x.fOp).wf = true) (hName : x.fName.length ≤ 9223372036854775807) (hOf : x.fOf.length ≤ 9223372036854775807) (hE : x.fE.ok) (hF : x.fF.ok) (hArgs : x.fArgs.length ≤ 9223372036854775807 ∧ ∀ y0 ∈ x.fArgs, y0.ok) (hDist : x.fDist.ok) (lBody : x.fBody.length ≤ 9223372036854775807) (hBody : ∀ y ∈ x.fBody, TStmt.ok y) (lElse : x.fElse.length ≤ 9223372036854775807) (hElse : ∀ y ∈ x.fElse, TStmt.ok y) : TStmt.ok x
theorem wt_TStmt {P : Program} [h : Facts P] {n : Nat} {cs : List A} (h : WTc P n 47 cs) : ∃ x : TStmt, cs = x.cells ∧ x.ok := by
  induction n using Nat.strongRecOn generalizing cs with
  | ind n ih =>
  obtain ⟨m, rfl, hl, h⟩ := WTc_struct w47_ h
  rw [c47_] at hl
  match cs, hl with
  | [c0, c1, c2, c3, c4, c5, c6, c7, c8, c9, c10, c11, c12, c13, c14, c15, c16, c17, c18, c19, c20], _ =>
    have h0 := h (37, 0) (by simp)
    have h1 := h (9, 1) (by simp)
    have h2 := h (9, 2) (by simp)
    have h3 := h (41, 3) (by simp)
    have h4 := h (41, 7) (by simp)
    have h5 := h (39, 11) (by simp)
    have h6 := h (45, 12) (by simp)
    have h7 := h (4, 18) (by simp)
    have h8 := h (22, 19) (by simp)
    have h9 := h (22, 20) (by simp)
    clear h
    simp only [c22_, c37_, c39_, c41_, c45_, c4_, c9_, List.drop, List.take] at h0 h1 h2 h3 h4 h5 h6 h7 h8 h9
    obtain ⟨z0, e0, b0⟩ := WTc_int (k := .i64) i37_ h0
    obtain ⟨z1, e1, b1⟩ := WTc_str t9_ h1
    obtain ⟨z2, e2, b2⟩ := WTc_str t9_ h2
    obtain ⟨z3, e3, b3⟩ := wt_TExpr h3
    obtain ⟨z4, e4, b4⟩ := wt_TExpr h4
    obtain ⟨z5, e5, b5, q5⟩ := WTc_slice (α := TExpr) (Q := (fun y => y.ok)) s39_ (fun m cs _ h => by
      rw [l39_] at h ⊢
      obtain ⟨x, rfl, b⟩ := wt_TExpr h
      exact ⟨x, (pack_agg a41_).trans (enc_TExpr x).symm, b⟩) h5
    obtain ⟨z6, e6, b6⟩ := wt_TDist h6
    obtain ⟨z7, e7⟩ := WTc_bool d4_ h7
    obtain ⟨z8, e8, b8, q8⟩ := WTc_slice (α := TStmt) (Q := (fun y => y.ok)) s22_ (fun m cs _ h => by
      rw [l22_] at h ⊢
      obtain ⟨x, rfl, b⟩ := ih _ (by omega) h
      exact ⟨x, by rw [enc_TStmt]; exact pack_agg a47_, b⟩) h8
    obtain ⟨z9, e9, b9, q9⟩ := WTc_slice (α := TStmt) (Q := (fun y => y.ok)) s22_ (fun m cs _ h => by
      rw [l22_] at h ⊢
      obtain ⟨x, rfl, b⟩ := ih _ (by omega) h
      exact ⟨x, by rw [enc_TStmt]; exact pack_agg a47_, b⟩) h9
    simp only [List.cons.injEq, and_true] at e0
    subst e0
    simp only [List.cons.injEq, and_true] at e1
    subst e1
    simp only [List.cons.injEq, and_true] at e2
    subst e2
    simp only [TExpr.cells, List.cons.injEq, and_true] at e3
    obtain ⟨rfl, rfl, rfl, rfl⟩ := e3
    simp only [TExpr.cells, List.cons.injEq, and_true] at e4
    obtain ⟨rfl, rfl, rfl, rfl⟩ := e4
    simp only [List.cons.injEq, and_true] at e5
    subst e5
    simp only [TDist.cells, List.cons.injEq, and_true] at e6
    obtain ⟨rfl, rfl, rfl, rfl, rfl, rfl⟩ := e6
    simp only [List.cons.injEq, and_true] at e7
    subst e7
    simp only [List.cons.injEq, and_true] at e8
    subst e8
    simp only [List.cons.injEq, and_true] at e9
    subst e9
    exact ⟨⟨z0, z1, z2, z3, z4, z5, z6, z7, z8, z9⟩, rfl, .mk _ b0 (by rw [← maxLen_eq]; exact b1) (by rw [← maxLen_eq]; exact b2) b3 b4 ⟨b5, q5⟩ b6 b8 q8 b9 q9⟩

structure Tkind where
  fCode : Bool
  deriving DecidableEq
@[simp] def Tkind.cells (x : Tkind) : List A := [A.bool x.fCode]
instance : Enc Tkind := ⟨fun x => .agg x.cells, 1, fun x => by simp, fun x => by simp, fun x => by simp, by decide⟩
@[simp] theorem enc_Tkind (x : Tkind) : Enc.enc x = A.agg x.cells := rfl
@[simp] theorem sz_Tkind : Enc.sz Tkind = 1 := rfl
def Tkind.ok (_x : Tkind) : Prop := True
theorem wt_Tkind {P : Program} [h : Facts P] {n : Nat} {cs : List A} (h : WTc P n 108 cs) : ∃ x : Tkind, cs = x.cells ∧ x.ok := by
  obtain ⟨m, rfl, hl, h⟩ := WTc_struct w108_ h
  rw [c108_] at hl
  match cs, hl with
  | [c0], _ =>
    have h0 := h (4, 0) (by simp)
    clear h
    simp only [c4_, List.drop, List.take] at h0
    obtain ⟨z0, e0⟩ := WTc_bool d4_ h0
    simp only [List.cons.injEq, and_true] at e0
    subst e0
    exact ⟨⟨z0⟩, rfl, trivial⟩

structure Tuse where
  fName : Bool
  fOf : Bool
  fE : Bool
  fF : Bool
  fArgs : Bool
  fDist : Bool
  fFlag : Bool
  fBody : Bool
  fOther : Bool
  deriving DecidableEq
@[simp] def Tuse.cells (x : Tuse) : List A := [A.bool x.fName, A.bool x.fOf, A.bool x.fE, A.bool x.fF, A.bool x.fArgs, A.bool x.fDist, A.bool x.fFlag, A.bool x.fBody, A.bool x.fOther]
instance : Enc Tuse := ⟨fun x => .agg x.cells, 9, fun x => by simp, fun x => by simp, fun x => by simp, by decide⟩
@[simp] theorem enc_Tuse (x : Tuse) : Enc.enc x = A.agg x.cells := rfl
@[simp] theorem sz_Tuse : Enc.sz Tuse = 9 := rfl
def Tuse.ok (_x : Tuse) : Prop := True
theorem wt_Tuse {P : Program} [h : Facts P] {n : Nat} {cs : List A} (h : WTc P n 67 cs) : ∃ x : Tuse, cs = x.cells ∧ x.ok := by
  obtain ⟨m, rfl, hl, h⟩ := WTc_struct w67_ h
  rw [c67_] at hl
  match cs, hl with
  | [c0, c1, c2, c3, c4, c5, c6, c7, c8], _ =>
    have h0 := h (4, 0) (by simp)
    have h1 := h (4, 1) (by simp)
    have h2 := h (4, 2) (by simp)
    have h3 := h (4, 3) (by simp)
    have h4 := h (4, 4) (by simp)
    have h5 := h (4, 5) (by simp)
    have h6 := h (4, 6) (by simp)
    have h7 := h (4, 7) (by simp)
    have h8 := h (4, 8) (by simp)
    clear h
    simp only [c4_, List.drop, List.take] at h0 h1 h2 h3 h4 h5 h6 h7 h8
    obtain ⟨z0, e0⟩ := WTc_bool d4_ h0
    obtain ⟨z1, e1⟩ := WTc_bool d4_ h1
    obtain ⟨z2, e2⟩ := WTc_bool d4_ h2
    obtain ⟨z3, e3⟩ := WTc_bool d4_ h3
    obtain ⟨z4, e4⟩ := WTc_bool d4_ h4
    obtain ⟨z5, e5⟩ := WTc_bool d4_ h5
    obtain ⟨z6, e6⟩ := WTc_bool d4_ h6
    obtain ⟨z7, e7⟩ := WTc_bool d4_ h7
    obtain ⟨z8, e8⟩ := WTc_bool d4_ h8
    simp only [List.cons.injEq, and_true] at e0
    subst e0
    simp only [List.cons.injEq, and_true] at e1
    subst e1
    simp only [List.cons.injEq, and_true] at e2
    subst e2
    simp only [List.cons.injEq, and_true] at e3
    subst e3
    simp only [List.cons.injEq, and_true] at e4
    subst e4
    simp only [List.cons.injEq, and_true] at e5
    subst e5
    simp only [List.cons.injEq, and_true] at e6
    subst e6
    simp only [List.cons.injEq, and_true] at e7
    subst e7
    simp only [List.cons.injEq, and_true] at e8
    subst e8
    exact ⟨⟨z0, z1, z2, z3, z4, z5, z6, z7, z8⟩, rfl, trivial⟩

structure TForm where
  fName : Bool
  fOf : Bool
  fE : Bool
  fF : Bool
  fArgs : Bool
  fDist : Bool
  fFlag : Bool
  fBody : Bool
  fElse : Bool
  deriving DecidableEq
@[simp] def TForm.cells (x : TForm) : List A := [A.bool x.fName, A.bool x.fOf, A.bool x.fE, A.bool x.fF, A.bool x.fArgs, A.bool x.fDist, A.bool x.fFlag, A.bool x.fBody, A.bool x.fElse]
instance : Enc TForm := ⟨fun x => .agg x.cells, 9, fun x => by simp, fun x => by simp, fun x => by simp, by decide⟩
@[simp] theorem enc_TForm (x : TForm) : Enc.enc x = A.agg x.cells := rfl
@[simp] theorem sz_TForm : Enc.sz TForm = 9 := rfl
def TForm.ok (_x : TForm) : Prop := True
theorem wt_TForm {P : Program} [h : Facts P] {n : Nat} {cs : List A} (h : WTc P n 87 cs) : ∃ x : TForm, cs = x.cells ∧ x.ok := by
  obtain ⟨m, rfl, hl, h⟩ := WTc_struct w87_ h
  rw [c87_] at hl
  match cs, hl with
  | [c0, c1, c2, c3, c4, c5, c6, c7, c8], _ =>
    have h0 := h (4, 0) (by simp)
    have h1 := h (4, 1) (by simp)
    have h2 := h (4, 2) (by simp)
    have h3 := h (4, 3) (by simp)
    have h4 := h (4, 4) (by simp)
    have h5 := h (4, 5) (by simp)
    have h6 := h (4, 6) (by simp)
    have h7 := h (4, 7) (by simp)
    have h8 := h (4, 8) (by simp)
    clear h
    simp only [c4_, List.drop, List.take] at h0 h1 h2 h3 h4 h5 h6 h7 h8
    obtain ⟨z0, e0⟩ := WTc_bool d4_ h0
    obtain ⟨z1, e1⟩ := WTc_bool d4_ h1
    obtain ⟨z2, e2⟩ := WTc_bool d4_ h2
    obtain ⟨z3, e3⟩ := WTc_bool d4_ h3
    obtain ⟨z4, e4⟩ := WTc_bool d4_ h4
    obtain ⟨z5, e5⟩ := WTc_bool d4_ h5
    obtain ⟨z6, e6⟩ := WTc_bool d4_ h6
    obtain ⟨z7, e7⟩ := WTc_bool d4_ h7
    obtain ⟨z8, e8⟩ := WTc_bool d4_ h8
    simp only [List.cons.injEq, and_true] at e0
    subst e0
    simp only [List.cons.injEq, and_true] at e1
    subst e1
    simp only [List.cons.injEq, and_true] at e2
    subst e2
    simp only [List.cons.injEq, and_true] at e3
    subst e3
    simp only [List.cons.injEq, and_true] at e4
    subst e4
    simp only [List.cons.injEq, and_true] at e5
    subst e5
    simp only [List.cons.injEq, and_true] at e6
    subst e6
    simp only [List.cons.injEq, and_true] at e7
    subst e7
    simp only [List.cons.injEq, and_true] at e8
    subst e8
    exact ⟨⟨z0, z1, z2, z3, z4, z5, z6, z7, z8⟩, rfl, trivial⟩

/-! types: TExpr 41, TDist 45, TStmt 47, Tkind 108, Tuse 67, TForm 87 -/
end Go.Proofs.Ytadllkhmihbfhaa
