/- Chapter 15: values of expressions: plain laws of accepted expressions. -/
import Derived.Test.YtnahhdbheeinfaaE8
namespace Go.Proofs.Ytnahhdbheeinfaa
open Go.AL

theorem ndsL_mem {code : Bool} : ∀ {l : List TExpr}, ndsL code l = 0 → ∀ y ∈ l, ndsE code y = 0
  | [], _, y, hy => by cases hy
  | x :: l, h0, y, hy => by
    rw [ndsL_cons] at h0
    split at h0
    · rename_i h1; exact absurd h0 h1
    · rename_i h1
      rcases List.mem_cons.1 hy with rfl | hy
      · simpa using h1
      · exact ndsL_mem h0 y hy
theorem ndsE_zero {code : Bool} {e : TExpr} (h0 : ndsE code e = 0) : nodeE code e = 0 ∧ ∀ y ∈ e.fKids, ndsE code y = 0 := by
  rw [ndsE_eq] at h0
  split at h0
  · rename_i h1; exact absurd h0 h1
  · rename_i h1; exact ⟨by simpa using h1, ndsL_mem h0⟩
theorem chk_zero {code : Bool} {e : TExpr} (h0 : chkE code e = 0) : cntE e ≤ 60 ∧ depE e ≤ 12 ∧ ndsE code e = 0 := by
  unfold chkE at h0
  split at h0
  · omega
  split at h0
  · omega
  exact ⟨by omega, by omega, h0⟩
theorem chk_of {code : Bool} {e : TExpr} (h1 : cntE e ≤ 60) (h2 : depE e ≤ 12) (h3 : ndsE code e = 0) : chkE code e = 0 := by
  unfold chkE
  rw [if_neg (by omega), if_neg (by omega), h3]
theorem chk_kid {code : Bool} {e : TExpr} (h0 : chkE code e = 0) : ∀ y ∈ e.fKids, chkE code y = 0 := by
  intro y hy
  obtain ⟨h1, h2, h3⟩ := chk_zero h0
  have hc := cntL_mem _ _ hy
  have hd := depL_mem _ _ hy
  rw [cntE_eq] at h1
  rw [depE_eq] at h2
  exact chk_of (by omega) (by omega) ((ndsE_zero h3).2 y hy)
/-- An accepted node of a compiled expression: its form, and how many kids it has. -/
theorem node_form {e : TExpr} (h0 : nodeE true e = 0) : ((e.fOp = 1 ∨ e.fOp = 2 ∨ (e.fOp = 4 ∧ e.fN = 0) ∨ (22 ≤ e.fOp ∧ e.fOp ≤ 26)) ∧ e.fKids = []) ∨ (5 ≤ e.fOp ∧ e.fOp ≤ 8 ∧ ∃ a, e.fKids = [a]) ∨ (9 ≤ e.fOp ∧ e.fOp ≤ 21 ∧ ∃ a b, e.fKids = [a, b]) := by
  obtain ⟨op, nm, n, ks⟩ := e
  unfold nodeE at h0
  split at h0
  · omega
  rename_i hb
  have hk : knownB true op = true := by
    cases q : knownB true op
    · exact absurd (.inl q) hb
    · rfl
  have hl : (ks.length : Int) = arity op := Classical.byContradiction fun q => hb (.inr (.inl q))
  simp only at h0 ⊢
  clear hb
  have hn4 : op = 4 → n = 0 := by
    intro q
    subst q
    apply Classical.byContradiction
    intro z
    simp [numP, objB, z] at h0
  have hc : (op = 1 ∨ op = 2 ∨ op = 4 ∨ (22 ≤ op ∧ op ≤ 26)) ∨ (5 ≤ op ∧ op ≤ 8) ∨ (9 ≤ op ∧ op ≤ 21) ∨ op = 3 ∨ (op < 1 ∨ 26 < op) := by omega
  rcases hc with c | c | c | rfl | c
  · refine .inl ⟨by omega, ?_⟩
    have ha : arity op = 0 := by unfold arity; (repeat' split) <;> omega
    rw [ha] at hl
    exact List.length_eq_zero_iff.1 (by omega)
  · have ha : arity op = 1 := by unfold arity; (repeat' split) <;> omega
    rw [ha] at hl
    exact .inr (.inl ⟨c.1, c.2, List.length_eq_one_iff.1 (by omega)⟩)
  · have ha : arity op = 2 := by unfold arity; (repeat' split) <;> omega
    rw [ha] at hl
    refine .inr (.inr ⟨c.1, c.2, ?_⟩)
    match ks, hl with
    | [a, b], _ => exact ⟨a, b, rfl⟩
  · simp [knownB] at hk
  · have ha : arity op = -1 := by unfold arity; (repeat' split) <;> omega
    have n3 : ¬ op = 3 := by omega
    have n25 : ¬ op = 25 := by omega
    have n26 : ¬ op = 26 := by omega
    simp [knownB, ha, n3, n25, n26] at hk
theorem exprZ_ok {v : TView} {e : TExpr} (h0 : chkE true e = 0) : exprZ v e = valE v e := by rw [exprZ, if_pos h0]
theorem exprZ_bad {v : TView} {e : TExpr} (h0 : ¬ chkE true e = 0) : exprZ v e = 0 := by rw [exprZ, if_neg h0]

mutual
def menE (op n : Int) : TExpr → Bool
  | ⟨o, _, m, ks⟩ => (decide (o = op) && decide (m = n)) || menL op n ks
def menL (op n : Int) : List TExpr → Bool
  | [] => false
  | x :: l => menE op n x || menL op n l
end
theorem menE_eq (op n : Int) (e : TExpr) : menE op n e = ((decide (e.fOp = op) && decide (e.fN = n)) || menL op n e.fKids) := by cases e; rw [menE]
theorem menL_nil (op n : Int) : menL op n [] = false := by rw [menL]
theorem menL_cons (op n : Int) (x : TExpr) (l : List TExpr) : menL op n (x :: l) = (menE op n x || menL op n l) := by rw [menL]
theorem menL_mem {op n : Int} : ∀ {l : List TExpr} {y : TExpr}, y ∈ l → menE op n y = true → menL op n l = true
  | [], _, hy, _ => by cases hy
  | x :: l, y, hy, hm => by
    rw [menL_cons]
    rcases List.mem_cons.1 hy with rfl | hy
    · simp [hm]
    · simp [menL_mem hy hm]
theorem valE_congr (v x : TView) : ∀ (e : TExpr), ndsE true e = 0 → (∀ op n, menE op n e = true → (op = 1 ∨ op = 2 ∨ (op = 4 ∧ n = 0) ∨ (22 ≤ op ∧ op ≤ 26)) → leafZ v op n = leafZ x op n) → valE v e = valE x e := by
  refine TExpr.ind fun e ih => ?_
  intro h0 hm
  obtain ⟨h1, h2⟩ := ndsE_zero h0
  have hform := node_form h1
  have hk : ∀ y ∈ e.fKids, valE v y = valE x y := fun y hy => ih y hy (h2 y hy) fun op n hmy ho => hm op n (by rw [menE_eq, menL_mem hy hmy, Bool.or_true]) ho
  have hself := hm e.fOp e.fN (by rw [menE_eq]; simp)
  obtain ⟨op, nm, n, ks⟩ := e
  simp only at hform hk hself
  rw [valE_eq, valE_eq]
  rcases hform with ⟨c, rfl⟩ | ⟨_, _, a, rfl⟩ | ⟨_, _, a, b, rfl⟩
  · simp only [valL_nil, nodeV]
    exact hself c
  · simp only [valL_nil, valL_cons, nodeV, hk a (by simp)]
  · simp only [valL_nil, valL_cons, nodeV, hk a (by simp), hk b (by simp)]
theorem elem_set (l : List Int) (k : Nat) (n i : Int) (hi : i ≠ (k : Int)) : elemZ (l.set k n) i = elemZ l i := by
  unfold elemZ
  split
  · rfl
  · rw [List.getD_eq_getElem?_getD, List.getD_eq_getElem?_getD, List.getElem?_set_ne (by omega)]
def setIf (b : Bool) (l : List Int) (k : Nat) (n : Int) : List Int := if b = true then l else l.set k n
/-- The view with other elements where the expression does not mention them. -/
def seenV (v : TView) (e : TExpr) (k : Nat) (n : Int) : TView :=
  ⟨if menE 4 0 e = true then v.fNow else n, setIf (menE 25 k e) v.fSlots k n, setIf (menE 26 k e) v.fVars k n, setIf (menE 22 k e) v.fFree k n, setIf (menE 23 k e) v.fSize k n, setIf (menE 24 k e) v.fWaiting k n⟩
theorem setIf_elem {op : Int} {e : TExpr} {l : List Int} {k : Nat} {n i : Int} (hm : menE op i e = true) : elemZ (setIf (menE op k e) l k n) i = elemZ l i := by
  unfold setIf
  split
  · rfl
  · rename_i h0
    by_cases q : i = (k : Int)
    · rw [← q, hm] at h0; exact absurd rfl h0
    · exact elem_set l k n i q
theorem seen_expr (v : TView) (e : TExpr) (k : Nat) (n : Int) : exprZ v e = exprZ (seenV v e k n) e := by
  by_cases h0 : chkE true e = 0
  · rw [exprZ_ok h0, exprZ_ok h0]
    refine valE_congr v _ e (chk_zero h0).2.2 fun op m hm ho => ?_
    have hc : op = 1 ∨ op = 2 ∨ (op = 4 ∧ m = 0) ∨ op = 22 ∨ op = 23 ∨ op = 24 ∨ op = 25 ∨ op = 26 := by omega
    rcases hc with rfl | rfl | ⟨rfl, rfl⟩ | rfl | rfl | rfl | rfl | rfl
    · simp [leafZ]
    · simp [leafZ]
    · simp [leafZ, seenV, hm]
    · simp [leafZ, seenV, setIf_elem hm]
    · simp [leafZ, seenV, setIf_elem hm]
    · simp [leafZ, seenV, setIf_elem hm]
    · simp [leafZ, seenV, setIf_elem hm]
    · simp [leafZ, seenV, setIf_elem hm]
  · rw [exprZ_bad h0, exprZ_bad h0]
end Go.Proofs.Ytnahhdbheeinfaa
