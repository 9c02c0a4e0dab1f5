/- Chapter 15: values of expressions: values, over any program that has the text. -/
import Derived.Test.YtnahhdbheeinfaaN4
import Derived.Test.YtnahhdbheeinfaaE5
namespace Go.Proofs.Ytnahhdbheeinfaa
open Go.AL
variable {P : Program} [h : Facts P]

def elemZ (l : List Int) (i : Int) : Int := if i < 0 then 0 else l.getD i.toNat 0
theorem c_element (l : List Int) (i : Int) : FCall P 51 [Ls false l, .int .i64 i] (fun r => r = .int .i64 (elemZ l i)) := by
  refine fcall_of h.f51 rfl (by decide) h.mo (by kernel_rfl) fun X hX => ?_
  by_cases i0 : i < 0
  · simp [i0, elemZ]
  obtain ⟨k, rfl⟩ := Int.eq_ofNat_of_zero_le (show 0 ≤ i by omega)
  rcases Nat.lt_or_ge k l.length with hlt | hge
  · have h1 : ¬ l.length ≤ k := by omega
    simp [i0, hlt, h1, elemZ]
  · have h1 : ¬ k < l.length := by omega
    simp [i0, hge, h1, elemZ]
def leafZ (v : TView) (op n : Int) : Int := if op = 1 ∨ op = 2 then n else if op = 4 then v.fNow else if op = 25 then elemZ v.fSlots n else if op = 26 then elemZ v.fVars n else if op = 22 then elemZ v.fFree n else if op = 23 then elemZ v.fSize n else elemZ v.fWaiting n
set_option maxHeartbeats 1000000 in
theorem c_leaf (v : TView) (e : TExpr) : FCall P 47 [.agg v.cells, .agg e.cells] (fun r => r = .int .i64 (leafZ v e.fOp e.fN)) := by
  refine fcall_of h.f47 rfl (by decide) h.mo (by kernel_rfl) fun X hX => ?_
  obtain ⟨op, nm, n, ks⟩ := e
  unfold leafZ
  simp only
  by_cases e1 : op = 1
  · simp [e1]
  by_cases e2 : op = 2
  · simp [e2]
  by_cases e3 : op = 4
  · simp [e3]
  by_cases e4 : op = 25
  · simp [e4]
    refine xcall_fn (c_element v.fSlots n) (by simp) ?_
    simp
  by_cases e5 : op = 26
  · simp [e5]
    refine xcall_fn (c_element v.fVars n) (by simp) ?_
    simp
  by_cases e6 : op = 22
  · simp [e6]
    refine xcall_fn (c_element v.fFree n) (by simp) ?_
    simp
  by_cases e7 : op = 23
  · simp [e7]
    refine xcall_fn (c_element v.fSize n) (by simp) ?_
    simp
  simp [e1, e2, e3, e4, e5, e6, e7]
  refine xcall_fn (c_element v.fWaiting n) (by simp) ?_
  simp
def nodeV (v : TView) (op n : Int) : List Int → Int
  | [] => leafZ v op n
  | [a] => unZ op a
  | a :: b :: _ => binZ op a b
mutual
def valE (v : TView) : TExpr → Int
  | ⟨op, _, n, ks⟩ => nodeV v op n (valL v ks)
def valL (v : TView) : List TExpr → List Int
  | [] => []
  | x :: l => valE v x :: valL v l
end
theorem valE_eq (v : TView) (op : Int) (nm : List UInt8) (n : Int) (ks : List TExpr) : valE v ⟨op, nm, n, ks⟩ = nodeV v op n (valL v ks) := by rw [valE]
theorem valL_nil (v : TView) : valL v [] = [] := by rw [valL]
theorem valL_cons (v : TView) (x : TExpr) (l : List TExpr) : valL v (x :: l) = valE v x :: valL v l := by rw [valL]
set_option maxHeartbeats 1000000 in
theorem c_value (v : TView) : ∀ (e : TExpr), FCall P 37 [.agg v.cells, .agg e.cells] (fun r => r = .int .i64 (valE v e)) := by
  refine TExpr.ind fun e ih => ?_
  have hleaf := c_leaf (P := P) v e
  obtain ⟨op, nm, n, ks⟩ := e
  simp only at ih hleaf
  refine fcall_ofB [5, 6, 7] h.f37 rfl (by decide) h.mo (by kernel_rfl) fun X hX => ?_
  rw [valE_eq]
  rcases ks with _ | ⟨a, _ | ⟨b, l⟩⟩
  · simp
    refine xcall_fn hleaf (by simp) ?_
    simp [valL_nil, nodeV]
  · have ha := ih a (by simp)
    simp
    refine awp_quiet [0, 1, 2, 3, 4, 5, 6, 7, 8, 9] _ h.mo (by kernel_rfl) (by decide) (by kernel_rfl) (by rfl) ?_
    simp
    refine ⟨_, ha, ?_⟩
    simp
    refine ⟨_, c_Unary op (valE v a), ?_⟩
    simp [valL_nil, valL_cons, nodeV]
  · have ha := ih a (by simp)
    have hb := ih b (by simp)
    have h0 : ¬ ((l.length : Int) + 1 + 1 = 0) := by omega
    have h1 : ¬ ((l.length : Int) + 1 + 1 = 1) := by omega
    have h2 : ¬ ((l.length : Int) + 1 = 0) := by omega
    have h3 : (0 : Int) < (l.length : Int) + 1 + 1 := by omega
    have h4 : (1 : Int) < (l.length : Int) + 1 + 1 := by omega
    simp [h0, h1]
    refine awp_quiet [0, 1, 2, 3, 4, 5, 6] _ h.mo (by kernel_rfl) (by decide) (by kernel_rfl) (by rfl) ?_
    simp [h3]
    refine ⟨_, ha, ?_⟩
    refine awp_quiet [0, 1, 2, 3, 4, 5, 6, 7, 8, 9, 10] _ h.mo (by kernel_rfl) (by decide) (by kernel_rfl) (by rfl) ?_
    simp [h4]
    refine ⟨_, hb, ?_⟩
    simp
    refine ⟨_, c_Binary op (valE v a) (valE v b), ?_⟩
    simp [valL_cons, nodeV]
def exprZ (v : TView) (e : TExpr) : Int := if chkE true e = 0 then valE v e else 0
theorem c_Expr (v : TView) (e : TExpr) (hok : e.ok) (hc : cntE e ≤ 4000000000000000000) : FCall P 16 [.agg v.cells, .agg e.cells] (fun r => r = .int .i64 (exprZ v e)) := by
  refine fcall_of h.f16 rfl (by decide) h.mo (by kernel_rfl) fun X hX => ?_
  unfold exprZ
  simp
  refine xcall_fn (c_CheckCode e hok hc) (by simp) ?_
  by_cases h0 : chkE true e = 0
  · simp [h0]
    refine xcall_fn (c_value v e) (by simp) ?_
    simp
  · simp [h0]
theorem c_Truth (v : TView) (e : TExpr) (hok : e.ok) (hc : cntE e ≤ 4000000000000000000) : FCall P 21 [.agg v.cells, .agg e.cells] (fun r => r = .bool (!decide (exprZ v e = 0))) := by
  refine fcall_of h.f21 rfl (by decide) h.mo (by kernel_rfl) fun X hX => ?_
  simp
  refine xcall_fn (c_Expr v e hok hc) (by simp) ?_
  simp
end Go.Proofs.Ytnahhdbheeinfaa
