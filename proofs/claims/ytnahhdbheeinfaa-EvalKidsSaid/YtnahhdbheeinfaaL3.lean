/- Chapter 15: values of expressions: the law of the kids, over any program that has the text. -/
import Derived.Test.YtnahhdbheeinfaaA1
import Derived.Test.YtnahhdbheeinfaaP2
namespace Go.Proofs.Ytnahhdbheeinfaa
open Go.AL
variable {P : Program} [h : Facts P]

set_option maxHeartbeats 4000000 in
theorem c_EvalKids (v : TView) (e : TExpr) (hok : e.ok) : FCall P 4 [.agg v.cells, .agg e.cells] (fun r => r = .bool true) := by
  refine fcall_ofB [7, 9, 10] h.f4 rfl (by decide) h.mo (by kernel_rfl) fun X hX => ?_
  have cf := c_few (P := P) e hok
  obtain ⟨op, nm, n, ks⟩ := e
  simp
  refine xcall_fn cf (by simp) ?_
  cases hf : fewB ⟨op, nm, n, ks⟩
  · simp
    refine xcall_fn c_awake (by simp) ?_
    simp
  have hcnt := (fewB_cnt hf).1
  have cx := c_Expr (P := P) v ⟨op, nm, n, ks⟩ hok (by omega)
  simp
  refine xcall_fn (c_CheckCode _ hok (by omega)) (by simp) ?_
  by_cases h0 : chkE true ⟨op, nm, n, ks⟩ = 0
  case neg =>
    rw [exprZ_bad h0] at cx
    simp [h0]
    refine xcall_fn cx (by simp) ?_
    simp
    refine xcall_fn c_awake (by simp) ?_
    simp
  have hkid := chk_kid h0
  have hform := node_form (ndsE_zero (chk_zero h0).2.2).1
  rw [exprZ_ok h0, valE_eq] at cx
  have hko : ∀ y ∈ ks, y.ok := by cases hok; assumption
  have hkc : ∀ y ∈ ks, cntE y ≤ 4000000000000000000 := fun y hy => by
    have h1 := cntL_mem _ _ hy
    rw [cntE_eq] at hcnt
    simp only at hcnt
    omega
  simp only at hkid hform
  rcases hform with ⟨c, rfl⟩ | ⟨_, _, a, rfl⟩ | ⟨_, _, a, b, rfl⟩
  · rw [valL_nil, nodeV] at cx
    simp [h0]
    refine awp_quiet [0, 1, 2, 3, 4, 5, 7, 8, 6, 9, 10, 11, 12, 13, 14, 15, 16, 17, 19, 20, 18, 21, 22, 23, 24, 25, 26, 27] _ h.mo (by kernel_rfl) (by decide) (by kernel_rfl) (by rfl) ?_
    by_cases o1 : op = 1
    · have e1 : leafZ v op n = n := by simp [leafZ, o1]
      rw [e1] at cx
      have o4 : ¬ op = 4 := by omega
      simp [eq_true o1, o4]
      refine ⟨_, cx, ?_⟩
      simp [eq_true o1, o4]
      refine ⟨_, c_awake, ?_⟩
      simp
    by_cases o4 : op = 4
    · have e1 : leafZ v op n = v.fNow := by simp [leafZ, o4]
      rw [e1] at cx
      simp [o1, eq_true o4]
      refine ⟨_, cx, ?_⟩
      simp
      refine ⟨_, c_awake, ?_⟩
      simp
    · simp [o1, o4]
      refine ⟨_, c_awake, ?_⟩
      simp
  · have ca := c_Expr (P := P) v a (hko a (by simp)) (hkc a (by simp))
    rw [exprZ_ok (hkid a (by simp))] at ca
    rw [valL_cons, valL_nil, nodeV] at cx
    simp at cx
    simp [h0]
    refine awp_quiet [0, 1, 3, 4, 5, 6, 7, 8, 9, 2, 10, 11, 12, 13, 14, 15, 16] _ h.mo (by kernel_rfl) (by decide) (by kernel_rfl) (by rfl) ?_
    simp
    refine ⟨_, cx, ?_⟩
    simp
    refine ⟨_, ca, ?_⟩
    simp
    refine ⟨_, c_Unary op (valE v a), ?_⟩
    simp
    refine ⟨_, c_awake, ?_⟩
    simp
  · have ca := c_Expr (P := P) v a (hko a (by simp)) (hkc a (by simp))
    have cb := c_Expr (P := P) v b (hko b (by simp)) (hkc b (by simp))
    rw [exprZ_ok (hkid a (by simp))] at ca
    rw [exprZ_ok (hkid b (by simp))] at cb
    rw [valL_cons, valL_cons, valL_nil, nodeV] at cx
    simp at cx
    simp [h0]
    refine awp_quiet [0, 1, 3, 4, 5, 6, 7, 8, 9, 11, 12, 13, 14, 15, 2, 10, 16, 17, 18, 19, 20, 21, 22] _ h.mo (by kernel_rfl) (by decide) (by kernel_rfl) (by rfl) ?_
    simp
    refine ⟨_, cx, ?_⟩
    simp
    refine ⟨_, ca, ?_⟩
    simp
    refine ⟨_, cb, ?_⟩
    simp
    refine ⟨_, c_Binary op (valE v a) (valE v b), ?_⟩
    simp
    refine ⟨_, c_awake, ?_⟩
    simp
end Go.Proofs.Ytnahhdbheeinfaa
