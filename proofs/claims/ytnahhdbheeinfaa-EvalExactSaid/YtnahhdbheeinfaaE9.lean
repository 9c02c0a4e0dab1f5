/- Chapter 15: values of expressions: the reference's values, over any program that has the text. -/
import Derived.Test.YtnahhdbheeinfaaE7
import Derived.Test.YtnahhdbheeinfaaP2
import Derived.Test.YtnahhdbheeinfaaN5
namespace Go.Proofs.Ytnahhdbheeinfaa
open Go.AL
variable {P : Program} [h : Facts P]

theorem c_Rcheck (code : Bool) (e : TExpr) (hok : e.ok) (hc : cntE e ≤ 4000000000000000000) : FCall P 48 [.agg e.cells, .bool code] (fun r => r = .int .i64 (chkE code e)) := by
  refine fcall_of h.f48 rfl (by decide) h.mo (by kernel_rfl) fun X hX => ?_
  simp
  refine xcall_fn (c_RNodes e hc) (by simp) ?_
  by_cases h1 : 60 < cntE e
  · have h1' : (60 : Int) < cntE e := by omega
    simp [h1', h1, chkE]
  have h1' : ¬ (60 : Int) < cntE e := by omega
  simp [h1', h1, chkE]
  refine xcall_fn (c_RDepth e hc) (by simp) ?_
  by_cases h2 : 12 < depE e
  · have h2' : (12 : Int) < depE e := by omega
    simp [h2', h2]
  have h2' : ¬ (12 : Int) < depE e := by omega
  simp [h2', h2]
  refine xcall_fn (c_Rnode code e hok) (by simp) ?_
  simp
theorem c_RCheckCode (e : TExpr) (hok : e.ok) (hc : cntE e ≤ 4000000000000000000) : FCall P 38 [.agg e.cells] (fun r => r = .int .i64 (chkE true e)) := by
  refine fcall_of h.f38 rfl (by decide) h.mo (by kernel_rfl) fun X hX => ?_
  simp
  refine xcall_fn (c_Rcheck true e hok hc) (by simp) ?_
  simp
theorem c_Relement (l : List Int) (i : Int) : FCall P 49 [Ls false l, .int .i64 i] (fun r => r = .int .i64 (elemZ l i)) := by
  refine fcall_of h.f49 rfl (by decide) h.mo (by kernel_rfl) fun X hX => ?_
  by_cases i0 : i < 0
  · simp [i0, elemZ]
  obtain ⟨k, rfl⟩ := Int.eq_ofNat_of_zero_le (show 0 ≤ i by omega)
  rcases Nat.lt_or_ge k l.length with hlt | hge
  · have h1 : ¬ l.length ≤ k := by omega
    simp [i0, hlt, h1, elemZ]
  · have h1 : ¬ k < l.length := by omega
    simp [i0, hge, h1, elemZ]
set_option maxRecDepth 4000 in
set_option maxHeartbeats 4000000 in
theorem c_Rvalue (v : TView) : ∀ (e : TExpr), ndsE true e = 0 → FCall P 39 [.agg v.cells, .agg e.cells] (fun r => r = .int .i64 (valE v e)) := by
  refine TExpr.ind fun e ih => ?_
  intro h0
  obtain ⟨g1, g2⟩ := ndsE_zero h0
  have hform := node_form g1
  obtain ⟨op, nm, n, ks⟩ := e
  simp only at hform ih g2
  refine fcall_ofB [18, 19] h.f39 rfl (by decide) h.mo (by kernel_rfl) fun X hX => ?_
  rw [valE_eq]
  rcases hform with ⟨c, rfl⟩ | ⟨c1, c2, a, rfl⟩ | ⟨c1, c2, a, b, rfl⟩
  · rw [valL_nil, nodeV, leafZ]
    have hc : op = 1 ∨ op = 2 ∨ op = 4 ∨ op = 25 ∨ op = 26 ∨ op = 22 ∨ op = 23 ∨ op = 24 := by omega
    rcases hc with rfl | rfl | rfl | rfl | rfl | rfl | rfl | rfl
    · simp
    · simp
    · simp
    · simp
      refine xcall_fn (c_Relement v.fSlots n) (by simp) ?_
      simp
    · simp
      refine xcall_fn (c_Relement v.fVars n) (by simp) ?_
      simp
    · simp
      refine xcall_fn (c_Relement v.fFree n) (by simp) ?_
      simp
    · simp
      refine xcall_fn (c_Relement v.fSize n) (by simp) ?_
      simp
    · simp
      refine xcall_fn (c_Relement v.fWaiting n) (by simp) ?_
      simp
  all_goals
    have n1 : ¬ op = 1 := by omega
    have n2 : ¬ op = 2 := by omega
    have n4 : ¬ op = 4 := by omega
    have n25 : ¬ op = 25 := by omega
    have n26 : ¬ op = 26 := by omega
    have n22 : ¬ op = 22 := by omega
    have n23 : ¬ op = 23 := by omega
    have n24 : ¬ op = 24 := by omega
    have ha := ih a (by simp) (g2 a (by simp))
  · simp [n1, n2, n4, n25, n26, n22, n23, n24]
    refine awp_quiet [0, 1, 2, 3, 4, 5, 6, 7, 8, 9] _ h.mo (by kernel_rfl) (by decide) (by kernel_rfl) (by rfl) ?_
    simp
    refine ⟨_, ha, ?_⟩
    simp
    refine ⟨_, c_RUnary op (valE v a), ?_⟩
    simp [valL_nil, valL_cons, nodeV]
  · have hb := ih b (by simp) (g2 b (by simp))
    simp [n1, n2, n4, n25, n26, n22, n23, n24]
    refine awp_quiet [0, 1, 2, 3, 4, 5, 6, 8, 9, 10, 11, 12, 7, 13, 14, 15] _ h.mo (by kernel_rfl) (by decide) (by kernel_rfl) (by rfl) ?_
    simp
    refine ⟨_, ha, ?_⟩
    simp
    refine ⟨_, hb, ?_⟩
    simp
    refine ⟨_, c_RBinary op (valE v a) (valE v b), ?_⟩
    simp [valL_nil, valL_cons, nodeV]
theorem c_RExpr (v : TView) (e : TExpr) (hok : e.ok) (hc : cntE e ≤ 4000000000000000000) : FCall P 20 [.agg v.cells, .agg e.cells] (fun r => r = .int .i64 (exprZ v e)) := by
  refine fcall_of h.f20 rfl (by decide) h.mo (by kernel_rfl) fun X hX => ?_
  unfold exprZ
  simp
  refine xcall_fn (c_RCheckCode e hok hc) (by simp) ?_
  by_cases h0 : chkE true e = 0
  · simp [h0]
    refine xcall_fn (c_Rvalue v e (chk_zero h0).2.2) (by simp) ?_
    simp
  · simp [h0]
end Go.Proofs.Ytnahhdbheeinfaa
