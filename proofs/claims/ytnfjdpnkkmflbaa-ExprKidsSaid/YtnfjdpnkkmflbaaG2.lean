/- Chapter 09: expressions: the laws Checks, Consts and Kids, over any program that has the text, given the library's sort. -/
import Derived.Test.YtnfjdpnkkmflbaaG1
namespace Go.Proofs.Ytnfjdpnkkmflbaa
open Go.AL
variable {P : Program} [h : Facts P]

set_option maxHeartbeats 4000000 in
theorem c_ExprChecks (hso : SortAt P 39) (e : TExpr) (hok : e.ok) : FCall P 3 [.agg e.cells] (fun r => r = .bool true) := by
  refine fcall_ofB [3] h.f3 rfl (by decide) h.mo (by kernel_rfl) fun X hX => ?_
  simp
  refine xcall_fn (c_few e hok) (by simp) ?_
  cases hf : fewB e
  · simp
    refine xcall_fn (c_awake hso) (by simp) ?_
    simp
  have hcnt := (fewB_cnt hf).1
  simp
  refine awp_quiet [0, 2, 1, 3, 4, 5, 6, 8, 7, 9, 10, 11, 12, 13, 15, 14, 16, 17, 18, 19, 20, 22, 21, 23, 24, 25, 26, 27, 28, 29] _ h.mo (by kernel_rfl) (by decide) (by kernel_rfl) (by rfl) ?_
  simp
  refine ⟨_, c_Check e hok (by omega), ?_⟩
  simp
  refine ⟨_, c_RCheck e hok (by omega), ?_⟩
  simp
  refine ⟨_, c_CheckCode e hok (by omega), ?_⟩
  simp
  refine ⟨_, c_RCheckCode e hok (by omega), ?_⟩
  simp
  refine ⟨_, c_Nodes e (by omega), ?_⟩
  simp
  refine ⟨_, c_RNodes e (by omega), ?_⟩
  simp
  refine ⟨_, c_Depth e (by omega), ?_⟩
  simp
  refine ⟨_, c_RDepth e (by omega), ?_⟩
  simp
  refine ⟨_, c_awake hso, ?_⟩
  simp
theorem const_ok (t n : Int) (hn : (Lit.int .i64 n).wf = true) : (constE t n).ok := by
  unfold constE
  split
  · exact ok_leaf _ _ _ (by decide) (by simp) hn
  split
  · exact ok_leaf _ _ _ (by decide) (by simp) (by split <;> decide)
  split
  · refine .mk _ (show (Lit.int .i64 7).wf = true by decide) (by simp) (show (Lit.int .i64 0).wf = true by decide) (by simp) ?_
    intro y hy
    simp only [List.mem_cons, List.not_mem_nil, or_false] at hy
    rw [hy]
    exact ok_leaf _ _ _ (by decide) (by simp) hn
  · exact ok_leaf _ _ _ (by decide) (by simp) (by decide)
theorem const_cnt (t n : Int) : cntE (constE t n) ≤ 2 := by
  unfold constE
  split
  · simp [cntE_eq, cntL_nil]
  split
  · simp [cntE_eq, cntL_nil]
  split
  · simp [cntE_eq, cntL_nil, cntL_cons]
  · simp [cntE_eq, cntL_nil]
set_option maxHeartbeats 4000000 in
theorem c_ExprConsts (hso : SortAt P 39) (t n : Int) (hn : (Lit.int .i64 n).wf = true) : FCall P 9 [.int .i64 t, .int .i64 n] (fun r => r = .bool true) := by
  refine fcall_ofA h.f9 rfl (by decide) fun X hX => ?_
  have hok := const_ok t n hn
  have hcn := const_cnt t n
  have k1 := chk_const false t n
  have k2 := chk_const true t n
  refine awp_seq (vc_sound h.mo _ _ _ (by kernel_rfl) ?_)
  simp
  refine awp_seq (vc_sound h.mo _ _ _ (by kernel_rfl) ?_)
  simp
  refine xcall_fn (c_Const t n) (by simp) ?_
  simp
  refine awp_cut (⟨[.int .i64 t, .int .i64 n, .any, .any, .bool false, .pto 0 4 0 0, .bool (rightZ t n), .any, .any, .any, .any, .any, .any, .any, .any, .any, .any, .any, .any, .any, .any, .any, .any, .any, .any, .any, .any, .any, .any, .any, .any, .any, .any, .any, .any, .any, .any, .any, .any, .any, .any, .any, .any, .any, .any, .any, .any, .any], [⟨25, 4, [.agg (constE t n).cells], 0, true⟩]⟩ : S) (vc_sound h.mo _ _ _ (by kernel_rfl) ?_) ?_
  case refine_1 =>
    unfold rightZ
    by_cases t2 : t = 2
    · simp [t2]
      exact Wk.ren 0 [0] hX rfl (by decide) (by simp) (by simp) (by simp) (by simp)
    by_cases t1 : t = 1
    · by_cases n1 : -1000000000000 ≤ n <;> by_cases n2 : n ≤ 1000000000000 <;> simp [t1, n1, n2] <;> exact Wk.ren 0 [0] hX rfl (by decide) (by simp) (by simp) (by simp) (by simp)
    by_cases t3 : t = 3
    · by_cases n1 : -1000000000000 ≤ n <;> by_cases n2 : n ≤ 1000000000000 <;> simp [t3, n1, n2] <;> exact Wk.ren 0 [0] hX rfl (by decide) (by simp) (by simp) (by simp) (by simp)
    simp [t1, t2, t3]
    exact Wk.ren 0 [0] hX rfl (by decide) (by simp) (by simp) (by simp) (by simp)
  have hrc := c_RConst (P := P) t n
  generalize constE t n = e at *
  generalize rightZ t n = rz at *
  refine vcB_sound [5] h.mo _ _ _ (by kernel_rfl) ?_
  simp
  refine xcall_fn (c_Check e hok (by omega)) (by simp) ?_
  simp [k1]
  refine xcall_fn (c_CheckCode e hok (by omega)) (by simp) ?_
  simp [k2]
  refine awp_quiet [0, 1, 2, 3, 4, 5, 6, 7, 8] _ h.mo (by kernel_rfl) (by decide) (by kernel_rfl) (by rfl) ?_
  simp
  refine ⟨_, hrc, ?_⟩
  simp
  refine ⟨_, c_RSame e hok e, ?_⟩
  simp [sameB_self]
  refine ⟨_, c_awake hso, ?_⟩
  simp
set_option maxHeartbeats 4000000 in
theorem c_ExprKids (hso : SortAt P 39) (e : TExpr) (hok : e.ok) : FCall P 4 [.agg e.cells] (fun r => r = .bool true) := by
  refine fcall_of h.f4 rfl (by decide) h.mo (by kernel_rfl) fun X hX => ?_
  simp
  refine xcall_fn (c_few e hok) (by simp) ?_
  cases hf : fewB e
  · simp
    refine xcall_fn (c_awake hso) (by simp) ?_
    simp
  have hcnt := (fewB_cnt hf).1
  have hC := c_Check (P := P) e hok (by omega)
  have hD := c_CheckCode (P := P) e hok (by omega)
  have hN := c_Nodes (P := P) e (by omega)
  have hP := c_Depth (P := P) e (by omega)
  have hkf : chkE false e = 0 → ∀ y ∈ e.fKids, chkE false y = 0 := chk_kid
  have hkt : chkE true e = 0 → ∀ y ∈ e.fKids, chkE true y = 0 := chk_kid
  have hdc := depE_cnt e
  rw [depE_eq] at hdc hP
  rw [cntE_eq] at hcnt hdc hN
  obtain ⟨_, _, _, _, hkl, hko⟩ := hok
  obtain ⟨op, nm, n, ks⟩ := e
  simp only at hkl hko hcnt hkf hkt hdc hN hP
  generalize hvf : chkE false ⟨op, nm, n, ks⟩ = vf at *
  generalize hvt : chkE true ⟨op, nm, n, ks⟩ = vt at *
  simp
  refine awp_loop (σ := Nat × Nat × Nat) (fun z => (⟨[.any, .pto 0 4 0 0, .bool false, .int .i64 z.2.1, .int .i64 z.2.2, .int .i64 z.1, .any, .any, .any, .any, .any, .any, .any, .any, .any, .any, .any, .any, .any, .any, .any, .any, .any, .any, .any, .any, .any, .any, .any, .any, .any, .any, .any, .any, .any, .any, .any, .any, .any, .any, .any, .any, .any, .any, .any, .any, .any, .any, .any, .any, .any, .any, .any, .any, .any, .any, .any, .any, .any, .any, .any, .any, .any, .any, .any, .any, .any, .any, .any, .any, .any, .any, .any], [⟨25, 4, [.agg (⟨op, nm, n, ks⟩ : TExpr).cells], 0, true⟩]⟩ : S)) (fun z => z.1 ≤ ks.length ∧ z.2.1 + cntL (ks.drop z.1) = cntL ks + 1 ∧ max z.2.2 (depL (ks.drop z.1)) = depL ks) (fun z => ks.length - z.1) (0, 1, 0) (Wk.ren 0 [0] hX rfl (by decide) (by simp) (by simp) (by simp) (by simp)) ⟨by simp, by simp; omega, by simp⟩ ?_
  rintro ⟨k, c, d⟩ ⟨hk, hc, hd⟩
  simp only at hk hc hd
  refine vc_sound h.mo _ _ _ (by kernel_rfl) ?_
  rcases Nat.lt_or_ge k ks.length with hlt | hge
  · have hk1 := wrap_succ hlt hkl
    have hmem := List.getElem_mem hlt
    have hcm := cntL_mem _ _ hmem
    have hdm := depE_cnt ks[k]
    rw [List.drop_eq_getElem_cons hlt, cntL_cons] at hc
    rw [List.drop_eq_getElem_cons hlt, depL_cons] at hd
    have w1 : IntKind.i64.wrap ((c : Int) + (cntE ks[k] : Int)) = ((c + cntE ks[k] : Nat) : Int) := by rw [i64_id (by omega) (by omega)]; omega
    have w3 : max (d : Int) (depE ks[k] : Int) = ((max d (depE ks[k]) : Nat) : Int) := by omega
    have ck := c_Check (P := P) ks[k] (hko _ hmem) (by omega)
    have dk := c_CheckCode (P := P) ks[k] (hko _ hmem) (by omega)
    have nk := c_Nodes (P := P) ks[k] (by omega)
    have pk := c_Depth (P := P) ks[k] (by omega)
    have e1 : vf = 0 → chkE false ks[k] = 0 := fun q => hkf q _ hmem
    have e2 : vt = 0 → chkE true ks[k] = 0 := fun q => hkt q _ hmem
    simp [hlt, -Prod.exists]
    refine xcall_fn hC (by simp) ?_
    by_cases q1 : vf = 0
    case' pos =>
      have e1' := e1 q1
      simp [q1, hlt, -Prod.exists]
      refine xcall_fn ck (by simp) ?_
      simp [e1', -Prod.exists]
    case' neg => simp [q1, -Prod.exists]
    all_goals
      refine xcall_fn hD (by simp) ?_
      by_cases q2 : vt = 0
      case' pos =>
        have e2' := e2 q2
        simp [q2, hlt, -Prod.exists]
        refine xcall_fn dk (by simp) ?_
        simp [e2', hlt, -Prod.exists]
      case' neg => simp [q2, hlt, -Prod.exists]
      all_goals
        refine xcall_fn nk (by simp) ?_
        simp [hlt, -Prod.exists]
        refine xcall_fn pk (by simp) ?_
        simp [-Prod.exists]
        exact ⟨(k + 1, c + cntE ks[k], max d (depE ks[k])), Wk.ren 0 [0] hX rfl (by decide) (by simp [hk1, w1, w3]) (by simp) (by simp) (by simp), ⟨by omega, by simp only; omega, by simp only; omega⟩, by omega⟩
  · have hkl : k = ks.length := by omega
    subst hkl
    rw [List.drop_length, cntL_nil] at hc
    rw [List.drop_length, depL_nil] at hd
    have hcc : c = cntL ks + 1 := by omega
    have hdd : d = depL ks := by omega
    subst hcc hdd
    simp
    refine xcall_fn hN (by simp) ?_
    simp
    refine xcall_fn hP (by simp) ?_
    have w2 : IntKind.i64.wrap ((depL ks : Int) + 1) = (depL ks : Int) + 1 := by rw [i64_id (by omega) (by omega)]
    simp [w2]
    refine xcall_fn (c_awake hso) (by simp) ?_
    simp
end Go.Proofs.Ytnfjdpnkkmflbaa
