/- Chapter 09: expressions: Names, over any program that has the text. -/
import Derived.Test.YtnfjdpnkkmflbaaF4
import Derived.Test.YtnfjdpnkkmflbaaQ1
import Derived.Test.YtnfjdpnkkmflbaaS1
import Derived.Test.YtnfjdpnkkmflbaaE5
namespace Go.Proofs.Ytnfjdpnkkmflbaa
open Go.AL
variable {P : Program} [h : Facts P]

theorem c_Check (e : TExpr) (hok : e.ok) (hc : cntE e ≤ 4000000000000000000) : FCall P 12 [.agg e.cells] (fun r => r = .int .i64 (chkE false e)) := by
  refine fcall_of h.f12 rfl (by decide) h.mo (by kernel_rfl) fun X hX => ?_
  simp
  refine xcall_fn (c_check false e hok hc) (by simp) ?_
  simp
set_option maxHeartbeats 2000000 in
theorem c_mentioned0 (e : TExpr) (hok : e.ok) (hc : cntE e ≤ 1000000) : XCall P 38 [.sl true [], .agg e.cells] [] (fun r L => (∀ x ∈ L, noidL x.es = true) ∧ frsh r = true ∧ r = B 0 (nmE e) ∧ L = [RF 9 (nmE e) 0]) := by
  rw [cntE_eq] at hc
  rw [nmE_eq]
  obtain ⟨_, _, _, _, hkl, hko⟩ := hok
  obtain ⟨op, nm, n, ks⟩ := e
  simp only at hkl hko hc ⊢
  refine xcall_of h.f38 rfl (by decide) h.mo (by kernel_rfl) fun X hX => ?_
  have hX0 : X.μ.length ≤ 0 := by simpa using hX
  have hse := self_len op nm
  by_cases q1 : op = 3
  case' pos =>
    have hs : selfN op nm = [nm] := by simp [selfN, q1]
    simp [eq_true q1]
    refine awp_loop (σ := Nat) (fun k => (⟨[B 0 (selfN op nm ++ nmL (ks.take k)), .any, .any, .any, .any, .any, .any, .any, .any, .any, .any, .any, .any, .any, .any, .any, .any, .any, .any, .any, .any, Ls false ks, .int .i64 ks.length, .int .i64 k, .any, .any, .any, .any, .any, .any, .any, .any], [RF 9 (selfN op nm ++ nmL (ks.take k)) 0]⟩ : S)) (fun k => k ≤ ks.length) (fun k => ks.length - k) 0 (Wk.ren 0 [2] hX0 rfl (by decide) (by simp [hs, nmL_nil]) (by simp) (by simp) (by simp [hs, nmL_nil])) (by omega) ?_
  case' neg =>
    simp [q1]
    refine xcall_fn (c_object op) (by simp) ?_
    cases q2 : objB op
    case' false =>
      have hs : selfN op nm = [] := by simp [selfN, q1, q2]
      simp
      refine awp_loop (σ := Nat) (fun k => (⟨[B 0 (selfN op nm ++ nmL (ks.take k)), .any, .any, .any, .any, .any, .any, .any, .any, .any, .any, .any, .any, .any, .any, .any, .any, .any, .any, .any, .any, Ls false ks, .int .i64 ks.length, .int .i64 k, .any, .any, .any, .any, .any, .any, .any, .any], [RF 9 (selfN op nm ++ nmL (ks.take k)) 0]⟩ : S)) (fun k => k ≤ ks.length) (fun k => ks.length - k) 0 (Wk.ren 0 [5] hX0 rfl (by decide) (by simp [hs, nmL_nil]) (by simp) (by simp) (by simp [hs, nmL_nil])) (by omega) ?_
    case' true =>
      have hs : selfN op nm = [nm] := by simp [selfN, q2]
      simp -- G1
      refine awp_loop (σ := Nat) (fun k => (⟨[B 0 (selfN op nm ++ nmL (ks.take k)), .any, .any, .any, .any, .any, .any, .any, .any, .any, .any, .any, .any, .any, .any, .any, .any, .any, .any, .any, .any, Ls false ks, .int .i64 ks.length, .int .i64 k, .any, .any, .any, .any, .any, .any, .any, .any], [RF 9 (selfN op nm ++ nmL (ks.take k)) 0]⟩ : S)) (fun k => k ≤ ks.length) (fun k => ks.length - k) 0 (Wk.ren 0 [2] hX0 rfl (by decide) (by simp [hs, nmL_nil]) (by simp) (by simp) (by simp [hs, nmL_nil])) (by omega) ?_
  all_goals
    clear hs
    rintro k hk
    refine vc_sound h.mo _ _ _ (by kernel_rfl) ?_
    rcases Nat.lt_or_ge k ks.length with hlt | hge
    · have hk1 := wrap_succ hlt hkl
      have hmem := List.getElem_mem hlt
      have hct := cntL_take_get hlt
      have hnt := nmL_cnt (ks.take k)
      have htk : selfN op nm ++ nmL (ks.take (k + 1)) = selfN op nm ++ nmL (ks.take k) ++ nmE ks[k] := by rw [nmL_take hlt]; simp only [List.append_assoc]
      have hlen : (selfN op nm ++ nmL (ks.take k)).length + cntE ks[k] ≤ 1000000 := by simp only [List.length_append]; omega
      have hxc := c_mentioned (P := P) ks[k] (hko _ hmem) _ hlen
      generalize selfN op nm ++ nmL (ks.take k) = acc at *
      simp [hlt]
      refine xcall_grow 0 hxc (by simp) (by simp) (by simp) (by simp) ?_
      rintro r r1 L (⟨rfl, rfl, rfl, he⟩ | ⟨rfl, rfl, rfl⟩)
      · rw [he, List.append_nil] at htk
        rw [grA_B0]
        simp
        exact ⟨k + 1, Wk.ren 0 [0] hX0 rfl (by decide) (by simp [hk1, htk]) (by simp) (by simp) (by simp [htk]), by omega, by omega⟩
      · rw [grA_B1]
        simp
        exact ⟨k + 1, Wk.ren 0 [2] hX0 rfl (by decide) (by simp [hk1, htk]) (by simp) (by simp) (by simp [htk]), by omega, by omega⟩
    · have hkl : k = ks.length := by omega
      subst hkl
      rw [List.take_length]
      simp -- G2
      first
        | done
        | rfl
        | (refine ⟨?_, ?_⟩ <;> first | rfl | simp [noid_RF])
end Go.Proofs.Ytnfjdpnkkmflbaa
