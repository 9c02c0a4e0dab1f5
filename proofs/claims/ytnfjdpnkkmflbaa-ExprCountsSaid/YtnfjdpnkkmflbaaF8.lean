/- Chapter 09: expressions: the reference's Names, over any program that has the text. -/
import Derived.Test.YtnfjdpnkkmflbaaF7
namespace Go.Proofs.Ytnfjdpnkkmflbaa
open Go.AL
variable {P : Program} [h : Facts P]

set_option maxHeartbeats 2000000 in
theorem c_Rmentioned : ∀ (e : TExpr), e.ok → ∀ (l : List (List UInt8)), l.length + cntE e ≤ 1000000 → FCall P 41 [Ls false l, .agg e.cells] (fun r => r = Ls false (insL l (nmE e))) := by
  refine TExpr.ind fun e ih => ?_
  intro hok l hc
  rw [cntE_eq] at hc
  rw [nmE_eq]
  obtain ⟨_, _, _, _, hkl, hko⟩ := hok
  obtain ⟨op, nm, n, ks⟩ := e
  simp only at hkl hko ih hc ⊢
  refine fcall_of h.f41 rfl (by decide) h.mo (by kernel_rfl) fun X hX => ?_
  have hse := self_len op nm
  have start : insL l (selfN op nm) = insL l (selfN op nm ++ nmL (ks.take 0)) := by simp [nmL_nil]
  by_cases q1 : op = 3
  case' pos =>
    have hs : insL l (selfN op nm) = insF nm l false := by simp [selfN, q1, insL_cons, insL_nil]
    simp [eq_true q1]
    refine xcall_fn (c_Insert l nm (by omega)) (by simp) ?_
    simp
  case' neg =>
    simp [q1]
    refine xcall_fn (c_Robject op) (by simp) ?_
    cases q2 : objB op
    case' false =>
      have hs : insL l (selfN op nm) = l := by simp [selfN, q1, q2, insL_nil]
      simp
    case' true =>
      have hs : insL l (selfN op nm) = insF nm l false := by simp [selfN, q2, insL_cons, insL_nil]
      simp
      refine xcall_fn (c_Insert l nm (by omega)) (by simp) ?_
      simp
  all_goals
    refine awp_loop (σ := Nat) (fun k => (⟨[Ls false (insL l (selfN op nm ++ nmL (ks.take k))), .any, .any, .pto 0 4 0 0, .any, .int .i64 k, .any, .any, .any, .any, .any, .any, .any, .any, .any, .any, .any, .any, .any, .any, .any, .any, .any, .any, .any, .any, .any, .any, .any, .any, .any, .any, .any], [⟨25, 4, [.agg (⟨op, nm, n, ks⟩ : TExpr).cells], 0, true⟩]⟩ : S)) (fun k => k ≤ ks.length) (fun k => ks.length - k) 0 (Wk.ren 0 [0] hX rfl (by decide) (by simp [hs, nmL_nil, q1] <;> simp [selfN, insL_cons, insL_nil]) (by simp) (by simp) (by simp [q1])) (by omega) ?_
    rintro k hk
    refine vc_sound h.mo _ _ _ (by kernel_rfl) ?_
    rcases Nat.lt_or_ge k ks.length with hlt | hge
    · have hk1 := wrap_succ hlt hkl
      have hmem := List.getElem_mem hlt
      have hct := cntL_take_get hlt
      have hnt := nmL_cnt (ks.take k)
      have htk : insL l (selfN op nm ++ nmL (ks.take (k + 1))) = insL (insL l (selfN op nm ++ nmL (ks.take k))) (nmE ks[k]) := by rw [nmL_take hlt, ← List.append_assoc, insL_app]
      have hlen : (insL l (selfN op nm ++ nmL (ks.take k))).length + cntE ks[k] ≤ 1000000 := by
        have := insL_len (selfN op nm ++ nmL (ks.take k)) l
        simp only [List.length_append] at this
        omega
      have hxc := ih ks[k] hmem (hko _ hmem) _ hlen
      generalize insL l (selfN op nm ++ nmL (ks.take k)) = acc at *
      simp [hlt]
      refine xcall_fn hxc (by simp) ?_
      simp
      exact ⟨k + 1, Wk.ren 0 [0] hX rfl (by decide) (by simp [hk1, htk]) (by simp) (by simp) (by simp), by omega, by omega⟩
    · have hkl : k = ks.length := by omega
      subst hkl
      rw [List.take_length]
      simp
theorem c_RNames (e : TExpr) (hok : e.ok) (hc : cntE e ≤ 1000000) : FCall P 25 [.agg e.cells] (fun r => r = Ls false (namesZ e)) := by
  refine fcall_of h.f25 rfl (by decide) h.mo (by kernel_rfl) fun X hX => ?_
  unfold namesZ
  simp
  refine xcall_fn (c_RCheck e hok (by omega)) (by simp) ?_
  by_cases h0 : chkE false e = 0
  case neg => simp [h0]
  simp [h0]
  refine xcall_fn (c_Rmentioned e hok [] (by simpa using hc)) (by simp) ?_
  simp
end Go.Proofs.Ytnfjdpnkkmflbaa
