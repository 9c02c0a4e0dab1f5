/- Chapter 35: the laws NetChecks, NetSends, NetArrives, over any program that has the text. -/
import Derived.Test.YtnnpahcanpakcaaN11
import Derived.Test.YtnnpahcanpakcaaP1
namespace Go.Proofs.Ytnnpahcanpakcaa
open Go.AL
variable {P : Program} [h : Facts P]

theorem newN_fit {l : List Int} (hl : l.length ≤ 4000000000) : fitN (newN l) := by
  unfold newN
  split
  · exact ⟨hl, by simp, by simp⟩
  · simp [fitN, zeroN]
theorem sendN_fit {n : TNet} {m : TMsg} (hn : n.fDelays.length ≤ 4000000 ∧ n.fMsgs.length ≤ 4000000 ∧ ∀ x ∈ n.fMsgs, x.fEvent.fArgs.length ≤ 9223372036854775807) (hm : m.fEvent.fArgs.length ≤ 9223372036854775807) (round : Int) (near : Bool) : fitN (sendN n m round near) := by
  unfold sendN
  split
  · refine ⟨by show n.fDelays.length ≤ _; omega, by show (n.fMsgs ++ [_]).length ≤ _; simp; omega, fun x hx => ?_⟩
    rcases List.mem_append.1 hx with hx | hx
    · exact hn.2.2 x hx
    · rw [List.mem_singleton] at hx
      rw [hx]
      exact hm
  · simp [fitN, zeroN]
theorem arrN_fit {n : TNet} (hn : fitN n) (round to : Int) : fitN (arrN n round to) := by
  unfold arrN
  split
  · obtain ⟨h1, h2, h3⟩ := hn
    exact ⟨h1, Nat.le_trans (List.length_filter_le _ _) h2, fun x hx => h3 x (List.mem_filter.1 hx).1⟩
  · exact hn
theorem arrH_fit {n : TNet} (hn : fitN n) (round to : Int) : (arrH n round to).length ≤ 4000000000 ∧ ∀ x ∈ arrH n round to, x.fEvent.fArgs.length ≤ 9223372036854775807 := by
  unfold arrH
  split
  · obtain ⟨h1, h2, h3⟩ := hn
    exact ⟨Nat.le_trans (List.length_filter_le _ _) h2, fun x hx => h3 x (List.mem_filter.1 hx).1⟩
  · simp

theorem c_NetChecks (l : List Int) (n : TNet) (hl : l.length ≤ 9223372036854775807) (hm : n.fMsgs.length ≤ 9223372036854775807) : FCall P 3 [Ls false l, .agg n.cells] (fun r => r = .bool true) := by
  refine fcall_ofB [5] h.f3 rfl (by decide) h.mo (by kernel_rfl) fun X hX => ?_
  simp
  by_cases h0 : l.length ≤ 100
  case neg =>
    have h1 : (100 : Int) < l.length := by omega
    have h1' : ¬ (l.length : Int) ≤ 100 := by omega
    simp [h1, h1']
    refine xcall_fn c_awake (by simp) ?_
    simp
  have h1 : ¬ (100 : Int) < l.length := by omega
  have h1' : (l.length : Int) ≤ 100 := by omega
  simp [h1, h1']
  refine xcall_fn (c_small n hm) (by simp) ?_
  by_cases h2 : smallB n = true
  case neg =>
    simp [h2]
    refine xcall_fn c_awake (by simp) ?_
    simp
  obtain ⟨d1, d2, d3⟩ := smallB_fit h2
  simp [h2]
  refine xcall_fn (c_New l (by omega)) (by simp) ?_
  simp
  refine xcall_fn (c_RNew l (by omega)) (by simp) ?_
  simp
  have hn := newN_fit (l := l) (by omega)
  refine awp_quiet [0, 1, 2, 3, 4, 5, 6, 7, 8, 9, 11, 10, 12, 13, 14, 15, 16, 17, 18] _ h.mo (by kernel_rfl) (by decide) (by kernel_rfl) (by rfl) ?_
  simp
  refine ⟨_, c_Same (newN l) hn, ?_⟩
  simp
  refine ⟨_, c_Check n (by omega) (by omega), ?_⟩
  simp
  refine ⟨_, c_RCheck n (by omega) (by omega), ?_⟩
  simp
  refine ⟨_, c_awake, ?_⟩
  simp

theorem c_NetSends (n : TNet) (m : TMsg) (round : Int) (near : Bool) (hm : n.fMsgs.length ≤ 9223372036854775807) (ha : m.fEvent.fArgs.length ≤ 9223372036854775807) : FCall P 4 [.agg n.cells, .agg m.cells, .int .i64 round, .bool near] (fun r => r = .bool true) := by
  refine fcall_of h.f4 rfl (by decide) h.mo (by kernel_rfl) fun X hX => ?_
  simp
  refine xcall_fn (c_small n hm) (by simp) ?_
  by_cases h2 : smallB n = true
  case neg =>
    simp [h2]
    refine xcall_fn c_awake (by simp) ?_
    simp
  have hs := smallB_iff.1 h2
  have hf := smallB_fit h2
  by_cases h3 : m.fEvent.fArgs.length ≤ 20
  case neg =>
    have h4 : (20 : Int) < m.fEvent.fArgs.length := by omega
    have h4' : ¬ (m.fEvent.fArgs.length : Int) ≤ 20 := by omega
    simp [h2, h4, h4']
    refine xcall_fn c_awake (by simp) ?_
    simp
  have h4 : ¬ (20 : Int) < m.fEvent.fArgs.length := by omega
  have h4' : (m.fEvent.fArgs.length : Int) ≤ 20 := by omega
  simp [h2, h4, h4']
  refine xcall_fn (c_Send n m round near hf) (by simp) ?_
  simp
  refine xcall_fn (c_RSend n m round near hf) (by simp) ?_
  simp
  have hn : fitN (sendN n m round near) := sendN_fit ⟨by omega, by omega, hf.2.2⟩ ha round near
  have hv := netE_sent (n := n) (m := m) (round := round) (near := near)
  refine xcall_fn (c_Same (sendN n m round near) hn) (by simp) ?_
  by_cases h5 : sendE n m round near = 0
  · have hv := hv h5
    simp [h5]
    refine xcall_fn (c_Check (sendN n m round near) (Nat.le_trans hn.1 (by decide)) (Nat.le_trans hn.2.1 (by decide))) (by simp) ?_
    simp [hv]
    refine xcall_fn c_awake (by simp) ?_
    simp
  · simp [h5]
    refine xcall_fn c_awake (by simp) ?_
    simp

theorem c_NetArrives (n : TNet) (round to : Int) (hm : n.fMsgs.length ≤ 9223372036854775807) : FCall P 5 [.agg n.cells, .int .i64 round, .int .i64 to] (fun r => r = .bool true) := by
  refine fcall_ofB [7] h.f5 rfl (by decide) h.mo (by kernel_rfl) fun X hX => ?_
  simp
  refine xcall_fn (c_small n hm) (by simp) ?_
  by_cases h2 : smallB n = true
  case neg =>
    simp [h2]
    refine xcall_fn c_awake (by simp) ?_
    simp
  have hf := smallB_fit h2
  simp [h2]
  refine xcall_fn (c_Arrive n round to hf) (by simp) ?_
  simp
  refine xcall_fn (c_RArrive n round to hf) (by simp) ?_
  simp
  refine xcall_fn (c_Least n hf) (by simp) ?_
  simp
  refine xcall_fn (c_RLeast n hf) (by simp) ?_
  simp
  have ha := arrH_fit hf round to
  refine awp_quiet [0, 1, 2, 3, 4, 5, 6, 7, 8, 9, 10, 11, 12, 13, 14, 15, 16, 17, 18, 19, 21, 20, 22, 23, 24, 25, 26, 27, 28] _ h.mo (by kernel_rfl) (by decide) (by kernel_rfl) (by rfl) ?_
  simp
  refine ⟨_, c_SameMsgs (arrH n round to) (by omega) ha.2, ?_⟩
  simp
  refine ⟨_, c_Same (arrN n round to) (arrN_fit hf round to), ?_⟩
  simp
  refine ⟨_, c_Idle n hf, ?_⟩
  simp
  refine ⟨_, c_RIdle n hf, ?_⟩
  simp
  refine ⟨_, c_awake, ?_⟩
  simp
end Go.Proofs.Ytnnpahcanpakcaa
