/- Chapter 21: stores: the laws StoreChecks, StorePuts, StoreGets, over any program that has the text. -/
import Derived.Test.YtmnpiibjjamjiaaW10
namespace Go.Proofs.Ytmnpiibjjamjiaa
open Go.AL
variable {P : Program} [h : Facts P]

theorem newS_fit (room p : Int) : fitS (newS room p) := by
  unfold newS
  split <;> simp [fitS, zeroS]
theorem putS_fit {s : TStore} (hs : s.fItems.length ≤ 4000000 ∧ s.fPutters.length ≤ 4000000 ∧ s.fGetters.length ≤ 4000000) (proc item : Int) : fitS (putS s proc item) := by
  obtain ⟨a, b, c⟩ := hs
  unfold putS
  split
  · simp [fitS, zeroS]
  split
  · rename_i g gs hg
    rw [hg] at c
    simp at c
    refine ⟨?_, ?_, ?_⟩ <;> simp only <;> omega
  · split
    · refine ⟨?_, ?_, ?_⟩ <;> simp <;> omega
    · refine ⟨?_, ?_, ?_⟩ <;> simp <;> omega
theorem putN_fit (s : TStore) (proc item : Int) : (putN s proc item).length ≤ 1 := by
  unfold putN
  split
  · simp
  · split <;> simp
theorem getS_fit {s : TStore} (hs : s.fItems.length ≤ 4000000 ∧ s.fPutters.length ≤ 4000000 ∧ s.fGetters.length ≤ 4000000) (proc : Int) : fitS (getS s proc) := by
  obtain ⟨a, b, c⟩ := hs
  have he := List.length_eraseIdx_le (l := s.fItems) (i := firstN s)
  unfold getS
  split
  · simp [fitS, zeroS]
  split
  · refine ⟨?_, ?_, ?_⟩ <;> simp <;> omega
  split
  · refine ⟨?_, ?_, ?_⟩ <;> simp only [List.length_nil] <;> omega
  · rename_i p ps hp
    rw [hp] at b
    simp at b
    refine ⟨?_, ?_, ?_⟩ <;> simp only [List.length_append, List.length_cons, List.length_nil] <;> omega
theorem getN_fit (s : TStore) (proc : Int) : (getN s proc).length ≤ 1 := by
  unfold getN
  split
  · simp; omega
  · simp
theorem leaveS_fit {s : TStore} (hs : fitS s) (proc : Int) : fitS (leaveS s proc) := by
  obtain ⟨a, b, c⟩ := hs
  unfold leaveS
  split
  · exact ⟨a, b, c⟩
  · exact ⟨a, Nat.le_trans (List.length_filter_le _ _) b, Nat.le_trans (List.length_filter_le _ _) c⟩

theorem c_StoreChecks (s : TStore) (room p : Int) : FCall P 3 [.agg s.cells, .int .i64 room, .int .i64 p] (fun r => r = .bool true) := by
  refine fcall_ofB [7] h.f3 rfl (by decide) h.mo (by kernel_rfl) fun X hX => ?_
  simp
  refine xcall_fn (c_light s) (by simp) ?_
  by_cases h2 : lightB s = true
  case neg =>
    simp [h2]
    refine xcall_fn c_awake (by simp) ?_
    simp
  have hf := lightB_fitS h2
  simp [h2]
  refine xcall_fn (c_New room p) (by simp) ?_
  simp
  refine xcall_fn (c_RNew room p) (by simp) ?_
  simp
  refine xcall_fn (c_First s hf) (by simp) ?_
  simp
  refine xcall_fn (c_RFirst s hf) (by simp) ?_
  simp
  refine awp_quiet [0, 1, 2, 3, 4, 5, 6, 7, 8, 9, 11, 10, 12, 13, 14, 15, 16, 17, 18, 19, 20, 21, 22, 23, 24, 25, 26, 27, 28] _ h.mo (by kernel_rfl) (by decide) (by kernel_rfl) (by rfl) ?_
  simp
  refine ⟨_, c_Same (newS room p) (newS_fit room p), ?_⟩
  simp
  refine ⟨_, c_Check s hf, ?_⟩
  simp
  refine ⟨_, c_RCheck s hf, ?_⟩
  simp
  refine ⟨_, c_awake, ?_⟩
  simp

set_option maxHeartbeats 2000000 in
theorem c_StorePuts (s : TStore) (proc item : Int) : FCall P 6 [.agg s.cells, .int .i64 proc, .int .i64 item] (fun r => r = .bool true) := by
  refine fcall_ofB [8] h.f6 rfl (by decide) h.mo (by kernel_rfl) fun X hX => ?_
  simp
  refine xcall_fn (c_light s) (by simp) ?_
  by_cases h2 : lightB s = true
  case neg =>
    simp [h2]
    refine xcall_fn c_awake (by simp) ?_
    simp
  have hf := lightB_fitS h2
  have hl := lightB_fit h2
  have hpf := putS_fit (s := s) ⟨by omega, by omega, by omega⟩ proc item
  have hnf := putN_fit s proc item
  have hlf := leaveS_fit hf proc
  have hce := chk_leave s proc
  have hio : (leaveS s proc).fIn = s.fIn ∧ (leaveS s proc).fOut = s.fOut := by unfold leaveS; split <;> exact ⟨rfl, rfl⟩
  simp [h2]
  refine xcall_fn (c_Put s proc item hf) (by simp) ?_
  simp
  refine xcall_fn (c_RPut s proc item hf) (by simp) ?_
  simp
  refine xcall_fn (c_Same _ hpf) (by simp) ?_
  simp
  refine xcall_fn (c_SameReady (putN s proc item) (by omega)) (by simp) ?_
  by_cases h5 : entE s proc item = 0
  · have hv := V_iff.2 (V_put h5)
    simp [h5]
    refine xcall_fn (c_Check _ hpf) (by simp) ?_
    simp [hv]
    refine xcall_fn (c_Leave s proc hf) (by simp) ?_
    simp
    refine awp_quiet [0, 1, 2, 3, 4, 5, 6, 8, 7, 9, 10, 11, 12, 13, 14, 15, 16, 17, 18, 19, 20, 21, 22, 23, 24, 25, 26, 27, 28, 29] _ h.mo (by kernel_rfl) (by decide) (by kernel_rfl) (by rfl) ?_
    simp
    refine ⟨_, c_RLeave s proc hf, ?_⟩
    simp
    refine ⟨_, c_Same _ hlf, ?_⟩
    simp
    refine ⟨_, c_Check _ hlf, ?_⟩
    simp
    refine ⟨_, c_Check _ hf, ?_⟩
    simp [hce, hio.1, hio.2]
    refine ⟨_, c_awake, ?_⟩
    simp
  · simp [h5]
    refine xcall_fn (c_Leave s proc hf) (by simp) ?_
    simp
    refine awp_quiet [0, 1, 2, 3, 4, 5, 6, 8, 7, 9, 10, 11, 12, 13, 14, 15, 16, 17, 18, 19, 20, 21, 22, 23, 24, 25, 26, 27, 28, 29] _ h.mo (by kernel_rfl) (by decide) (by kernel_rfl) (by rfl) ?_
    simp
    refine ⟨_, c_RLeave s proc hf, ?_⟩
    simp
    refine ⟨_, c_Same _ hlf, ?_⟩
    simp
    refine ⟨_, c_Check _ hlf, ?_⟩
    simp
    refine ⟨_, c_Check _ hf, ?_⟩
    simp [hce, hio.1, hio.2]
    refine ⟨_, c_awake, ?_⟩
    simp

set_option maxHeartbeats 2000000 in
theorem c_StoreGets (s : TStore) (proc : Int) : FCall P 4 [.agg s.cells, .int .i64 proc] (fun r => r = .bool true) := by
  refine fcall_of h.f4 rfl (by decide) h.mo (by kernel_rfl) fun X hX => ?_
  simp
  refine xcall_fn (c_light s) (by simp) ?_
  by_cases h2 : lightB s = true
  case neg =>
    simp [h2]
    refine xcall_fn c_awake (by simp) ?_
    simp
  have hf := lightB_fitS h2
  have hl := lightB_fit h2
  have hpf := getS_fit (s := s) ⟨by omega, by omega, by omega⟩ proc
  have hnf := getN_fit s proc
  simp [h2]
  refine xcall_fn (c_Get s proc hf) (by simp) ?_
  simp
  refine xcall_fn (c_RGet s proc hf) (by simp) ?_
  simp
  refine xcall_fn (c_Same _ hpf) (by simp) ?_
  simp
  refine xcall_fn (c_SameReady (getN s proc) (by omega)) (by simp) ?_
  by_cases h5 : entE s proc 0 = 0
  · have hv0 := (ent_zero h5).1
    have hv := V_iff.2 (V_get h5)
    have hfa := first_at hv0
    have hfi := first_int hv0
    have eB : getB s proc = (firstP s).2 := by rw [getB]; simp [h5]
    have eI : getI s proc = if (firstP s).2 = true then s.fItems.getD (firstN s) 0 else 0 := by rw [getI, eB]
    simp [h5]
    refine xcall_fn (c_Check _ hpf) (by simp) ?_
    simp [hv]
    refine xcall_fn (c_First s hf) (by simp) ?_
    rw [eB, eI]
    cases hf1 : (firstP s).2
    · simp
      refine xcall_fn c_awake (by simp) ?_
      simp
    · have hn := hfa hf1
      have hgd : s.fItems.getD (firstN s) 0 = s.fItems[firstN s] := by simp [List.getD, hn]
      rw [hfi hf1, hgd]
      simp [hn]
      refine xcall_fn c_awake (by simp) ?_
      simp
  · have eB : getB s proc = false := by rw [getB]; simp [h5]
    simp [h5, eB]
    refine xcall_fn (c_First s hf) (by simp) ?_
    simp
    refine xcall_fn c_awake (by simp) ?_
    simp
end Go.Proofs.Ytmnpiibjjamjiaa
