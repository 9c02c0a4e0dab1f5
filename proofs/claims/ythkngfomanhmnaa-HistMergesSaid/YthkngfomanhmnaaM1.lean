/- Chapter 29: the laws HistNews, HistAdds, HistMerges, HistQuantiles, over any program that has the text. -/
import Derived.Test.YthkngfomanhmnaaH9
namespace Go.Proofs.Ythkngfomanhmnaa
open Go.AL
variable {P : Program} [h : Facts P]

theorem newH_len (low width bins : Int) : (newH low width bins).fBins.length ≤ 100 := by
  unfold newH
  split
  · rename_i h0
    obtain ⟨_, _, _, _, g5⟩ := newE_zero.1 h0
    simp; omega
  · simp [zeroH]

theorem c_HistNews (low width bins : Int) (x : THist) : FCall P 3 [.int .i64 low, .int .i64 width, .int .i64 bins, .agg x.cells] (fun r => r = .bool true) := by
  refine fcall_ofB [5] h.f3 rfl (by decide) h.mo (by kernel_rfl) fun X hX => ?_
  simp
  refine xcall_fn (c_small x) (by simp) ?_
  by_cases h0 : x.fBins.length ≤ 200
  case neg =>
    simp [h0]
    refine xcall_fn c_awake (by simp) ?_
    simp
  simp [h0]
  refine xcall_fn (c_New low width bins) (by simp) ?_
  simp
  refine xcall_fn (c_RNew low width bins) (by simp) ?_
  simp
  have hn := newH_len low width bins
  refine awp_quiet [0, 1, 2, 3, 4, 5, 6, 7, 8, 9, 11, 10, 12, 13, 14, 15, 16, 17, 18] _ h.mo (by kernel_rfl) (by decide) (by kernel_rfl) (by rfl) ?_
  simp
  refine ⟨_, c_SameH (newH low width bins) (newH low width bins) (by omega), ?_⟩
  simp
  refine ⟨_, c_Check x (by omega), ?_⟩
  simp
  refine ⟨_, c_RCheck x (by omega), ?_⟩
  simp
  refine ⟨_, c_awake, ?_⟩
  simp

theorem addE_cases (x : THist) (n : Int) : addE x n = 0 ∨ addE x n = 2 ∨ addE x n = 13 := by
  unfold addE
  split
  · split <;> simp
  · simp
theorem plc_ok {x : THist} {n : Int} (h0 : hck x = 0) (h1 : ¬ n < x.fLow) : 0 ≤ plc x n := by
  obtain ⟨_, e2, _⟩ := newE_zero.1 (hck_zero.1 h0).1
  unfold plc
  rw [Int.tdiv_eq_ediv_of_nonneg (by omega)]
  exact Int.ediv_nonneg (by omega) (by omega)
theorem all_set {l : List Int} {i : Nat} {v : Int} (hl : l.all cntB = true) (hv : cntB v = true) : (l.set i v).all cntB = true := by
  rw [List.all_eq_true] at hl ⊢
  intro x hx
  rcases List.mem_or_eq_of_mem_set hx with h1 | h1
  · exact hl x h1
  · rw [h1]; exact hv
theorem addT_ok {x : THist} {n : Int} (h0 : hck x = 0) (h2 : addN x n ≤ 1000000000000) : hck (addT x n) = 0 := by
  obtain ⟨g0, g1, g2, g3⟩ := hck_all h0
  have b1 := cntB_iff.1 g1
  have b2 := cntB_iff.1 g2
  rw [hck_parts]
  unfold addT
  unfold addN at h2
  by_cases q1 : n < x.fLow
  · rw [if_pos q1] at h2
    rw [if_pos q1]
    simp only
    rw [if_pos ⟨g0, cntB_iff.2 (by omega), g2, g3⟩]
  · rw [if_neg q1] at h2
    rw [if_neg q1]
    by_cases q2 : plc x n < x.fBins.length
    · have q3 : (plc x n).toNat < x.fBins.length := by have := plc_ok h0 q1; omega
      rw [if_pos q2] at h2
      rw [if_pos q2]
      have b3 := cntB_iff.1 (List.all_eq_true.1 g3 _ (List.getElem_mem q3))
      have e : x.fBins.getD (plc x n).toNat 0 = x.fBins[(plc x n).toNat] := by simp [List.getD, q3]
      rw [e] at h2
      simp only [e, List.length_set]
      rw [if_pos ⟨g0, g1, g2, all_set g3 (cntB_iff.2 (by omega))⟩]
    · rw [if_neg q2] at h2
      rw [if_neg q2]
      simp only
      rw [if_pos ⟨g0, g1, cntB_iff.2 (by omega), g3⟩]
theorem addH_ok {x : THist} {n : Int} (h0 : addE x n = 0) : hck (addH x n) = 0 := by
  have h1 : hck x = 0 ∧ inB n = true := Classical.byContradiction fun h => by rw [addE_bad h] at h0; cases h0
  rw [addE_good h1.1 h1.2] at h0
  have h2 : addN x n ≤ 1000000000000 := by
    split at h0
    · cases h0
    · omega
  have h3 : addH x n = addT x n := by simp [addH, addE_good h1.1 h1.2]; omega
  rw [h3]
  exact addT_ok h1.1 h2

theorem c_HistAdds (x : THist) (n : Int) : FCall P 4 [.agg x.cells, .int .i64 n] (fun r => r = .bool true) := by
  refine fcall_ofB [5] h.f4 rfl (by decide) h.mo (by kernel_rfl) fun X hX => ?_
  simp
  refine xcall_fn (c_small x) (by simp) ?_
  by_cases h0 : x.fBins.length ≤ 200
  case neg =>
    simp [h0]
    refine xcall_fn c_awake (by simp) ?_
    simp
  simp [h0]
  refine xcall_fn (c_Add x n (by omega)) (by simp) ?_
  simp
  refine xcall_fn (c_RAdd x n (by omega)) (by simp) ?_
  have hn := addH_len (x := x) (n := n)
  simp
  refine awp_quiet [0, 1, 2, 3, 4, 5, 6, 7, 8, 9, 11, 10, 12, 13, 14, 15, 16, 17, 18, 19, 20, 21, 22, 23, 24, 25, 26, 27] _ h.mo (by kernel_rfl) (by decide) (by kernel_rfl) (by rfl) ?_
  by_cases h1 : addE x n = 0
  · have h2 := addH_ok h1
    simp [h1]
    refine ⟨_, c_SameH (addH x n) (addH x n) (by omega), ?_⟩
    simp
    refine ⟨_, c_Count x (by omega), ?_⟩
    simp
    refine ⟨_, c_RCount x (by omega), ?_⟩
    simp
    refine ⟨_, c_Check (addH x n) (by omega), ?_⟩
    simp [h2]
    refine ⟨_, c_awake, ?_⟩
    simp
  · simp [h1]
    refine ⟨_, c_SameH (addH x n) (addH x n) (by omega), ?_⟩
    simp
    refine ⟨_, c_Count x (by omega), ?_⟩
    simp
    refine ⟨_, c_RCount x (by omega), ?_⟩
    simp
    refine ⟨fun e => (h1 e).elim, fun _ => ⟨_, c_awake, ?_⟩⟩
    simp

theorem mrgT_comm {a b : THist} (g1 : a.fLow = b.fLow) (g2 : a.fWidth = b.fWidth) : mrgT b a = mrgT a b := by
  unfold mrgT
  rw [List.zipWith_comm_of_comm (f := fun x y : Int => x + y) (comm := Int.add_comm), g1, g2, Int.add_comm a.fBelow, Int.add_comm a.fOver]
theorem mrg_comm {a b : THist} (h0 : mrgE a b = 0) : mrgE b a = 0 ∧ mrgH b a = mrgH a b := by
  have h1 := h0
  unfold mrgE at h1
  split at h1
  · rename_i q1
    split at h1
    · rename_i q2
      split at h1
      · rename_i q3
        have e := mrgT_comm q2.1 q2.2.1
        have : mrgE b a = 0 := by
          unfold mrgE
          rw [if_pos ⟨q1.2, q1.1⟩, if_pos ⟨q2.1.symm, q2.2.1.symm, q2.2.2.symm⟩, e, if_pos q3]
        exact ⟨this, by simp [mrgH, this, h0, e]⟩
      · cases h1
    · cases h1
  · cases h1
theorem mrgH_len {a b : THist} : (mrgH a b).fBins.length ≤ a.fBins.length := by
  unfold mrgH
  split
  · simp [mrgT]; omega
  · simp [zeroH]

theorem c_HistMerges (a b : THist) : FCall P 5 [.agg a.cells, .agg b.cells] (fun r => r = .bool true) := by
  refine fcall_of h.f5 rfl (by decide) h.mo (by kernel_rfl) fun X hX => ?_
  simp
  refine xcall_fn (c_small a) (by simp) ?_
  by_cases h0 : a.fBins.length ≤ 200
  case neg =>
    simp [h0]
    refine xcall_fn c_awake (by simp) ?_
    simp
  simp [h0]
  refine xcall_fn (c_small b) (by simp) ?_
  by_cases h1 : b.fBins.length ≤ 200
  case neg =>
    simp [h1]
    refine xcall_fn c_awake (by simp) ?_
    simp
  simp [h1]
  refine xcall_fn (c_Merge a b (by omega) (by omega)) (by simp) ?_
  simp
  refine xcall_fn (c_RMerge a b (by omega) (by omega)) (by simp) ?_
  have hn := mrgH_len (a := a) (b := b)
  simp
  refine xcall_fn (c_SameH (mrgH a b) (mrgH a b) (by omega)) (by simp) ?_
  simp
  refine xcall_fn (c_Merge b a (by omega) (by omega)) (by simp) ?_
  simp
  by_cases h2 : mrgE a b = 0
  · obtain ⟨h3, h4⟩ := mrg_comm h2
    simp [h2, h3, h4]
    refine xcall_fn (c_SameH (mrgH a b) (mrgH a b) (by omega)) (by simp) ?_
    simp
    refine xcall_fn c_awake (by simp) ?_
    simp
  · simp [h2]
    refine xcall_fn c_awake (by simp) ?_
    simp

theorem c_HistQuantiles (x : THist) (k n : Int) : FCall P 6 [.agg x.cells, .int .i64 k, .int .i64 n] (fun r => r = .bool true) := by
  refine fcall_of h.f6 rfl (by decide) h.mo (by kernel_rfl) fun X hX => ?_
  simp
  refine xcall_fn (c_small x) (by simp) ?_
  by_cases h0 : x.fBins.length ≤ 200
  case neg =>
    simp [h0]
    refine xcall_fn c_awake (by simp) ?_
    simp
  simp [h0]
  refine xcall_fn (c_Quantile x k n (by omega)) (by simp) ?_
  simp
  refine xcall_fn (c_RQuantile x k n (by omega)) (by simp) ?_
  simp
  refine xcall_fn c_awake (by simp) ?_
  simp
end Go.Proofs.Ythkngfomanhmnaa
