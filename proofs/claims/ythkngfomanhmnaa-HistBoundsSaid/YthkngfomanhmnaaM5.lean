/- Chapter 29: the law HistBounds, over any program that has the text. -/
import Derived.Test.YthkngfomanhmnaaM4
namespace Go.Proofs.Ythkngfomanhmnaa
open Go.AL
variable {P : Program} [h : Facts P]

theorem quI_some {x : THist} {k n : Int} {i : Nat} (h : quI x k n = some i) : i ≤ x.fBins.length ∧ quB x k n i = true ∧ ∀ j, j < i → quB x k n j = false := by
  unfold quI at h
  rw [List.find?_range_eq_some] at h
  obtain ⟨h1, h2, h3⟩ := h
  refine ⟨by simp at h2; omega, h1, fun j hj => by simpa using h3 j hj⟩
theorem quI_none {x : THist} {k n : Int} (h : quI x k n = none) {j : Nat} (hj : j ≤ x.fBins.length) : quB x k n j = false := by
  unfold quI at h
  rw [List.find?_eq_none] at h
  simpa using h j (by simp; omega)

set_option maxRecDepth 20000 in
set_option maxHeartbeats 8000000 in
theorem c_HistBounds (low width bins : Int) (l : List Int) (k : Int) (hl : l.length ≤ 9223372036854775807) (hk : 0 ≤ k ∧ k ≤ 255) : FCall P 9 [.int .i64 low, .int .i64 width, .int .i64 bins, Ls false l, .int .u8 k] (fun r => r = .bool true) := by
  refine fcall_of h.f9 rfl (by decide) h.mo (by kernel_rfl) fun X hX => ?_
  simp
  refine xcall_fn (c_New low width bins) (by simp) ?_
  by_cases h0 : newE low width bins = 0
  case neg =>
    simp [h0]
    refine xcall_fn c_awake (by simp) ?_
    simp
  simp [h0]
  refine xcall_fn (c_few l hl) (by simp) ?_
  by_cases h1 : (decide (l.length ≤ 200) && l.all inB) = true
  case neg =>
    rw [Bool.not_eq_true] at h1
    rw [h1]
    simp
    refine xcall_fn c_awake (by simp) ?_
    simp
  rw [h1]
  simp only [Bool.and_eq_true, decide_eq_true_eq] at h1
  obtain ⟨h1, h2⟩ := h1
  by_cases hne : l = []
  case pos =>
    subst hne
    simp
    refine xcall_fn c_awake (by simp) ?_
    simp
  have hpos : l.length ≠ 0 := by simpa using hne
  simp [hne]
  obtain ⟨e1, e2, e3, e4, e5⟩ := newE_zero.1 h0
  obtain ⟨m, rfl⟩ : ∃ m : Nat, bins = (m : Int) := ⟨bins.toNat, by omega⟩
  have hf := fill_new h0 h2 (by omega)
  have b1 := inB_iff.1 e1
  have hlen := histOf_len low width m l
  have hc := count_histOf h0 h2 (by omega)
  have f1 : (histOf low width m l).fLow = low := rfl
  have f2 : (histOf low width m l).fWidth = width := rfl
  have hln := newH_len low width m
  have o1 := c_filled (P := P) (newH low width m) l hl (by omega)
  rw [fillH, hf] at o1
  simp only [Option.getD_some, Option.isSome_some] at o1
  have hp : ∀ {i : Nat}, i ≤ m → pre (histOf low width m l) i = btw l (-1000000000000) (low + i * width) := fun hi => pre_histOf h0 hi
  generalize histOf low width m l = g at hlen hc f1 f2 o1 hp
  refine xcall_fn o1 (by simp) ?_
  simp
  have wk : IntKind.i64.wrap k = k := i64_id (by omega) (by omega)
  refine xcall_fn (c_Quantile g k 255 (by omega)) (by simp [wk]) ?_
  have hmb := mul_bound (m := (m : Int)) (w := width) (a := 100) (b := 1000000) (by omega) e5 (by omega) e3
  have w1 : IntKind.i64.wrap ((m : Int) * width) = m * width := i64_id (by omega) (by omega)
  have w2 : IntKind.i64.wrap (low + (m : Int) * width) = low + m * width := i64_id (by omega) (by omega)
  have hg : quG g k 255 := ⟨by omega, by omega, by omega, by omega, by omega⟩
  have kb := mul_bound (m := k) (w := (l.length : Int)) (a := 255) (b := 200) hk.1 hk.2 (by omega) (by omega)
  have w3 : IntKind.i64.wrap (k * (l.length : Int)) = k * l.length := i64_id (by omega) (by omega)
  have wb : ∀ lo hi, IntKind.i64.wrap (255 * btw l lo hi) = 255 * btw l lo hi := fun lo hi => by
    have := btw_le l lo hi
    exact i64_id (by omega) (by omega)
  cases hq : quI g k 255 with
  | none =>
    have v1 : quV g k 255 = 0 := by simp [quV, hg, hq]
    have v2 : quF g k 255 = false := by simp [quF, hg, hq]
    have hlt := quI_none hq (j := m) (by omega)
    simp only [quB, hc, hp (Nat.le_refl m), decide_eq_false_iff_not, Int.not_le] at hlt
    simp (config := {maxSteps := 4000000}) [v1, v2, w1, w2]
    refine xcall_fn (c_between l (-1000000000000) (low + m * width) hl) (by simp) ?_
    simp [wb, wk, w3, hlt]
    refine xcall_fn c_awake (by simp) ?_
    simp
  | some i =>
    obtain ⟨i1, i2, i3⟩ := quI_some hq
    rw [hlen] at i1
    have v1 : quV g k 255 = low + i * width := by simp [quV, hg, hq, f1, f2]
    have v2 : quF g k 255 = true := by simp [quF, hg, hq]
    simp only [quB, hc, hp i1, decide_eq_true_eq] at i2
    have hmi := mul_mono (show (i : Int) ≤ m by omega) (show 0 ≤ width by omega)
    have hmz := mul_mono (show (0 : Int) ≤ i by omega) (show 0 ≤ width by omega)
    have w4 : IntKind.i64.wrap (low + i * width - low) = i * width := by rw [show low + i * width - low = i * width by omega]; exact i64_id (by omega) (by omega)
    have q1 : ¬ (low + (i : Int) * width < low) := by omega
    have q2 : ¬ (low + (m : Int) * width < low + (i : Int) * width) := by omega
    have q3 : ¬ width = 0 := by omega
    have q4 : ¬ (255 * btw l (-1000000000000) (low + i * width) < k * l.length) := by omega
    have q5 : Int.tmod ((i : Int) * width) width = 0 := Int.mul_tmod_left _ _
    simp (config := {maxSteps := 4000000}) [v1, v2, w1, w2, q1, q2, q3, w4]
    refine xcall_fn (c_between l (-1000000000000) (low + i * width) hl) (by simp) ?_
    simp [wb, wk, w3, q4]
    rcases Nat.eq_zero_or_pos i with h00 | hpos
    · have q6 : low + (i : Int) * width = low := by rw [h00]; simp
      simp [q6]
      refine xcall_fn c_awake (by simp) ?_
      simp
    · obtain ⟨j, rfl⟩ : ∃ j, i = j + 1 := ⟨i - 1, by omega⟩
      have i4 := i3 j (by omega)
      simp only [quB, hc, hp (show j ≤ m by omega), decide_eq_false_iff_not, Int.not_le] at i4
      have hj := succ_mul' (j : Int) width
      have hjc : ((j + 1 : Nat) : Int) = (j : Int) + 1 := rfl
      rw [hjc] at *
      have hj0 := mul_mono (show (0 : Int) ≤ j by omega) (show 0 ≤ width by omega)
      have hjm := mul_mono (show (j : Int) ≤ m by omega) (show 0 ≤ width by omega)
      have q6 : ¬ low + ((j : Int) + 1) * width = low := by omega
      have w5 : IntKind.i64.wrap (low + ((j : Int) + 1) * width - width) = low + j * width := by rw [show low + ((j : Int) + 1) * width - width = low + j * width by omega]; exact i64_id (by omega) (by omega)
      simp [q6, w5]
      refine xcall_fn (c_between l (-1000000000000) (low + j * width) hl) (by simp) ?_
      simp [wb, wk, w3, i4]
      refine xcall_fn c_awake (by simp) ?_
      simp
end Go.Proofs.Ythkngfomanhmnaa
