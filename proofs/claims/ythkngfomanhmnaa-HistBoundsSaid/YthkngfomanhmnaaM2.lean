/- Chapter 29: the histogram of a list, plain. -/
import Derived.Test.YthkngfomanhmnaaM1
namespace Go.Proofs.Ythkngfomanhmnaa
open Go.AL

/-- The histogram of a list. -/
def histOf (low width : Int) (m : Nat) (l : List Int) : THist := ⟨low, width, (List.range m).map (fun (i : Nat) => btw l (low + i * width) (low + (i + 1) * width)), btw l (-1000000000000) low, btw l (low + m * width) 2000000000000⟩

theorem btw_nil (lo hi : Int) : btw [] lo hi = 0 := rfl
theorem btw_snoc (l : List Int) (x lo hi : Int) : btw (l ++ [x]) lo hi = btw l lo hi + if inR lo hi x = true then 1 else 0 := by
  unfold btw
  rw [List.countP_append, List.countP_singleton]
  split <;> simp
theorem btw_app (a b : List Int) (lo hi : Int) : btw (a ++ b) lo hi = btw a lo hi + btw b lo hi := by
  unfold btw
  rw [List.countP_append]; simp
theorem btw_join (l : List Int) {a b c : Int} (h1 : a ≤ b) (h2 : b ≤ c) : btw l a b + btw l b c = btw l a c := by
  induction l with
  | nil => rfl
  | cons x l ih =>
    have e : ∀ lo hi, btw (x :: l) lo hi = btw l lo hi + if inR lo hi x = true then 1 else 0 := fun lo hi => by
      unfold btw
      rw [List.countP_cons]
      split <;> simp
    rw [e, e, e]
    have : (if inR a b x = true then (1 : Int) else 0) + (if inR b c x = true then 1 else 0) = if inR a c x = true then 1 else 0 := by
      simp only [inR, Bool.and_eq_true, decide_eq_true_eq]
      by_cases q1 : a ≤ x <;> by_cases q2 : x < b <;> by_cases q3 : x < c <;> by_cases q4 : b ≤ x <;> simp [q1, q2, q3, q4] <;> omega
    omega
theorem histOf_nil {low width bins : Int} (h : newE low width bins = 0) : newH low width bins = histOf low width bins.toNat [] := by
  unfold newH histOf
  rw [if_pos h]
  simp only [btw_nil, THist.mk.injEq, true_and, and_true]
  apply List.ext_getElem <;> simp
theorem histOf_len (low width : Int) (m : Nat) (l : List Int) : (histOf low width m l).fBins.length = m := by simp [histOf]
theorem cnt_btw {l : List Int} (hl : l.length ≤ 1000000000000) (lo hi : Int) : cntB (btw l lo hi) = true := by
  have := btw_le l lo hi
  exact cntB_iff.2 (by omega)
theorem histOf_ok {low width : Int} {m : Nat} {l : List Int} (h : newE low width m = 0) (hl : l.length ≤ 1000000000000) : hck (histOf low width m l) = 0 := by
  rw [hck_parts, if_pos]
  refine ⟨by rw [histOf_len]; exact h, cnt_btw hl _ _, cnt_btw hl _ _, ?_⟩
  rw [List.all_eq_true]
  intro x hx
  simp only [histOf, List.mem_map] at hx
  obtain ⟨i, _, rfl⟩ := hx
  exact cnt_btw hl _ _
theorem histOf_bin {low width : Int} {m : Nat} {l : List Int} {i : Nat} (hi : i < (histOf low width m l).fBins.length) : (histOf low width m l).fBins[i] = btw l (low + i * width) (low + (i + 1) * width) := by
  simp [histOf]
theorem mul_mono {a b w : Int} (h : a ≤ b) (hw : 0 ≤ w) : a * w ≤ b * w := Int.mul_le_mul_of_nonneg_right h hw
theorem succ_mul' (i w : Int) : (i + 1) * w = i * w + w := by rw [Int.add_mul, Int.one_mul]

theorem addT_histOf {low width : Int} {m : Nat} {l : List Int} {x : Int} (h : newE low width m = 0) (hx : inB x = true) : addT (histOf low width m l) x = histOf low width m (l ++ [x]) := by
  obtain ⟨e1, e2, e3, e4, e5⟩ := newE_zero.1 h
  have b1 := inB_iff.1 e1
  have b2 := inB_iff.1 hx
  have hw : 0 ≤ width := by omega
  have hmul := mul_bound (m := (m : Int)) (w := width) (a := 100) (b := 1000000) (by omega) e5 hw e3
  unfold addT
  by_cases q1 : x < low
  · rw [if_pos (show x < (histOf low width m l).fLow from q1)]
    simp only [histOf, THist.mk.injEq, true_and]
    refine ⟨?_, ?_, ?_⟩
    · refine List.map_congr_left fun i _ => ?_
      have := mul_mono (show (0 : Int) ≤ i by omega) hw
      rw [btw_snoc, show inR (low + i * width) (low + (i + 1) * width) x = false by simp [inR]; omega]
      simp
    · rw [btw_snoc, show inR (-1000000000000) low x = true by simp [inR]; omega]
      simp
    · rw [btw_snoc, show inR (low + m * width) 2000000000000 x = false by simp [inR]; omega]
      simp
  · rw [if_neg (show ¬ x < (histOf low width m l).fLow from q1)]
    have hp := plc_lt (x := histOf low width m l) (n := x) (m := m) e2 (by simp [histOf]; omega)
    have hp0 : 0 ≤ plc (histOf low width m l) x := by
      show 0 ≤ (x - low).tdiv width
      rw [Int.tdiv_eq_ediv_of_nonneg (by omega)]
      exact Int.ediv_nonneg (by omega) (by omega)
    rw [histOf_len]
    by_cases q2 : plc (histOf low width m l) x < m
    · rw [if_pos q2]
      have hlt := hp.1 q2
      simp only [histOf] at hlt
      obtain ⟨p, hpe⟩ : ∃ p : Nat, plc (histOf low width m l) x = p := ⟨_, (Int.toNat_of_nonneg hp0).symm⟩
      rw [hpe] at q2 ⊢
      have hpm : p < m := by omega
      have hle : ∀ i : Int, p < i ↔ x < low + i * width := fun i => by rw [← hpe]; exact plc_lt i e2 (by simp [histOf]; omega)
      have r1 : low + p * width ≤ x := by have := mt (hle p).2; omega
      have r2 : x < low + (p + 1) * width := (hle (p + 1)).1 (by omega)
      have hin : ∀ i : Nat, inR (low + i * width) (low + (i + 1) * width) x = decide (i = p) := fun i => by
        by_cases q : i = p
        · subst q; simp [inR, r1, r2]
        · rcases Nat.lt_or_ge i p with h1 | h1
          · have := mul_mono (show (i : Int) + 1 ≤ p by omega) hw
            simp [inR, q]; omega
          · have := mul_mono (show (p : Int) + 1 ≤ i by omega) hw
            simp [inR, q]; omega
      have hb : (histOf low width m l).fBins.getD p 0 = btw l (low + p * width) (low + (p + 1) * width) := by
        rw [List.getD_eq_getElem?_getD, List.getElem?_eq_getElem (by rw [histOf_len]; exact hpm), histOf_bin]; rfl
      simp only [Int.toNat_natCast, hb]
      simp only [histOf, THist.mk.injEq, true_and]
      refine ⟨?_, ?_, ?_⟩
      · apply List.ext_getElem
        · simp
        · intro i h1 h2
          simp only [List.length_set, List.length_map, List.length_range] at h1
          rw [List.getElem_set]
          simp only [List.getElem_map, List.getElem_range, btw_snoc, hin]
          by_cases q : p = i
          · subst q; simp
          · rw [if_neg q, if_neg (by simp; omega)]; omega
      · rw [btw_snoc, show inR (-1000000000000) low x = false by simp [inR]; omega]; simp
      · rw [btw_snoc, show inR (low + m * width) 2000000000000 x = false by simp [inR]; omega]; simp
    · rw [if_neg q2]
      have hge : low + m * width ≤ x := by have := mt hp.2 q2; simp only [histOf] at this; omega
      simp only [histOf, THist.mk.injEq, true_and]
      refine ⟨?_, ?_, ?_⟩
      · refine List.map_congr_left fun i hi => ?_
        have := mul_mono (show (i : Int) + 1 ≤ m by have := List.mem_range.1 hi; omega) hw
        rw [btw_snoc, show inR (low + i * width) (low + (i + 1) * width) x = false by simp [inR]; omega]
        simp
      · rw [btw_snoc, show inR (-1000000000000) low x = false by simp [inR]; omega]; simp
      · rw [btw_snoc, show inR (low + m * width) 2000000000000 x = true by simp [inR]; omega]; simp
end Go.Proofs.Ythkngfomanhmnaa
