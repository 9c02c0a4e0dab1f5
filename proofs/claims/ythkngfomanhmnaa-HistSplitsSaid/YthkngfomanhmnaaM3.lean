/- Chapter 29: what a histogram of a list counts, plain. -/
import Derived.Test.YthkngfomanhmnaaM2
namespace Go.Proofs.Ythkngfomanhmnaa
open Go.AL

theorem addN_histOf {low width : Int} {m : Nat} {l : List Int} {x : Int} (h : newE low width m = 0) (hx : inB x = true) : addN (histOf low width m l) x ≤ l.length + 1 := by
  obtain ⟨e1, e2, e3, e4, e5⟩ := newE_zero.1 h
  unfold addN
  have b := fun lo hi => (btw_le l lo hi).2
  by_cases q1 : x < (histOf low width m l).fLow
  · rw [if_pos q1]
    have := b (-1000000000000) low
    show btw l (-1000000000000) low + 1 ≤ _
    omega
  · rw [if_neg q1]
    by_cases q2 : plc (histOf low width m l) x < (histOf low width m l).fBins.length
    · rw [if_pos q2]
      have hp0 : 0 ≤ plc (histOf low width m l) x := by
        show 0 ≤ (x - low).tdiv width
        have : low ≤ x := Int.not_lt.1 q1
        rw [Int.tdiv_eq_ediv_of_nonneg (by omega)]
        exact Int.ediv_nonneg (by omega) (by omega)
      have hi : (plc (histOf low width m l) x).toNat < (histOf low width m l).fBins.length := by omega
      rw [List.getD_eq_getElem?_getD, List.getElem?_eq_getElem hi, Option.getD_some, histOf_bin]
      have := b (low + ((plc (histOf low width m l) x).toNat : Int) * width) (low + (((plc (histOf low width m l) x).toNat : Int) + 1) * width)
      omega
    · rw [if_neg q2]
      have := b (low + m * width) 2000000000000
      show btw l (low + m * width) 2000000000000 + 1 ≤ _
      omega
theorem add_histOf {low width : Int} {m : Nat} {l : List Int} {x : Int} (h : newE low width m = 0) (hx : inB x = true) (hl : l.length < 1000000) : addE (histOf low width m l) x = 0 ∧ addH (histOf low width m l) x = histOf low width m (l ++ [x]) := by
  have h1 := histOf_ok (l := l) h (by omega)
  have h2 := addN_histOf (l := l) h hx
  have h3 : addE (histOf low width m l) x = 0 := by rw [addE_good h1 hx, if_neg (by omega)]
  exact ⟨h3, by rw [addH, if_pos h3, addT_histOf h hx]⟩
theorem fill_histOf {low width : Int} {m : Nat} (h : newE low width m = 0) : ∀ (r l : List Int), r.all inB = true → l.length + r.length ≤ 1000000 → fill (histOf low width m l) r = some (histOf low width m (l ++ r))
  | [], l, _, _ => by simp [fill]
  | x :: r, l, hr, hl => by
    simp only [List.all_cons, Bool.and_eq_true] at hr
    simp only [List.length_cons] at hl
    obtain ⟨h1, h2⟩ := add_histOf (l := l) h hr.1 (by omega)
    rw [fill, if_pos h1, h2, fill_histOf h r (l ++ [x]) hr.2 (by simp; omega)]
    simp
theorem pre_histOf {low width : Int} {m : Nat} {l : List Int} (h : newE low width m = 0) {i : Nat} (hi : i ≤ m) : pre (histOf low width m l) i = btw l (-1000000000000) (low + i * width) := by
  obtain ⟨e1, e2, e3, e4, e5⟩ := newE_zero.1 h
  have b1 := inB_iff.1 e1
  induction i with
  | zero => simp [pre, histOf]
  | succ i ih =>
    have hlt : i < (histOf low width m l).fBins.length := by rw [histOf_len]; omega
    rw [pre_succ hlt, ih (by omega), histOf_bin]
    have h0 := mul_mono (show (0 : Int) ≤ i by omega) (show 0 ≤ width by omega)
    have h1 := succ_mul' i width
    have := btw_join l (a := -1000000000000) (b := low + i * width) (c := low + (i + 1) * width) (by omega) (by omega)
    rw [this]; rfl
theorem btw_full {l : List Int} (h : l.all inB = true) : btw l (-1000000000000) 2000000000000 = l.length := by
  unfold btw
  congr 1
  rw [List.countP_eq_length]
  intro x hx
  have := inB_iff.1 (List.all_eq_true.1 h x hx)
  simp [inR]; omega
theorem sum_histOf {low width : Int} {m : Nat} {l : List Int} (h : newE low width m = 0) (hl : l.all inB = true) : (cnts (histOf low width m l)).sum = l.length := by
  obtain ⟨e1, e2, e3, e4, e5⟩ := newE_zero.1 h
  have b1 := inB_iff.1 e1
  have h1 := pre_histOf (l := l) h (Nat.le_refl m)
  have h2 : pre (histOf low width m l) m = (histOf low width m l).fBelow + (histOf low width m l).fBins.sum := by
    unfold pre
    rw [List.take_of_length_le (by rw [histOf_len]; exact Nat.le_refl _)]
  have hb := mul_bound (m := (m : Int)) (w := width) (a := 100) (b := 1000000) (by omega) e5 (by omega) e3
  have h3 := btw_join l (a := -1000000000000) (b := low + m * width) (c := 2000000000000) (by omega) (by omega)
  rw [btw_full hl] at h3
  have h4 : (histOf low width m l).fOver = btw l (low + m * width) 2000000000000 := rfl
  simp only [cnts, List.cons_append, List.sum_cons, List.sum_append, List.sum_nil]
  omega
theorem count_histOf {low width : Int} {m : Nat} {l : List Int} (h : newE low width m = 0) (hl : l.all inB = true) (hn : l.length ≤ 1000000) : countV (histOf low width m l) = l.length := by
  unfold countV
  rw [if_pos (histOf_ok h (by omega)), sum_histOf h hl]
  unfold cap; omega
theorem mrg_histOf {low width : Int} {m : Nat} {a b : List Int} (h : newE low width m = 0) (hl : a.length + b.length ≤ 1000000) : mrgE (histOf low width m a) (histOf low width m b) = 0 ∧ mrgH (histOf low width m a) (histOf low width m b) = histOf low width m (a ++ b) := by
  have hT : mrgT (histOf low width m a) (histOf low width m b) = histOf low width m (a ++ b) := by
    simp only [mrgT, histOf, THist.mk.injEq, true_and, btw_app, and_true]
    rw [List.zipWith_map, List.zipWith_self]
  have hE : mrgE (histOf low width m a) (histOf low width m b) = 0 := by
    unfold mrgE
    rw [if_pos ⟨histOf_ok h (by omega), histOf_ok h (by omega)⟩, if_pos ⟨rfl, rfl, by simp [histOf_len]⟩, hT, if_pos]
    have := (hck_zero.1 (histOf_ok (l := a ++ b) h (by simp; omega))).2
    rw [List.all_eq_true] at this ⊢
    intro x hx
    have := cntB_iff.1 (this x hx)
    simp [leB]; omega
  exact ⟨hE, by rw [mrgH, if_pos hE, hT]⟩
end Go.Proofs.Ythkngfomanhmnaa
