/- Chapter 29: histograms: Add, over any program that has the text. -/
import Derived.Test.YthkngfomanhmnaaH3
namespace Go.Proofs.Ythkngfomanhmnaa
open Go.AL
variable {P : Program} [h : Facts P]

/-- The place of a number among the bins. -/
def plc (x : THist) (n : Int) : Int := (n - x.fLow).tdiv x.fWidth
def addN (x : THist) (n : Int) : Int := if n < x.fLow then x.fBelow + 1 else if plc x n < x.fBins.length then x.fBins.getD (plc x n).toNat 0 + 1 else x.fOver + 1
def addT (x : THist) (n : Int) : THist := if n < x.fLow then ⟨x.fLow, x.fWidth, x.fBins, x.fBelow + 1, x.fOver⟩ else if plc x n < x.fBins.length then ⟨x.fLow, x.fWidth, x.fBins.set (plc x n).toNat (x.fBins.getD (plc x n).toNat 0 + 1), x.fBelow, x.fOver⟩ else ⟨x.fLow, x.fWidth, x.fBins, x.fBelow, x.fOver + 1⟩
def addE (x : THist) (n : Int) : Int := if hck x = 0 ∧ inB n = true then (if 1000000000000 < addN x n then 13 else 0) else 2
def addH (x : THist) (n : Int) : THist := if addE x n = 0 then addT x n else zeroH

theorem addE_bad {x : THist} {n : Int} (h0 : ¬ (hck x = 0 ∧ inB n = true)) : addE x n = 2 := by unfold addE; rw [if_neg h0]
theorem addE_good {x : THist} {n : Int} (h0 : hck x = 0) (h1 : inB n = true) : addE x n = if 1000000000000 < addN x n then 13 else 0 := by unfold addE; rw [if_pos ⟨h0, h1⟩]

theorem c_Add (x : THist) (n : Int) (hl : x.fBins.length ≤ 4000000000) : FCall P 17 [.agg x.cells, .int .i64 n] (fun r => r = .tup [.agg (addH x n).cells, .int .i64 (addE x n)]) := by
  refine fcall_of h.f17 rfl (by decide) h.mo (by kernel_rfl) fun X hX => ?_
  simp
  refine xcall_fn (c_Check x hl) (by simp) ?_
  by_cases h0 : hck x = 0
  case neg =>
    have e1 := (hck_cases x).resolve_left h0
    simp [addH, addE_bad (fun g => h0 g.1), zeroH, e1]
  simp [h0]
  refine xcall_fn (c_In n) (by simp) ?_
  by_cases h1 : inB n = true
  case neg => simp [addH, addE_bad (fun g => h1 g.2), zeroH, h1]
  simp [h1]
  obtain ⟨g0, g1, g2, g3⟩ := hck_all h0
  obtain ⟨e1, e2, e3, e4, e5⟩ := newE_zero.1 g0
  have b1 := inB_iff.1 e1
  have b2 := inB_iff.1 h1
  have b3 := cntB_iff.1 g1
  have b4 := cntB_iff.1 g2
  refine xcall_mono (c_Clone x.fBins (by omega) _) ?_
  rintro _ _ ⟨rfl, rfl⟩
  have hE := addE_good h0 h1
  by_cases q1 : n < x.fLow
  · have w1 : IntKind.i64.wrap (x.fBelow + 1) = x.fBelow + 1 := i64_id (by omega) (by omega)
    rw [show addN x n = x.fBelow + 1 by simp [addN, q1]] at hE
    simp [q1, w1]
    refine ⟨fun q => ?_, fun q => ?_⟩
    · rw [if_pos (by omega)] at hE
      simp [addH, hE, zeroH]
    · rw [if_neg (by omega)] at hE
      simp [addH, hE, addT, q1]
  have w2 : IntKind.i64.wrap (n - x.fLow) = n - x.fLow := i64_id (by omega) (by omega)
  have w3 : 0 ≤ plc x n ∧ plc x n ≤ 2000000000000 := by
    unfold plc
    rw [Int.tdiv_eq_ediv_of_nonneg (by omega)]
    refine ⟨Int.ediv_nonneg (by omega) (by omega), ?_⟩
    exact Int.le_trans (Int.ediv_le_self _ (by omega)) (by omega)
  have w4 : IntKind.i64.wrap (plc x n) = plc x n := i64_id (by omega) (by omega)
  have w5 : ¬ x.fWidth = 0 := by omega
  have hp : (n - x.fLow).tdiv x.fWidth = plc x n := rfl
  by_cases q2 : plc x n < x.fBins.length
  · have q3 : (plc x n).toNat < x.fBins.length := by omega
    have b5 := cntB_iff.1 (List.all_eq_true.1 g3 _ (List.getElem_mem q3))
    have w1 : IntKind.i64.wrap (x.fBins[(plc x n).toNat] + 1) = x.fBins[(plc x n).toNat] + 1 := i64_id (by omega) (by omega)
    rw [show addN x n = x.fBins[(plc x n).toNat] + 1 by simp [addN, q1, q2, q3]] at hE
    simp [q1, w2, w5, hp, w4, q2, w3, q3, w1]
    refine ⟨fun q => ?_, fun q => ?_⟩
    · rw [if_pos (by omega)] at hE
      simp [addH, hE, zeroH]
    · rw [if_neg (by omega)] at hE
      simp [addH, hE, addT, q1, q2, q3]
  · have w1 : IntKind.i64.wrap (x.fOver + 1) = x.fOver + 1 := i64_id (by omega) (by omega)
    rw [show addN x n = x.fOver + 1 by simp [addN, q1, q2]] at hE
    simp [q1, w2, w5, hp, w4, q2, w1]
    refine ⟨fun q => ?_, fun q => ?_⟩
    · rw [if_pos (by omega)] at hE
      simp [addH, hE, zeroH]
    · rw [if_neg (by omega)] at hE
      simp [addH, hE, addT, q1, q2]

theorem plc_lt {x : THist} {n : Int} (m : Int) (hw : 1 ≤ x.fWidth) (hn : x.fLow ≤ n) : plc x n < m ↔ n < x.fLow + m * x.fWidth := by
  unfold plc
  rw [Int.tdiv_eq_ediv_of_nonneg (by omega), Int.ediv_lt_iff_lt_mul (by omega)]
  omega
theorem mul_bound {m w a b : Int} (h0 : 0 ≤ m) (h1 : m ≤ a) (h2 : 0 ≤ w) (h3 : w ≤ b) : 0 ≤ m * w ∧ m * w ≤ a * b :=
  ⟨Int.mul_nonneg h0 h2, Int.mul_le_mul h1 h3 h2 (by omega)⟩

theorem c_with (x : THist) (l : List Int) (r0 r1 : Row) (f : Nat) : XCall P 35 [.agg x.cells, B 2 l] [r0, r1, RF 3 l f] (fun r H' => r = .agg [.int .i64 x.fLow, .int .i64 x.fWidth, B 2 l, .int .i64 x.fBelow, .int .i64 x.fOver] ∧ ∃ d1 d2, H' = [r0, r1, RF 3 l f, d1, d2]) := by
  refine xcall_of h.f35 rfl (by decide) h.mo (by kernel_rfl) fun X hX => ?_
  simp

theorem c_RAdd (x : THist) (n : Int) (hl : x.fBins.length ≤ 4000000000) : FCall P 18 [.agg x.cells, .int .i64 n] (fun r => r = .tup [.agg (addH x n).cells, .int .i64 (addE x n)]) := by
  refine fcall_of h.f18 rfl (by decide) h.mo (by kernel_rfl) fun X hX => ?_
  simp
  refine xcall_fn (c_RCheck x hl) (by simp) ?_
  by_cases h0 : hck x = 0
  case neg =>
    have e1 := (hck_cases x).resolve_left h0
    simp [addH, addE_bad (fun g => h0 g.1), zeroH, e1]
  simp [h0]
  refine xcall_fn (c_RIn n) (by simp) ?_
  by_cases h1 : inB n = true
  case neg => simp [addH, addE_bad (fun g => h1 g.2), zeroH, h1]
  obtain ⟨g0, g1, g2, g3⟩ := hck_all h0
  obtain ⟨e1, e2, e3, e4, e5⟩ := newE_zero.1 g0
  have b1 := inB_iff.1 e1
  have b2 := inB_iff.1 h1
  have b3 := cntB_iff.1 g1
  have b4 := cntB_iff.1 g2
  simp [h1]
  refine ⟨⟨by omega, by omega⟩, ?_⟩
  refine xcall_mono (c_with x x.fBins _ _ _) ?_
  rintro _ _ ⟨rfl, d1, d2, rfl⟩
  have hE := addE_good h0 h1
  by_cases q1 : n < x.fLow
  · have w1 : IntKind.i64.wrap (x.fBelow + 1) = x.fBelow + 1 := i64_id (by omega) (by omega)
    rw [show addN x n = x.fBelow + 1 by simp [addN, q1]] at hE
    simp [q1, w1]
    refine ⟨fun q => ?_, fun q => ?_⟩
    · rw [if_pos (by omega)] at hE
      simp [addH, hE, zeroH]
    · rw [if_neg (by omega)] at hE
      simp [addH, hE, addT, q1]
  have b6 := mul_bound (m := x.fBins.length) (w := x.fWidth) (a := 100) (b := 1000000) (by omega) e5 (by omega) e3
  have w6 : IntKind.i64.wrap ((x.fBins.length : Int) * x.fWidth) = (x.fBins.length : Int) * x.fWidth := i64_id (by omega) (by omega)
  have w7 : IntKind.i64.wrap (x.fLow + (x.fBins.length : Int) * x.fWidth) = x.fLow + (x.fBins.length : Int) * x.fWidth := i64_id (by omega) (by omega)
  have hiff := plc_lt (x := x) (n := n) x.fBins.length e2 (by omega)
  by_cases q2 : plc x n < x.fBins.length
  · have q4 : ¬ x.fLow + (x.fBins.length : Int) * x.fWidth ≤ n := by have := hiff.1 q2; omega
    have w2 : IntKind.i64.wrap (n - x.fLow) = n - x.fLow := i64_id (by omega) (by omega)
    have w3 : 0 ≤ plc x n := by
      unfold plc
      rw [Int.tdiv_eq_ediv_of_nonneg (by omega)]
      exact Int.ediv_nonneg (by omega) (by omega)
    have w4 : IntKind.i64.wrap (plc x n) = plc x n := i64_id (by omega) (by omega)
    have w5 : ¬ x.fWidth = 0 := by omega
    have hp : (n - x.fLow).tdiv x.fWidth = plc x n := rfl
    have q3 : (plc x n).toNat < x.fBins.length := by omega
    have b5 := cntB_iff.1 (List.all_eq_true.1 g3 _ (List.getElem_mem q3))
    have w1 : IntKind.i64.wrap (x.fBins[(plc x n).toNat] + 1) = x.fBins[(plc x n).toNat] + 1 := i64_id (by omega) (by omega)
    rw [show addN x n = x.fBins[(plc x n).toNat] + 1 by simp [addN, q1, q2, q3]] at hE
    simp [q1, w6, w7, q4, w2, w5, hp, w4, q2, w3, q3, w1]
    refine ⟨fun q => ?_, fun q => ?_⟩
    · rw [if_pos (by omega)] at hE
      simp [addH, hE, zeroH]
    · rw [if_neg (by omega)] at hE
      simp [addH, hE, addT, q1, q2, q3]
  · have q4 : x.fLow + (x.fBins.length : Int) * x.fWidth ≤ n := by have := mt hiff.2 q2; omega
    have w1 : IntKind.i64.wrap (x.fOver + 1) = x.fOver + 1 := i64_id (by omega) (by omega)
    rw [show addN x n = x.fOver + 1 by simp [addN, q1, q2]] at hE
    simp [q1, w6, w7, q4, w1]
    refine ⟨fun q => ?_, fun q => ?_⟩
    · rw [if_pos (by omega)] at hE
      simp [addH, hE, zeroH]
    · rw [if_neg (by omega)] at hE
      simp [addH, hE, addT, q1, q2]
end Go.Proofs.Ythkngfomanhmnaa
