/- Chapter 29: histograms: the reference's Merge, over any program that has the text. -/
import Derived.Test.YthkngfomanhmnaaH4
namespace Go.Proofs.Ythkngfomanhmnaa
open Go.AL
variable {P : Program} [h : Facts P]

def sums (a b : THist) : List Int := List.zipWith (· + ·) a.fBins b.fBins
def fullB (a b : THist) (k : Nat) : Bool := !(leB (a.fBelow + b.fBelow) && leB (a.fOver + b.fOver) && ((sums a b).take k).all leB)
theorem leB_not {n : Int} : (!leB n) = decide (1000000000000 < n) := by
  unfold leB
  by_cases h : n ≤ 1000000000000 <;> simp [h] <;> omega
theorem fullB_zero (a b : THist) : fullB a b 0 = (decide (1000000000000 < a.fBelow + b.fBelow) || decide (1000000000000 < a.fOver + b.fOver)) := by
  unfold fullB
  rw [← leB_not, ← leB_not]; simp
theorem fullB_succ {a b : THist} {k : Nat} (hk : k < (sums a b).length) : fullB a b (k + 1) = (fullB a b k || decide (1000000000000 < (sums a b)[k])) := by
  unfold fullB
  rw [← leB_not, List.take_succ_eq_append_getElem hk, List.all_append]
  simp [Bool.and_assoc, Bool.or_assoc]
theorem mrgE_full {a b : THist} (h0 : hck a = 0) (h1 : hck b = 0) (g1 : a.fLow = b.fLow) (g2 : a.fWidth = b.fWidth) (g3 : a.fBins.length = b.fBins.length) : mrgE a b = if fullB a b (sums a b).length = true then 13 else 0 := by
  have : (cnts (mrgT a b)).all leB = !fullB a b (sums a b).length := by
    unfold fullB
    rw [List.take_length]
    simp only [cnts, mrgT, sums, List.cons_append, List.all_cons, List.all_append, List.all_nil, Bool.not_not, Bool.and_true]
    rw [Bool.and_assoc]
    congr 1
    rw [Bool.and_comm]
  simp only [mrgE, h0, h1, g1, g2, g3, and_self, if_true, this]
  cases fullB a b (sums a b).length <;> simp

set_option maxRecDepth 20000 in
set_option maxHeartbeats 1000000 in
theorem c_RMerge (a b : THist) (hla : a.fBins.length ≤ 4000000000) (hlb : b.fBins.length ≤ 4000000000) : FCall P 22 [.agg a.cells, .agg b.cells] (fun r => r = .tup [.agg (mrgH a b).cells, .int .i64 (mrgE a b)]) := by
  refine fcall_of h.f22 rfl (by decide) h.mo (by kernel_rfl) fun X hX => ?_
  simp
  refine xcall_fn (c_RCheck a hla) (by simp) ?_
  by_cases h0 : hck a = 0
  case neg =>
    have e1 := (hck_cases a).resolve_left h0
    simp [mrgH, mrgE, zeroH, e1]
  simp [h0]
  refine xcall_fn (c_RCheck b hlb) (by simp) ?_
  by_cases h1 : hck b = 0
  case neg =>
    have e1 := (hck_cases b).resolve_left h1
    simp [mrgH, mrgE, zeroH, e1]
  simp [h1]
  by_cases g1 : a.fLow = b.fLow
  case neg => simp [mrgH, mrgE, zeroH, h0, h1, g1]
  by_cases g2 : a.fWidth = b.fWidth
  case neg => simp [mrgH, mrgE, zeroH, h0, h1, g1, g2]
  by_cases g3 : a.fBins.length = b.fBins.length
  case neg =>
    have g4 : ¬ (a.fBins.length : Int) = b.fBins.length := by omega
    simp [mrgH, mrgE, zeroH, h0, h1, g1, g2, g3, g4]
  obtain ⟨k1, k2⟩ := hck_ne (hck_zero.1 h0).1
  have g4 : (a.fBins.length : Int) = b.fBins.length := by omega
  obtain ⟨_, a1, a2, a3⟩ := hck_all h0
  obtain ⟨_, b1, b2, b3⟩ := hck_all h1
  have a1 := cntB_iff.1 a1
  have a2 := cntB_iff.1 a2
  have b1 := cntB_iff.1 b1
  have b2 := cntB_iff.1 b2
  have w1 : IntKind.i64.wrap (a.fBelow + b.fBelow) = a.fBelow + b.fBelow := i64_id (by omega) (by omega)
  have w2 : IntKind.i64.wrap (a.fOver + b.fOver) = a.fOver + b.fOver := i64_id (by omega) (by omega)
  have hsl : (sums a b).length = a.fBins.length := by simp [sums]; omega
  have hE := mrgE_full h0 h1 g1 g2 g3
  simp [eq_true g1, eq_true g2, eq_true g4, w1, w2]
  refine ⟨fun q1 => ?_, fun q1 => ?_⟩
  all_goals
   have hf0 : fullB a b 0 = (decide (1000000000000 < a.fBelow + b.fBelow) || decide (1000000000000 < a.fOver + b.fOver)) := fullB_zero a b
   refine awp_loop (σ := Nat) (fun k => (⟨[.any, .any, .pto 0 5 0 0, .pto 1 5 0 0, .pto 2 5 0 0, .any, .pto 3 5 0 0, .bool (fullB a b k), .int .i64 k, .any, .any, .any, .any, .any, .any, .any, .any, .any, .any, .any, .any, .any, .any, .any, .any, .any, .any, .any, .any, .any, .any, .any, .any, .any, .any, .any, .any, .any, .any, .any, .any, .any, .any, .any, .any, .any, .any, .any, .any, .any, .any, .any, .any, .any, .any, .any, .any, .any, .any, .any, .any, .any, .any, .any, .any, .any, .any, .any, .any, .any, .any, .any, .any, .any, .any, .any, .any, .any, .any, .any, .any, .any, .any, .any, .any, .any, .any, .any, .any, .any, .any, .any, .any, .any, .any, .any], [⟨24, 5, [.agg a.cells], 0, true⟩, ⟨24, 5, [.agg b.cells], 0, true⟩, ⟨24, 5, [.agg zeroH.cells], 0, true⟩, ⟨24, 5, [.agg [.int .i64 a.fLow, .int .i64 a.fWidth, B 4 ((sums a b).take k), .int .i64 (a.fBelow + b.fBelow), .int .i64 (a.fOver + b.fOver)]], 0, true⟩, RF 3 ((sums a b).take k) 0]⟩ : S)) (fun k => k ≤ a.fBins.length) (fun k => a.fBins.length - k) 0 (Wk.ren 0 [0, 1, 2, 3, 4] hX rfl (by decide) (by simp [hf0, q1] <;> omega) (by simp) (by simp) (by simp [zeroH])) (by omega) ?_
   rintro k hk
   refine vc_sound h.mo _ _ _ (by kernel_rfl) ?_
   rcases Nat.lt_or_ge k a.fBins.length with hlt | hge
   · have hk1 := wrap_succ hlt (by omega)
     have hltb : k < b.fBins.length := by omega
     have o1 := cntB_iff.1 (List.all_eq_true.1 a3 _ (List.getElem_mem hlt))
     have o2 := cntB_iff.1 (List.all_eq_true.1 b3 _ (List.getElem_mem hltb))
     have hw : IntKind.i64.wrap (a.fBins[k] + b.fBins[k]) = a.fBins[k] + b.fBins[k] := i64_id (by omega) (by omega)
     have hks : k < (sums a b).length := by omega
     have hgs : (sums a b)[k] = a.fBins[k] + b.fBins[k] := List.getElem_zipWith
     have hfs := fullB_succ hks
     have hts := List.take_succ_eq_append_getElem hks
     rw [hgs] at hfs hts
     have hml : ((sums a b).take k).length ≤ 100 := by simp; omega
     generalize (sums a b).take k = m at hts hml
     generalize fullB a b k = q at hfs
     cases q
     all_goals
       simp [hlt, hltb, hw]
       exact ⟨⟨by omega, by omega⟩, k + 1, Wk.ren 0 [0, 1, 2, 3, 6] hX rfl (by decide) (by simp [hk1, hfs, hts]) (by simp) (by simp) (by simp [hts]), by omega, by omega⟩
   · have hkl : k = a.fBins.length := by omega
     subst hkl
     simp
     have ht : (sums a b).take a.fBins.length = sums a b := List.take_of_length_le (by omega)
     rw [hsl] at hE
     refine ⟨fun q => ?_, fun q => ?_⟩
     · rw [q] at hE
       simp [mrgH, hE, zeroH]
     · rw [q] at hE
       simp [mrgH, hE, mrgT, ht]
       rfl
end Go.Proofs.Ythkngfomanhmnaa
