/- Chapter 29: histograms: the reference's Count and Same, over any program that has the text. -/
import Derived.Test.YthkngfomanhmnaaH2
namespace Go.Proofs.Ythkngfomanhmnaa
open Go.AL
variable {P : Program} [h : Facts P]

theorem cap_of {n : Int} (hn : cntB n = true) : clip n = n ∧ cap n = n := by
  have := cntB_iff.1 hn
  unfold clip cap; omega
theorem addV_two {a b : Int} (ha : cntB a = true) (hb : cntB b = true) : addV a b = cap (a + b) := by
  have := cntB_iff.1 ha
  have := cntB_iff.1 hb
  unfold addV clip cap; omega
theorem hck_all {x : THist} (h0 : hck x = 0) : newE x.fLow x.fWidth x.fBins.length = 0 ∧ cntB x.fBelow = true ∧ cntB x.fOver = true ∧ x.fBins.all cntB = true := by
  rw [hck_parts] at h0
  split at h0
  · assumption
  · cases h0

theorem c_RCount (x : THist) (hl : x.fBins.length ≤ 4000000000) : FCall P 20 [.agg x.cells] (fun r => r = .int .i64 (countV x)) := by
  refine fcall_of h.f20 rfl (by decide) h.mo (by kernel_rfl) fun X hX => ?_
  simp
  refine xcall_fn (c_RCheck x hl) (by simp) ?_
  unfold countV
  by_cases h0 : hck x = 0
  case neg => simp [h0]
  obtain ⟨h1, h2, h3, h4⟩ := hck_all h0
  simp [h0]
  refine xcall_fn (c_RNAdd x.fBelow x.fOver) (by simp) ?_
  have hs : (cnts x).sum = x.fBelow + x.fOver + x.fBins.sum := by simp [cnts]; omega
  simp [addV_two h2 h3, hs]
  have hl2 : x.fBins.length ≤ 9223372036854775807 := by omega
  refine awp_loop (σ := Nat) (fun k => (⟨[.any, .pto 0 5 0 0, .any, .int .i64 (cap (x.fBelow + x.fOver + (x.fBins.take k).sum)), .int .i64 k, .any, .any, .any, .any, .any, .any, .any, .any, .any, .any, .any, .any, .any, .any, .any, .any, .any, .any, .any, .any, .any, .any, .any], [⟨24, 5, [.agg x.cells], 0, true⟩]⟩ : S)) (fun k => k ≤ x.fBins.length) (fun k => x.fBins.length - k) 0 (Wk.ren 0 [0] hX rfl (by decide) (by simp) (by simp) (by simp) (by simp)) (by omega) ?_
  rintro k hk
  refine vc_sound h.mo _ _ _ (by kernel_rfl) ?_
  rcases Nat.lt_or_ge k x.fBins.length with hlt | hge
  · have hk1 := wrap_succ hlt hl2
    have g1 := (sum_nonneg (all_take h4 k)).1
    have g2 : cntB x.fBins[k] = true := List.all_eq_true.1 h4 _ (List.getElem_mem hlt)
    have b1 := cntB_iff.1 h2
    have b2 := cntB_iff.1 h3
    have g3 := addV_cap (s := x.fBelow + x.fOver + (x.fBins.take k).sum) (by omega) g2
    have g4 := sum_take_succ hlt
    simp [hlt]
    refine xcall_fn (c_RNAdd (cap (x.fBelow + x.fOver + (x.fBins.take k).sum)) x.fBins[k]) (by simp) ?_
    simp
    exact ⟨k + 1, Wk.ren 0 [0] hX rfl (by decide) (by simp [hk1, g3, g4]; congr 1; omega) (by simp) (by simp) (by simp), by omega, by omega⟩
  · have hkl : k = x.fBins.length := by omega
    subst hkl
    simp

def sameH (x y : THist) : Bool := decide (x = y)
theorem c_SameH (x y : THist) (hl : x.fBins.length ≤ 4000000000) : FCall P 14 [.agg x.cells, .agg y.cells] (fun r => r = .bool (decide (x = y))) := by
  refine fcall_of h.f14 rfl (by decide) h.mo (by kernel_rfl) fun X hX => ?_
  obtain ⟨x1, x2, x3, x4, x5⟩ := x
  obtain ⟨y1, y2, y3, y4, y5⟩ := y
  simp only at hl
  by_cases e1 : x1 = y1
  case neg => simp [e1]
  by_cases e2 : x2 = y2
  case neg => simp [e1, e2]
  by_cases e4 : x4 = y4
  case neg => simp [e1, e2, e4]
  by_cases e5 : x5 = y5
  case neg => simp [e1, e2, e4, e5]
  by_cases el : x3.length = y3.length
  case neg =>
    have el2 : ¬ (x3.length : Int) = y3.length := by omega
    simp [e1, e2, e4, e5, el2]
    intro e; exact el (by rw [e])
  simp [e1, e2, e4, e5, el]
  refine awp_loop (σ := Nat) (fun k => (⟨[.any, .any, .pto 0 5 0 0, .pto 1 5 0 0, .any, .int .i64 k, .any, .any, .any, .any, .any, .any, .any, .any, .any, .any, .any, .any, .any, .any, .any, .any, .any, .any, .any, .any, .any, .any, .any, .any, .any, .any, .any, .any, .any, .any, .any, .any, .any, .any, .any, .any, .any, .any, .any, .any, .any, .any, .any, .any, .any, .any, .any, .any, .any, .any, .any, .any, .any], [⟨24, 5, [.agg (⟨y1, y2, x3, y4, y5⟩ : THist).cells], 0, true⟩, ⟨24, 5, [.agg (⟨y1, y2, y3, y4, y5⟩ : THist).cells], 0, true⟩]⟩ : S)) (fun k => k ≤ x3.length ∧ x3.take k = y3.take k) (fun k => x3.length - k) 0 (Wk.ren 0 [0, 1] hX rfl (by decide) (by simp) (by simp) (by simp) (by simp)) ⟨by omega, by simp⟩ ?_
  rintro k ⟨hk, hinv⟩
  refine vc_sound h.mo _ _ _ (by kernel_rfl) ?_
  rcases Nat.lt_or_ge k x3.length with hlt | hge
  · have hlb : k < y3.length := by omega
    have hk1 := wrap_succ hlt (by omega)
    simp [hlt, hlb]
    refine ⟨fun g => ne_of_get hlt hlb g, fun g => ⟨k + 1, Wk.ren 0 [0, 1] hX rfl (by decide) (by simp [hk1]) (by simp) (by simp) (by simp), ⟨by omega, take_succ_eq hlt hlb hinv g⟩, by omega⟩⟩
  · have hkl : k = x3.length := by omega
    subst hkl
    simp [el]
    exact eq_of_take el hinv
end Go.Proofs.Ythkngfomanhmnaa
