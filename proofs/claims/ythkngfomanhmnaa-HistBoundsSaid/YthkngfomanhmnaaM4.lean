/- Chapter 29: the laws HistCounts and HistSplits, over any program that has the text. -/
import Derived.Test.YthkngfomanhmnaaM3
namespace Go.Proofs.Ythkngfomanhmnaa
open Go.AL
variable {P : Program} [h : Facts P]

theorem fill_new {low width : Int} {m : Nat} (h : newE low width m = 0) {l : List Int} (hl : l.all inB = true) (hn : l.length ≤ 1000000) : fill (newH low width m) l = some (histOf low width m l) := by
  rw [histOf_nil h]
  have := fill_histOf h l [] hl (by simp; omega)
  simpa using this

set_option maxRecDepth 20000 in
set_option maxHeartbeats 1000000 in
theorem c_HistCounts (low width bins : Int) (l : List Int) (hl : l.length ≤ 9223372036854775807) : FCall P 7 [.int .i64 low, .int .i64 width, .int .i64 bins, Ls false l] (fun r => r = .bool true) := by
  refine fcall_ofB [10, 12] h.f7 rfl (by decide) h.mo (by kernel_rfl) fun X hX => ?_
  simp
  refine xcall_fn (c_New low width bins) (by simp) ?_
  by_cases h0 : newE low width bins = 0
  case neg =>
    simp [h0]
    refine xcall_fn c_awake (by simp) ?_
    simp
  simp [h0]
  refine xcall_fn (c_few l hl) (by simp) ?_
  by_cases h1 : (decide (l.length ≤ 200) && l.all inB) = true
  case neg =>
    rw [Bool.not_eq_true] at h1
    rw [h1]
    simp
    refine xcall_fn c_awake (by simp) ?_
    simp
  rw [h1]
  simp only [Bool.and_eq_true, decide_eq_true_eq] at h1
  obtain ⟨h1, h2⟩ := h1
  simp
  obtain ⟨e1, e2, e3, e4, e5⟩ := newE_zero.1 h0
  obtain ⟨m, rfl⟩ : ∃ m : Nat, bins = (m : Int) := ⟨bins.toNat, by omega⟩
  have hf := fill_new h0 h2 (by omega)
  have b1 := inB_iff.1 e1
  have hlen := histOf_len low width m l
  have hc := count_histOf h0 h2 (by omega)
  have f1 : (histOf low width m l).fLow = low := rfl
  have f2 : (histOf low width m l).fWidth = width := rfl
  have f4 : (histOf low width m l).fBelow = btw l (-1000000000000) low := rfl
  have f5 : (histOf low width m l).fOver = btw l (low + m * width) 2000000000000 := rfl
  refine xcall_fn (c_filled (newH low width m) l hl (by have := newH_len low width m; omega)) (by simp) ?_
  rw [fillH, hf]
  simp only [Option.getD_some, Option.isSome_some]
  have hb : ∀ (i : Nat) (hi : i < (histOf low width m l).fBins.length), (histOf low width m l).fBins[i] = btw l (low + i * width) (low + (i + 1) * width) := fun i hi => histOf_bin hi
  generalize hg : histOf low width m l = g at hlen hc f1 f2 f4 f5 hb
  simp [hlen, f1, f2]
  refine xcall_fn (c_Count g (by omega)) (by simp [f1, f2]) ?_
  simp [hc]
  have hmb := mul_bound (m := (m : Int)) (w := width) (a := 100) (b := 1000000) (by omega) e5 (by omega) e3
  refine awp_loop (σ := Nat) (fun k => (⟨[.int .i64 low, .int .i64 width, .int .i64 m, Ls false l, .any, .any, .any, .any, .any, .any, .any, .pto 0 5 0 0, .any, .int .i64 k, .any, .any, .any, .any, .any, .any, .any, .any, .any, .any, .any, .any, .any, .any, .any, .any, .any, .any, .any, .any, .any, .any, .any, .any, .any, .any, .any, .any, .any, .any, .any, .any, .any, .any, .any, .any, .any, .any, .any, .any, .any, .any, .any, .any, .any, .any, .any, .any, .any, .any, .any, .any, .any, .any, .any, .any, .any, .any, .any, .any, .any, .any, .any, .any, .any, .any, .any, .any, .any, .any, .any, .any, .any, .any, .any, .any, .any, .any, .any, .any, .any, .any, .any, .any, .any, .any, .any, .any, .any, .any, .any, .any, .any, .any], [⟨24, 5, [.agg [.int .i64 low, .int .i64 width, Ls false g.fBins, .int .i64 g.fBelow, .int .i64 g.fOver]], 0, true⟩]⟩ : S)) (fun k => k ≤ m) (fun k => m - k) 0 (Wk.ren 0 [1] hX rfl (by decide) (by simp) (by simp) (by simp) (by simp [f1, f2])) (by omega) ?_
  rintro k hk
  refine vcB_sound [10, 12] h.mo _ _ _ (by kernel_rfl) ?_
  rcases Nat.lt_or_ge k m with hlt | hge
  · have hk1 := wrap_succ hlt (by omega)
    have hlk : k < g.fBins.length := by omega
    have hbk := hb k hlk
    have m1 := mul_bound (m := (k : Int)) (w := width) (a := 100) (b := 1000000) (by omega) (by omega) (by omega) e3
    have m2 := mul_bound (m := (k : Int) + 1) (w := width) (a := 100) (b := 1000000) (by omega) (by omega) (by omega) e3
    have w1 : IntKind.i64.wrap ((k : Int) * width) = k * width := i64_id (by omega) (by omega)
    have w2 : IntKind.i64.wrap (low + (k : Int) * width) = low + k * width := i64_id (by omega) (by omega)
    have w3 : IntKind.i64.wrap (((k : Int) + 1) * width) = (k + 1) * width := i64_id (by omega) (by omega)
    have w4 : IntKind.i64.wrap (low + ((k : Int) + 1) * width) = low + (k + 1) * width := i64_id (by omega) (by omega)
    have w5 : IntKind.i64.wrap ((k : Int) + 1) = (k : Int) + 1 := i64_id (by omega) (by omega)
    simp [hlt]
    refine awp_quiet [0, 1, 2, 3, 4, 5, 6, 7, 8, 9, 10, 11, 12, 13, 14, 15, 16, 17, 18] _ h.mo (by kernel_rfl) (by decide) (by kernel_rfl) (by rfl) ?_
    simp [hlk, w1, w2, w3, w4, w5]
    refine ⟨_, c_between l (low + k * width) (low + (k + 1) * width) hl, ?_⟩
    simp [hbk]
    exact ⟨k + 1, Wk.ren 0 [0] hX rfl (by decide) (by simp [w5]) (by simp) (by simp) (by simp), by omega, by omega⟩
  · have hkm : k = m := by omega
    subst hkm
    simp
    have w1 : IntKind.i64.wrap ((k : Int) * width) = k * width := i64_id (by omega) (by omega)
    have w2 : IntKind.i64.wrap (low + (k : Int) * width) = low + k * width := i64_id (by omega) (by omega)
    refine awp_quiet [0, 1, 2, 3, 4, 5, 6, 7, 8, 9, 10, 11, 12, 13, 14, 15, 16, 17, 18, 19, 20, 21] _ h.mo (by kernel_rfl) (by decide) (by kernel_rfl) (by rfl) ?_
    simp
    refine ⟨_, c_between l (-1000000000000) low hl, ?_⟩
    simp [f4, w1, w2]
    refine ⟨_, c_between l (low + k * width) 2000000000000 hl, ?_⟩
    simp [f5]
    refine ⟨_, c_awake, ?_⟩
    simp

set_option maxRecDepth 20000 in
set_option maxHeartbeats 1000000 in
theorem c_HistSplits (low width bins : Int) (a b : List Int) (ha : a.length ≤ 9223372036854775807) (hb : b.length ≤ 9223372036854775807) : FCall P 8 [.int .i64 low, .int .i64 width, .int .i64 bins, Ls false a, Ls false b] (fun r => r = .bool true) := by
  refine fcall_of h.f8 rfl (by decide) h.mo (by kernel_rfl) fun X hX => ?_
  simp
  refine xcall_fn (c_New low width bins) (by simp) ?_
  by_cases h0 : newE low width bins = 0
  case neg =>
    simp [h0]
    refine xcall_fn c_awake (by simp) ?_
    simp
  simp [h0]
  refine xcall_fn (c_few a ha) (by simp) ?_
  by_cases h1 : (decide (a.length ≤ 200) && a.all inB) = true
  case neg =>
    rw [Bool.not_eq_true] at h1
    rw [h1]
    simp
    refine xcall_fn c_awake (by simp) ?_
    simp
  rw [h1]
  simp only [Bool.and_eq_true, decide_eq_true_eq] at h1
  obtain ⟨h1, h2⟩ := h1
  simp
  refine xcall_fn (c_few b hb) (by simp) ?_
  by_cases h3 : (decide (b.length ≤ 200) && b.all inB) = true
  case neg =>
    rw [Bool.not_eq_true] at h3
    rw [h3]
    simp
    refine xcall_fn c_awake (by simp) ?_
    simp
  rw [h3]
  simp only [Bool.and_eq_true, decide_eq_true_eq] at h3
  obtain ⟨h3, h4⟩ := h3
  simp
  obtain ⟨e1, e2, e3, e4, e5⟩ := newE_zero.1 h0
  obtain ⟨m, rfl⟩ : ∃ m : Nat, bins = (m : Int) := ⟨bins.toNat, by omega⟩
  have hfa := fill_new h0 h2 (by omega)
  have hfb := fill_new h0 h4 (by omega)
  have hfc := fill_histOf h0 b a h4 (by omega)
  have hm := mrg_histOf (a := a) (b := b) h0 (by omega)
  have hla := histOf_len low width m a
  have hlb := histOf_len low width m b
  have hlc := histOf_len low width m (a ++ b)
  have hln := newH_len low width m
  have o1 := c_filled (P := P) (newH low width m) a ha (by omega)
  have o2 := c_filled (P := P) (newH low width m) b hb (by omega)
  have o3 := c_filled (P := P) (histOf low width m a) b hb (by omega)
  have o4 := c_Merge (P := P) (histOf low width m a) (histOf low width m b) (by omega) (by omega)
  have o5 := c_SameH (P := P) (histOf low width m (a ++ b)) (histOf low width m (a ++ b)) (by omega)
  rw [fillH, hfa] at o1
  rw [fillH, hfb] at o2
  rw [fillH, hfc] at o3
  rw [hm.1, hm.2] at o4
  simp only [Option.getD_some, Option.isSome_some] at o1 o2 o3
  generalize histOf low width m a = g1 at o1 o3 o4
  generalize histOf low width m b = g2 at o2 o4
  generalize histOf low width m (a ++ b) = g3 at o3 o4 o5
  refine xcall_fn o1 (by simp) ?_
  simp
  refine xcall_fn o2 (by simp) ?_
  simp
  refine xcall_fn o3 (by simp) ?_
  simp
  refine xcall_fn o4 (by simp) ?_
  simp
  refine xcall_fn o5 (by simp) ?_
  simp
  refine xcall_fn c_awake (by simp) ?_
  simp
end Go.Proofs.Ythkngfomanhmnaa
