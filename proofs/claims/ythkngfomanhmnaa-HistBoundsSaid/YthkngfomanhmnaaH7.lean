/- Chapter 29: histograms: Quantile, over any program that has the text. -/
import Derived.Test.YthkngfomanhmnaaH6
namespace Go.Proofs.Ythkngfomanhmnaa
open Go.AL
variable {P : Program} [h : Facts P]

/-- What lies below the i-th bin. -/
def pre (x : THist) (i : Nat) : Int := x.fBelow + (x.fBins.take i).sum
def quB (x : THist) (k n : Int) (i : Nat) : Bool := decide (k * countV x ≤ n * pre x i)
def quI (x : THist) (k n : Int) : Option Nat := (List.range (x.fBins.length + 1)).find? (quB x k n)
def quG (x : THist) (k n : Int) : Prop := countV x ≠ 0 ∧ 1 ≤ n ∧ n ≤ 1000 ∧ 0 ≤ k ∧ k ≤ n
instance (x : THist) (k n : Int) : Decidable (quG x k n) := by unfold quG; infer_instance
def quV (x : THist) (k n : Int) : Int := if quG x k n then (match quI x k n with | some i => x.fLow + i * x.fWidth | none => 0) else 0
def quF (x : THist) (k n : Int) : Bool := if quG x k n then (quI x k n).isSome else false

theorem quI_at {x : THist} {k n : Int} {i : Nat} (hi : i ≤ x.fBins.length) (h1 : quB x k n i = true) (h2 : ∀ j, j < i → quB x k n j = false) : quI x k n = some i := by
  unfold quI
  rw [List.find?_range_eq_some]
  exact ⟨h1, by simp; omega, fun j hj => by simp [h2 j hj]⟩
theorem quI_no {x : THist} {k n : Int} (h2 : ∀ j, j ≤ x.fBins.length → quB x k n j = false) : quI x k n = none := by
  unfold quI
  rw [List.find?_eq_none]
  intro j hj
  simp at hj
  simp [h2 j (by omega)]
theorem countV_ok {x : THist} (h0 : countV x ≠ 0) : hck x = 0 ∧ 0 ≤ countV x ∧ countV x ≤ 1000000000000 := by
  have h1 : hck x = 0 := by
    unfold countV at h0
    split at h0
    · assumption
    · exact (h0 rfl).elim
  refine ⟨h1, ?_⟩
  have := (sum_nonneg (hck_zero.1 h1).2).1
  unfold countV cap
  rw [if_pos h1]
  omega
theorem pre_bound {x : THist} (h0 : hck x = 0) (i : Nat) : 0 ≤ pre x i ∧ pre x i ≤ 101000000000000 := by
  obtain ⟨g0, g1, g2, g3⟩ := hck_all h0
  obtain ⟨_, _, _, _, e5⟩ := newE_zero.1 g0
  have b := cntB_iff.1 g1
  have s := sum_nonneg (all_take g3 i)
  have : ((x.fBins.take i).length : Int) ≤ 100 := by simp; omega
  unfold pre
  omega
theorem pre_succ {x : THist} {i : Nat} (hi : i < x.fBins.length) : pre x (i + 1) = pre x i + x.fBins[i] := by
  unfold pre; rw [sum_take_succ hi]; omega

theorem c_Quantile (x : THist) (k n : Int) (hl : x.fBins.length ≤ 4000000000) : FCall P 23 [.agg x.cells, .int .i64 k, .int .i64 n] (fun r => r = .tup [.int .i64 (quV x k n), .bool (quF x k n)]) := by
  refine fcall_ofB [4] h.f23 rfl (by decide) h.mo (by kernel_rfl) fun X hX => ?_
  simp
  refine xcall_fn (c_Count x hl) (by simp) ?_
  by_cases hg : quG x k n
  case neg =>
    have e1 : quV x k n = 0 := by simp [quV, hg]
    have e2 : quF x k n = false := by simp [quF, hg]
    unfold quG at hg
    simp [e1, e2]
    exact fun a1 a2 a3 a4 a5 => (hg ⟨a1, a2, a3, a4, a5⟩).elim
  obtain ⟨g1, g2, g3, g4, g5⟩ := hg
  have e1 : ¬ n < 1 := by omega
  have e2 : ¬ 1000 < n := by omega
  have e3 : ¬ k < 0 := by omega
  have e4 : ¬ n < k := by omega
  simp [g1, e1, e2, e3, e4]
  obtain ⟨h0, v0, v1⟩ := countV_ok g1
  obtain ⟨z0, z1, z2, z3⟩ := hck_all h0
  obtain ⟨y1, y2, y3, y4, y5⟩ := newE_zero.1 z0
  have y1 := inB_iff.1 y1
  have hg : quG x k n := ⟨g1, g2, g3, g4, g5⟩
  have hV : quV x k n = match quI x k n with | some i => x.fLow + i * x.fWidth | none => 0 := by simp [quV, hg]
  have hF : quF x k n = (quI x k n).isSome := by simp [quF, hg]
  have u1 := mul_bound g4 (show k ≤ 1000 by omega) v0 v1
  have w1 : IntKind.i64.wrap (k * countV x) = k * countV x := i64_id (by omega) (by omega)
  refine awp_fz 0 (by rfl) (by simp) ?_
  simp
  refine awp_tree (.take 0 (.take 1 (.take 2 (.take 3 (.take 4 (.take 5 .done)))))) _ h.mo (by kernel_rfl) (by decide) (by kernel_rfl) (by rfl) ?_
  simp
  refine awp_loop (σ := Nat) (fun i => (⟨[.any, .int .i64 k, .int .i64 n, .ptr (.agg x.cells), .any, .any, .any, .any, .int .i64 (countV x), .int .i64 (x.fLow + i * x.fWidth), .int .i64 (pre x i), .any, .any, .any, .any, .any, .any, .any, .any, .any, .any, .any, .any, .any, .any, .any, .any, .any, .any, .any, .any, .any, .any, .any, .any, .any, .any, .any, .any, Ls false x.fBins, .int .i64 x.fBins.length, .int .i64 i, .any, .any, .any, .any, .any, .any, .any, .any, .any, .any, .any, .any, .any, .any, .any, .any, .any, .any, .any, .any, .any, .any, .any, .any, .any, .any, .any], []⟩ : S)) (fun i => i ≤ x.fBins.length ∧ ∀ j, j < i → quB x k n j = false) (fun i => x.fBins.length - i) 0 (Wk.ren 0 [] hX rfl (by decide) (by simp [pre]) (by simp) (by simp) (by simp)) ⟨by omega, by simp⟩ ?_
  rintro i ⟨hi, hinv⟩
  refine vc_sound h.mo _ _ _ (by kernel_rfl) ?_
  have p0 := pre_bound h0 i
  have u2 := mul_bound (show 0 ≤ n by omega) g3 p0.1 p0.2
  have w2 : IntKind.i64.wrap (n * pre x i) = n * pre x i := i64_id (by omega) (by omega)
  by_cases q : k * countV x ≤ n * pre x i
  · have hI := quI_at hi (by simpa [quB] using q) hinv
    rw [hI] at hV hF
    rcases Nat.lt_or_ge i x.fBins.length with hlt | hge
    · simp [hlt, w1, w2, q, hV, hF]
    · have hlt2 : ¬ i < x.fBins.length := by omega
      simp [hlt2, w1, w2, q, hV, hF]
  · have q2 : quB x k n i = false := by simpa [quB] using q
    have hinv2 : ∀ j, j < i + 1 → quB x k n j = false := fun j hj => by
      rcases Nat.lt_or_ge j i with h1 | h1
      · exact hinv j h1
      · rw [show j = i by omega]; exact q2
    rcases Nat.lt_or_ge i x.fBins.length with hlt | hge
    · have hk1 := wrap_succ hlt (by omega)
      have p1 := pre_bound h0 (i + 1)
      have p2 := pre_succ hlt
      have u3 := mul_bound (m := ((i + 1 : Nat) : Int)) (w := x.fWidth) (a := 100) (b := 1000000) (by omega) (by omega) (by omega) y3
      have w3 : IntKind.i64.wrap (pre x i + x.fBins[i]) = pre x (i + 1) := by rw [← p2]; exact i64_id (by omega) (by omega)
      have u4 : x.fLow + (i : Int) * x.fWidth + x.fWidth = x.fLow + ((i + 1 : Nat) : Int) * x.fWidth := by rw [show ((i + 1 : Nat) : Int) = (i : Int) + 1 from rfl, Int.add_mul]; omega
      have w4 : IntKind.i64.wrap (x.fLow + (i : Int) * x.fWidth + x.fWidth) = x.fLow + ((i + 1 : Nat) : Int) * x.fWidth := by rw [u4]; exact i64_id (by omega) (by omega)
      simp [hlt, w1, w2, q, w3]
      exact ⟨i + 1, Wk.ren 0 [] hX rfl (by decide) (by simp [hk1, w4]) (by simp) (by simp) (by simp), ⟨by omega, hinv2⟩, by omega⟩
    · have hI := quI_no (x := x) (k := k) (n := n) fun j hj => hinv2 j (by omega)
      rw [hI] at hV hF
      have hlt2 : ¬ i < x.fBins.length := by omega
      simp [hlt2, w1, w2, q, hV, hF]

theorem pre_end {x : THist} : pre x (x.fBins.length + 1) = pre x x.fBins.length := by
  unfold pre
  rw [List.take_of_length_le (by omega), List.take_length]

theorem c_RQuantile (x : THist) (k n : Int) (hl : x.fBins.length ≤ 4000000000) : FCall P 24 [.agg x.cells, .int .i64 k, .int .i64 n] (fun r => r = .tup [.int .i64 (quV x k n), .bool (quF x k n)]) := by
  refine fcall_of h.f24 rfl (by decide) h.mo (by kernel_rfl) fun X hX => ?_
  simp
  refine xcall_fn (c_RCount x hl) (by simp) ?_
  by_cases hg : quG x k n
  case neg =>
    have e1 : quV x k n = 0 := by simp [quV, hg]
    have e2 : quF x k n = false := by simp [quF, hg]
    unfold quG at hg
    simp [e1, e2]
    exact fun a1 a2 a3 a4 a5 => (hg ⟨a1, a2, a3, a4, a5⟩).elim
  obtain ⟨g1, g2, g3, g4, g5⟩ := hg
  have e1 : ¬ n < 1 := by omega
  have e2 : ¬ 1000 < n := by omega
  have e3 : ¬ k < 0 := by omega
  have e4 : ¬ n < k := by omega
  simp [g1, e1, e2, e3, e4]
  obtain ⟨h0, v0, v1⟩ := countV_ok g1
  obtain ⟨z0, z1, z2, z3⟩ := hck_all h0
  obtain ⟨y1, y2, y3, y4, y5⟩ := newE_zero.1 z0
  have y1 := inB_iff.1 y1
  have hg : quG x k n := ⟨g1, g2, g3, g4, g5⟩
  have hV : quV x k n = match quI x k n with | some i => x.fLow + i * x.fWidth | none => 0 := by simp [quV, hg]
  have hF : quF x k n = (quI x k n).isSome := by simp [quF, hg]
  have u1 := mul_bound g4 (show k ≤ 1000 by omega) v0 v1
  have w1 : IntKind.i64.wrap (k * countV x) = k * countV x := i64_id (by omega) (by omega)
  refine awp_loop (σ := Nat) (fun i => (⟨[.any, .int .i64 k, .int .i64 n, .pto 0 5 0 0, .any, .any, .any, .any, .int .i64 (countV x), .int .i64 (pre x i), .int .i64 i, .any, .any, .any, .any, .any, .any, .any, .any, .any, .any, .any, .any, .any, .any, .any, .any, .any, .any, .any, .any, .any, .any, .any, .any, .any, .any, .any, .any, .any, .any, .any, .any, .any, .any, .any, .any, .any, .any, .any, .any, .any, .any, .any, .any, .any, .any, .any, .any, .any, .any, .any, .any, .any, .any, .any, .any], [⟨24, 5, [.agg x.cells], 0, true⟩]⟩ : S)) (fun i => i ≤ x.fBins.length + 1 ∧ ∀ j, j < i → quB x k n j = false) (fun i => x.fBins.length + 1 - i) 0 (Wk.ren 0 [0] hX rfl (by decide) (by simp [pre]) (by simp) (by simp) (by simp)) ⟨by omega, by simp⟩ ?_
  rintro i ⟨hi, hinv⟩
  refine vc_sound h.mo _ _ _ (by kernel_rfl) ?_
  have p0 := pre_bound h0 i
  have u2 := mul_bound (show 0 ≤ n by omega) g3 p0.1 p0.2
  have w2 : IntKind.i64.wrap (n * pre x i) = n * pre x i := i64_id (by omega) (by omega)
  rcases Nat.lt_or_ge x.fBins.length i with hgt | hle
  · have hI := quI_no (x := x) (k := k) (n := n) fun j hj => hinv j (by omega)
    rw [hI] at hV hF
    have hlt2 : ¬ (i : Int) ≤ x.fBins.length := by omega
    simp [hlt2, hV, hF]
  have hle2 : (i : Int) ≤ x.fBins.length := by omega
  by_cases q : k * countV x ≤ n * pre x i
  · have hI := quI_at hle (by simpa [quB] using q) hinv
    rw [hI] at hV hF
    have u3 := mul_bound (m := (i : Int)) (w := x.fWidth) (a := 100) (b := 1000000) (by omega) (by omega) (by omega) y3
    have w3 : IntKind.i64.wrap ((i : Int) * x.fWidth) = (i : Int) * x.fWidth := i64_id (by omega) (by omega)
    have w4 : IntKind.i64.wrap (x.fLow + (i : Int) * x.fWidth) = x.fLow + (i : Int) * x.fWidth := i64_id (by omega) (by omega)
    simp [hle2, w1, w2, w3, w4, q, hV, hF]
  · have q2 : quB x k n i = false := by simpa [quB] using q
    have hinv2 : ∀ j, j < i + 1 → quB x k n j = false := fun j hj => by
      rcases Nat.lt_or_ge j i with h1 | h1
      · exact hinv j h1
      · rw [show j = i by omega]; exact q2
    have hk1 : IntKind.i64.wrap ((i : Int) + 1) = ((i + 1 : Nat) : Int) := by rw [i64_id (by omega) (by omega)]; omega
    rcases Nat.lt_or_ge i x.fBins.length with hlt | hge
    · have p1 := pre_bound h0 (i + 1)
      have p2 := pre_succ hlt
      have w3 : IntKind.i64.wrap (pre x i + x.fBins[i]) = pre x (i + 1) := by rw [← p2]; exact i64_id (by omega) (by omega)
      simp [hle2, hlt, w1, w2, q, w3]
      exact ⟨i + 1, Wk.ren 0 [0] hX rfl (by decide) (by simp [hk1]) (by simp) (by simp) (by simp), ⟨by omega, hinv2⟩, by omega⟩
    · have hil : i = x.fBins.length := by omega
      subst hil
      have p1 := pre_end (x := x)
      simp [w1, w2, q]
      exact ⟨_, Wk.ren 0 [0] hX rfl (by decide) (by simp [hk1, p1]) (by simp) (by simp) (by simp), ⟨Nat.le_refl _, hinv2⟩, by omega⟩
end Go.Proofs.Ythkngfomanhmnaa
