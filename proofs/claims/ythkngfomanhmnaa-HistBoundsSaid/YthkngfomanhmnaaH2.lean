/- Chapter 29: histograms: the reference's Check; Count, over any program that has the text. -/
import Derived.Test.YthkngfomanhmnaaH1
namespace Go.Proofs.Ythkngfomanhmnaa
open Go.AL
variable {P : Program} [h : Facts P]

theorem hck_parts {x : THist} : hck x = if newE x.fLow x.fWidth x.fBins.length = 0 ∧ cntB x.fBelow = true ∧ cntB x.fOver = true ∧ x.fBins.all cntB = true then 0 else 2 := by
  unfold hck cnts
  simp only [List.cons_append, List.all_cons, List.all_append, List.all_nil, Bool.and_true, Bool.and_eq_true]
  by_cases h0 : newE x.fLow x.fWidth x.fBins.length = 0 <;> by_cases h1 : cntB x.fBelow = true <;> by_cases h2 : cntB x.fOver = true <;> simp [h0, h1, h2]

theorem c_RCheck (x : THist) (hl : x.fBins.length ≤ 4000000000) : FCall P 16 [.agg x.cells] (fun r => r = .int .i64 (hck x)) := by
  refine fcall_of h.f16 rfl (by decide) h.mo (by kernel_rfl) fun X hX => ?_
  simp
  refine xcall_fn (c_RNew x.fLow x.fWidth x.fBins.length) (by simp) ?_
  rw [hck_parts]
  by_cases h0 : newE x.fLow x.fWidth x.fBins.length = 0
  case neg =>
    have h1 : newE x.fLow x.fWidth x.fBins.length = 2 := (newE_cases _ _ _).resolve_left h0
    simp [h1]
  simp [h0]
  refine xcall_fn (c_RCnt x.fBelow) (by simp) ?_
  by_cases b1 : cntB x.fBelow = true
  case neg => simp [b1]
  simp [b1]
  refine xcall_fn (c_RCnt x.fOver) (by simp) ?_
  by_cases b2 : cntB x.fOver = true
  case neg => simp [b2]
  simp [b2]
  have hl2 : x.fBins.length ≤ 9223372036854775807 := by omega
  refine awp_loop (σ := Nat) (fun k => (⟨[.any, .pto 0 5 0 0, .any, .any, .any, .int .i64 k, .any, .any, .any, .any, .any, .any, .any, .any, .any, .any, .any, .any, .any, .any, .any, .any, .any, .any, .any, .any, .any, .any, .any, .any, .any, .any, .any, .any, .any, .any, .any, .any, .any, .any, .any, .any, .any, .any, .any], [⟨24, 5, [.agg x.cells], 0, true⟩]⟩ : S)) (fun k => k ≤ x.fBins.length ∧ ∀ j (hj : j < x.fBins.length), j < k → cntB x.fBins[j] = true) (fun k => x.fBins.length - k) 0 (Wk.ren 0 [0] hX rfl (by decide) (by simp) (by simp) (by simp) (by simp)) ⟨by omega, by simp⟩ ?_
  rintro k ⟨hk, hinv⟩
  refine vc_sound h.mo _ _ _ (by kernel_rfl) ?_
  rcases Nat.lt_or_ge k x.fBins.length with hlt | hge
  · have hk1 := wrap_succ hlt hl2
    simp [hlt]
    refine xcall_fn (c_RCnt x.fBins[k]) (by simp) ?_
    by_cases b3 : cntB x.fBins[k] = true
    · simp [b3]
      exact ⟨k + 1, Wk.ren 0 [0] hX rfl (by decide) (by simp [hk1]) (by simp) (by simp) (by simp), ⟨by omega, step_all hinv hlt b3⟩, by omega⟩
    · have b4 : ¬ ∀ n ∈ x.fBins, cntB n = true := fun h4 => b3 (h4 _ (List.getElem_mem hlt))
      simp [b3, b4]
  · have hge2 : ¬ k < x.fBins.length := by omega
    have b4 : ∀ n ∈ x.fBins, cntB n = true := fun n hn => by
      obtain ⟨j, hj, rfl⟩ := List.mem_iff_getElem.1 hn
      exact hinv j hj (by omega)
    simp [hge2]
    exact b4

def clip (n : Int) : Int := max (-1000000000000) (min n 1000000000000)
theorem c_Clip (n : Int) : FCall P 39 [.int .i64 n] (fun r => r = .int .i64 (clip n)) := by
  refine fcall_of h.f39 rfl (by decide) h.mo (by kernel_rfl) fun X hX => ?_
  simp [clip]
theorem c_RClip (n : Int) : FCall P 40 [.int .i64 n] (fun r => r = .int .i64 (clip n)) := by
  refine fcall_of h.f40 rfl (by decide) h.mo (by kernel_rfl) fun X hX => ?_
  simp [clip]
  omega
theorem clip_le (n : Int) : -1000000000000 ≤ clip n ∧ clip n ≤ 1000000000000 := by unfold clip; omega
def addV (a b : Int) : Int := clip (clip a + clip b)
theorem c_NAdd (a b : Int) : FCall P 36 [.int .i64 a, .int .i64 b] (fun r => r = .int .i64 (addV a b)) := by
  refine fcall_of h.f36 rfl (by decide) h.mo (by kernel_rfl) fun X hX => ?_
  have h1 := clip_le a
  have h2 := clip_le b
  have h3 : IntKind.i64.wrap (clip a + clip b) = clip a + clip b := i64_id (by omega) (by omega)
  simp
  refine xcall_fn (c_Clip a) (by simp) ?_
  simp
  refine xcall_fn (c_Clip b) (by simp) ?_
  simp [h3]
  refine xcall_fn (c_Clip (clip a + clip b)) (by simp) ?_
  simp [addV]
theorem c_RNAdd (a b : Int) : FCall P 37 [.int .i64 a, .int .i64 b] (fun r => r = .int .i64 (addV a b)) := by
  refine fcall_of h.f37 rfl (by decide) h.mo (by kernel_rfl) fun X hX => ?_
  have h1 := clip_le a
  have h2 := clip_le b
  have h3 : IntKind.i64.wrap (clip a + clip b) = clip a + clip b := i64_id (by omega) (by omega)
  simp
  refine xcall_fn (c_RClip a) (by simp) ?_
  simp
  refine xcall_fn (c_RClip b) (by simp) ?_
  simp [h3]
  refine xcall_fn (c_RClip (clip a + clip b)) (by simp) ?_
  simp [addV]

/-- The sum of counts, clipped. -/
def cap (n : Int) : Int := min n 1000000000000
def countV (x : THist) : Int := if hck x = 0 then cap (cnts x).sum else 0
theorem addV_cap {s n : Int} (hs : 0 ≤ s) (hn : cntB n = true) : addV (cap s) n = cap (s + n) := by
  have := cntB_iff.1 hn
  unfold addV cap clip; omega
theorem sum_nonneg {l : List Int} (h : l.all cntB = true) : 0 ≤ l.sum ∧ l.sum ≤ 1000000000000 * l.length := by
  induction l with
  | nil => simp
  | cons a l ih =>
    simp only [List.all_cons, Bool.and_eq_true] at h
    have := ih h.2
    have := cntB_iff.1 h.1
    simp only [List.sum_cons, List.length_cons]
    omega
theorem sum_take_succ {l : List Int} {k : Nat} (hk : k < l.length) : (l.take (k + 1)).sum = (l.take k).sum + l[k] := by
  rw [List.take_succ_eq_append_getElem hk, List.sum_append]; simp
theorem all_take {l : List Int} (h : l.all cntB = true) (k : Nat) : (l.take k).all cntB = true := by
  rw [List.all_eq_true] at h ⊢
  exact fun x hx => h x (List.mem_of_mem_take hx)

theorem c_Count (x : THist) (hl : x.fBins.length ≤ 4000000000) : FCall P 19 [.agg x.cells] (fun r => r = .int .i64 (countV x)) := by
  refine fcall_of h.f19 rfl (by decide) h.mo (by kernel_rfl) fun X hX => ?_
  simp
  refine xcall_fn (c_Check x hl) (by simp) ?_
  unfold countV
  by_cases h0 : hck x = 0
  case neg => simp [h0]
  obtain ⟨h1, h2⟩ := hck_zero.1 h0
  obtain ⟨h3, h4⟩ := hck_ne h1
  simp [h0]
  refine xcall_mono (c_counts x hl h3 _) ?_
  rintro _ _ ⟨rfl, d1, d2, d3, d4, rfl⟩
  simp
  have hlen : (cnts x).length ≤ 102 := by simp [cnts]; omega
  generalize cnts x = l at h2 hlen
  refine awp_loop (σ := Nat) (fun k => (⟨[.any, .any, .any, .int .i64 (cap (l.take k).sum), .any, .any, .any, .any, .any, .any, B 0 l, .int .i64 l.length, .int .i64 k, .any, .any, .any, .any, .any, .any, .any, .any], [RF 3 l 0]⟩ : S)) (fun k => k ≤ l.length) (fun k => l.length - k) 0 (Wk.ren 0 [5] hX rfl (by decide) (by simp [cap]; decide) (by simp) (by simp) (by simp)) (by omega) ?_
  rintro k hk
  refine vc_sound h.mo _ _ _ (by kernel_rfl) ?_
  rcases Nat.lt_or_ge k l.length with hlt | hge
  · have hk1 := wrap_succ hlt (by omega)
    have g1 := (sum_nonneg (all_take h2 k)).1
    have g2 : cntB l[k] = true := List.all_eq_true.1 h2 _ (List.getElem_mem hlt)
    simp [hlt]
    refine xcall_fn (c_NAdd (cap (l.take k).sum) l[k]) (by simp) ?_
    simp
    exact ⟨k + 1, Wk.ren 0 [0] hX rfl (by decide) (by simp [hk1, addV_cap g1 g2, sum_take_succ hlt]) (by simp) (by simp) (by simp), by omega, by omega⟩
  · have hkl : k = l.length := by omega
    subst hkl
    simp
end Go.Proofs.Ythkngfomanhmnaa
