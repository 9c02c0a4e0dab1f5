/- Chapter 21: stores: the reference's Check, over any program that has the text. -/
import Derived.Test.YtmnpiibjjamjiaaW2
namespace Go.Proofs.Ytmnpiibjjamjiaa
open Go.AL
variable {P : Program} [h : Facts P]

theorem count_take {l : List Int} {k : Nat} (n : Int) (hk : k < l.length) : (l.take (k + 1)).count n = (l.take k).count n + if l[k] = n then 1 else 0 := by
  rw [List.take_succ_eq_append_getElem hk, List.count_append, List.count_singleton]
  by_cases e : l[k] = n <;> simp [e]
theorem c_times (l : List Int) (n : Int) (hl : l.length ≤ 9223372036854775807) : FCall P 36 [Ls false l, .int .i64 n] (fun r => r = .int .i64 (l.count n)) := by
  refine fcall_of h.f36 rfl (by decide) h.mo (by kernel_rfl) fun X hX => ?_
  simp
  refine awp_loop (σ := Nat) (fun k => (⟨[Ls false l, .int .i64 n, .any, .any, .any, .int .i64 ((l.take k).count n), .int .i64 k, .any, .any, .any, .any, .any, .any, .any, .any, .any, .any, .any, .any, .any, .any, .any], []⟩ : S)) (fun k => k ≤ l.length) (fun k => l.length - k) 0 (Wk.slots (by simp)) (by omega) ?_
  rintro k hk
  refine vc_sound h.mo _ _ _ (by kernel_rfl) ?_
  rcases Nat.lt_or_ge k l.length with hlt | hge
  · have hk1 := wrap_succ hlt hl
    have hc := count_take n hlt
    have hle : (l.take k).count n ≤ k := Nat.le_trans List.count_le_length (by simp; omega)
    have hw := wrap_succ (k := (l.take k).count n) (n := l.length) (by omega) hl
    by_cases e : l[k] = n
    · rw [if_pos e] at hc
      simp [hlt, e]
      exact ⟨k + 1, Wk.ren 0 [] hX rfl (by decide) (by simp [hk1, hw, hc]) (by simp) (by simp) (by simp), by omega, by omega⟩
    · rw [if_neg e] at hc
      simp [hlt, e]
      exact ⟨k + 1, Wk.ren 0 [] hX rfl (by decide) (by simp [hk1, hc]) (by simp) (by simp) (by simp), by omega, by omega⟩
  · have hkl : k = l.length := by omega
    subst hkl
    simp

def rngB (s : TStore) : Bool := rng1 s && (waitL s).all cntB
set_option maxHeartbeats 1000000 in
theorem c_within (s : TStore) (hs : fitS s) : FCall P 35 [.agg s.cells] (fun r => r = .bool (rngB s)) := by
  refine fcall_of h.f35 rfl (by decide) h.mo (by kernel_rfl) fun X hX => ?_
  have hs0 := hs
  obtain ⟨d1, d2, d3⟩ := hs
  simp
  refine xcall_fn (c_RWaiters s hs0) (by simp) ?_
  have hwl : (waitL s).length ≤ 8000000000 := by simp [waitL, prc]; omega
  have hR : rngB s = (rng1 s && (waitL s).all cntB) := rfl
  generalize waitL s = w at hwl hR
  simp
  refine awp_fz 0 (by rfl) (by simp) ?_
  simp
  refine awp_loop (σ := Nat) (fun k => (⟨[.any, .ptr (.agg s.cells), .any, Ls false w, .int .i64 k, .any, .any, .any, .any, .any, .any, .any, .any, .any, .any, .any, .any, .any, .any, .any, .any, .any, .any, .any, .any, .any, .any, .any, .any, .any, .any, .any, .any, .any, .any, .any, .any, .any, .any, .any, .any, .any, .any, .any, .any, .any, .any, .any, .any, .any, .any, .any, .any, .any, .any, .any, .any, .any], []⟩ : S)) (fun k => k ≤ w.length ∧ ∀ j (hj : j < w.length), j < k → cntB w[j] = true) (fun k => w.length - k) 0 (Wk.ren 0 [] hX rfl (by decide) (by simp) (by simp) (by simp) (by simp)) ⟨by omega, by simp⟩ ?_
  rintro k ⟨hk, hinv⟩
  refine vc_sound h.mo _ _ _ (by kernel_rfl) ?_
  rcases Nat.lt_or_ge k w.length with hlt | hge
  · have hk1 := wrap_succ hlt (by omega)
    have hsa := step_all hinv hlt
    have hno : cntB w[k] = false → w.all cntB = false := fun e => List.all_eq_false.2 ⟨_, List.getElem_mem hlt, by simp [e]⟩
    obtain ⟨x, hx⟩ : ∃ x, w[k] = x := ⟨_, rfl⟩
    rw [hx] at hsa hno
    simp [hlt, hx]
    refine xcall_fn (c_natural x) (by simp) ?_
    cases hcx : cntB x
    · rw [hno hcx, Bool.and_false] at hR
      simp [hR]
    · simp
      exact ⟨k + 1, Wk.ren 0 [] hX rfl (by decide) (by simp [hk1]) (by simp) (by simp) (by simp), ⟨by omega, hsa hcx⟩, by omega⟩
  have hge2 : ¬ k < w.length := by omega
  have hall := all_yes (p := cntB) fun j hj => hinv j hj (by omega)
  rw [hall, Bool.and_true] at hR
  clear hinv hge
  simp [hge2]
  unfold rng1 at hR
  obtain ⟨items, hit⟩ : ∃ l, s.fItems = l := ⟨_, rfl⟩
  rw [hit] at hR d1
  refine awp_loop (σ := Nat) (fun k => (⟨[.any, .ptr (.agg s.cells), .any, .any, .any, .int .i64 k, .any, .any, .any, .any, .any, .any, .any, .any, .any, .any, .any, .any, .any, .any, .any, .any, .any, .any, .any, .any, .any, .any, .any, .any, .any, .any, .any, .any, .any, .any, .any, .any, .any, .any, .any, .any, .any, .any, .any, .any, .any, .any, .any, .any, .any, .any, .any, .any, .any, .any, .any, .any], []⟩ : S)) (fun k => k ≤ items.length ∧ ∀ j (hj : j < items.length), j < k → inB items[j] = true) (fun k => items.length - k) 0 (Wk.ren 0 [] hX rfl (by decide) (by simp) (by simp) (by simp) (by simp)) ⟨by omega, by simp⟩ ?_
  rintro k ⟨hk, hinv⟩
  refine vc_sound h.mo _ _ _ (by kernel_rfl) ?_
  rcases Nat.lt_or_ge k items.length with hlt | hge
  · have hk1 := wrap_succ hlt (by omega)
    have hsa := step_all hinv hlt
    have hno : inB items[k] = false → items.all inB = false := fun e => List.all_eq_false.2 ⟨_, List.getElem_mem hlt, by simp [e]⟩
    obtain ⟨x, hx⟩ : ∃ x, items[k] = x := ⟨_, rfl⟩
    rw [hx] at hsa hno
    simp [hlt, hit, hx]
    refine xcall_fn (c_RIn x) (by simp) ?_
    cases hcx : inB x
    · rw [hno hcx] at hR
      simp at hR
      simp [hR]
    · simp
      exact ⟨k + 1, Wk.ren 0 [] hX rfl (by decide) (by simp [hk1]) (by simp) (by simp) (by simp), ⟨by omega, hsa hcx⟩, by omega⟩
  have hge2 : ¬ k < items.length := by omega
  have hall2 := all_yes (p := inB) fun j hj => hinv j hj (by omega)
  rw [hall2, Bool.true_and] at hR
  clear hinv hge
  simp [hit, hge2]
  obtain ⟨put, hpt⟩ : ∃ l, s.fPutters = l := ⟨_, rfl⟩
  rw [hpt] at hR d2
  refine awp_loop (σ := Nat) (fun k => (⟨[.any, .ptr (.agg s.cells), .any, .any, .any, .any, .int .i64 k, .any, .any, .any, .any, .any, .any, .any, .any, .any, .any, .any, .any, .any, .any, .any, .any, .any, .any, .any, .any, .any, .any, .any, .any, .any, .any, .any, .any, .any, .any, .any, .any, .any, .any, .any, .any, .any, .any, .any, .any, .any, .any, .any, .any, .any, .any, .any, .any, .any, .any, .any], []⟩ : S)) (fun k => k ≤ put.length ∧ ∀ j (hj : j < put.length), j < k → (fun r : TReady => inB r.fItem) put[j] = true) (fun k => put.length - k) 0 (Wk.ren 0 [] hX rfl (by decide) (by simp [hit]) (by simp) (by simp) (by simp)) ⟨by omega, by simp⟩ ?_
  rintro k ⟨hk, hinv⟩
  refine vc_sound h.mo _ _ _ (by kernel_rfl) ?_
  rcases Nat.lt_or_ge k put.length with hlt | hge
  · have hk1 := wrap_succ hlt (by omega)
    have hsa := step_all (p := fun r : TReady => inB r.fItem) hinv hlt
    have hno : inB put[k].fItem = false → put.all (fun r => inB r.fItem) = false := fun e => List.all_eq_false.2 ⟨_, List.getElem_mem hlt, by simp [e]⟩
    obtain ⟨x, hx⟩ : ∃ x, put[k] = x := ⟨_, rfl⟩
    rw [hx] at hsa hno
    simp [hlt, hpt, hx]
    refine xcall_fn (c_RIn x.fItem) (by simp) ?_
    cases hcx : inB x.fItem
    · rw [hno hcx] at hR
      simp at hR
      simp [hR]
    · simp
      exact ⟨k + 1, Wk.ren 0 [] hX rfl (by decide) (by simp [hk1]) (by simp) (by simp) (by simp), ⟨by omega, hsa hcx⟩, by omega⟩
  have hge2 : ¬ k < put.length := by omega
  have hall3 := all_yes (p := fun r : TReady => inB r.fItem) fun j hj => hinv j hj (by omega)
  rw [hall3, Bool.true_and] at hR
  simp [hpt, hge2]
  refine xcall_fn (c_natural s.fIn) (by simp) ?_
  cases g3 : cntB s.fIn
  · simp [g3] at hR
    simp [hR]
  simp
  refine xcall_fn (c_natural s.fOut) (by simp) ?_
  simp [g3] at hR
  simp [hR]

theorem nodup_count {l : List Int} : l.Nodup ↔ ∀ k (hk : k < l.length), l.count l[k] ≤ 1 := by
  rw [List.nodup_iff_count]
  constructor
  · exact fun h k hk => h _
  · intro h a
    by_cases ha : a ∈ l
    · obtain ⟨k, hk, e⟩ := List.getElem_of_mem ha
      rw [← e]
      exact h k hk
    · rw [List.count_eq_zero_of_not_mem ha]
      omega

set_option maxHeartbeats 2000000 in
set_option maxRecDepth 20000 in
theorem c_RCheck (s : TStore) (hs : fitS s) : FCall P 16 [.agg s.cells] (fun r => r = .int .i64 (chkS s)) := by
  refine fcall_of h.f16 rfl (by decide) h.mo (by kernel_rfl) fun X hX => ?_
  have hs0 := hs
  obtain ⟨d1, d2, d3⟩ := hs
  simp
  refine xcall_fn (c_RNew s.fRoom s.fPolicy) (by simp) ?_
  have hchk : chkS s = if newE s.fRoom s.fPolicy ≠ 0 then newE s.fRoom s.fPolicy else if s.fRoom < s.fItems.length ∨ 300 < (waitL s).length then 6 else if rng1 s = false ∨ (waitL s).all cntB = false then 2 else if ¬ (waitL s).Nodup then 4 else if formB s = true then 0 else 8 := rfl
  by_cases h0 : newE s.fRoom s.fPolicy = 0
  case neg =>
    rw [if_pos h0] at hchk
    simp [h0, hchk]
  rw [if_neg (by simp [h0])] at hchk
  simp [h0]
  refine xcall_fn (c_RWaiters s hs0) (by simp) ?_
  have hwl : (waitL s).length ≤ 8000000000 := by simp [waitL, prc]; omega
  by_cases h1 : s.fRoom < s.fItems.length
  · rw [if_pos (.inl h1)] at hchk
    simp [h1, hchk]
  by_cases h2 : 300 < (waitL s).length
  · rw [if_pos (.inr h2)] at hchk
    have h2' : (300 : Int) < (waitL s).length := by omega
    simp [h1, h2', hchk]
  rw [if_neg (by omega)] at hchk
  have h2' : ¬ (300 : Int) < (waitL s).length := by omega
  simp [h1, h2']
  refine xcall_fn (c_within s hs0) (by simp) ?_
  have hrb : rngB s = (rng1 s && (waitL s).all cntB) := rfl
  by_cases h3 : rngB s = true
  case neg =>
    rw [if_pos (by rw [hrb, Bool.and_eq_true] at h3; rcases Bool.eq_false_or_eq_true (rng1 s) with e | e <;> simp_all)] at hchk
    simp [h3, hchk]
  rw [hrb, Bool.and_eq_true] at h3
  obtain ⟨hr1, hall⟩ := h3
  rw [if_neg (by simp only [hr1, hall]; simp)] at hchk
  simp [hrb, hr1, hall, -List.all_eq_true]
  generalize hw : waitL s = w at hchk hwl
  refine awp_fz 0 (by rfl) (by simp) ?_
  simp
  refine awp_loop (σ := Nat) (fun k => (⟨[.any, .ptr (.agg s.cells), .any, .any, .any, Ls false w, .int .i64 k, .any, .any, .any, .any, .any, .any, .any, .any, .any, .any, .any, .any, .any, .any, .any, .any, .any, .any, .any, .any, .any, .any, .any, .any, .any, .any, .any, .any, .any, .any, .any, .any, .any, .any, .any, .any, .any, .any, .any, .any, .any, .any, .any, .any, .any, .any, .any, .any, .any, .any, .any, .any, .any, .any, .any, .any, .any, .any, .any, .any, .any, .any, .any, .any, .any, .any, .any, .any, .any, .any, .any, .any, .any, .any, .any], []⟩ : S)) (fun k => k ≤ w.length ∧ ∀ j (hj : j < w.length), j < k → w.count w[j] ≤ 1) (fun k => w.length - k) 0 (Wk.ren 0 [] hX rfl (by decide) (by simp) (by simp) (by simp) (by simp)) ⟨by omega, by simp⟩ ?_
  rintro k ⟨hk, hinv⟩
  refine vc_sound h.mo _ _ _ (by kernel_rfl) ?_
  rcases Nat.lt_or_ge k w.length with hlt | hge
  · have hk1 := wrap_succ hlt (by omega)
    have hdup : ¬ w.count w[k] ≤ 1 → ¬ w.Nodup := fun e n => e (nodup_count.1 n k hlt)
    have hst : w.count w[k] ≤ 1 → ∀ j (hj : j < w.length), j < k + 1 → w.count w[j] ≤ 1 := fun e j hj hjk => by
      rcases Nat.lt_or_ge j k with g | g
      · exact hinv j hj g
      · have : j = k := by omega
        subst this
        exact e
    obtain ⟨x, hx⟩ : ∃ x, w[k] = x := ⟨_, rfl⟩
    rw [hx] at hdup hst
    simp [hlt, hx]
    refine xcall_fn (c_times w x (by omega)) (by simp) ?_
    by_cases e : w.count x ≤ 1
    · have e' : ¬ (1 : Int) < (w.count x : Int) := by omega
      simp [e']
      exact ⟨k + 1, Wk.ren 0 [] hX rfl (by decide) (by simp [hk1]) (by simp) (by simp) (by simp), ⟨by omega, hst e⟩, by omega⟩
    · have e' : (1 : Int) < (w.count x : Int) := by omega
      rw [if_pos (hdup e)] at hchk
      simp [e', hchk]
  have hge2 : ¬ k < w.length := by omega
  have hnd : w.Nodup := nodup_count.2 fun j hj => hinv j hj (by omega)
  rw [if_neg (by simp [hnd])] at hchk
  have hr2 := hr1
  unfold rng1 at hr2
  simp only [Bool.and_eq_true] at hr2
  have g3 := hr2.1.2
  have g4 := hr2.2
  have a3 := cntB_iff.1 g3
  have a4 := cntB_iff.1 g4
  have wr : IntKind.i64.wrap (s.fIn - s.fOut) = s.fIn - s.fOut := i64_id (by omega) (by omega)
  have wrl : IntKind.i64.wrap (s.fItems.length : Int) = s.fItems.length := i64_id (by omega) (by omega)
  unfold formB at hchk
  by_cases e1 : s.fIn - s.fOut = s.fItems.length
  case neg =>
    rw [if_neg (by simp [e1])] at hchk
    simp (config := {maxSteps := 4000000}) [hge2, wr, e1, hchk]
  by_cases e2 : s.fPutters.length = 0
  · by_cases e3 : s.fGetters.length = 0
    · rw [if_pos (by simp [e1, e2, e3])] at hchk
      simp (config := {maxSteps := 4000000}) [hge2, wrl, e1, hchk, List.eq_nil_of_length_eq_zero e2, List.eq_nil_of_length_eq_zero e3]
    · have e3' : 0 < s.fGetters.length := by omega
      by_cases e4 : s.fItems.length = 0
      · rw [if_pos (by simp [e1, e2, e4])] at hchk
        simp (config := {maxSteps := 4000000}) [hge2, e1, hchk, List.eq_nil_of_length_eq_zero e2, e3', e4]
      · have e4' : 0 < s.fItems.length := by omega
        rw [if_neg (by simp [e1, e2, e3, e4])] at hchk
        simp (config := {maxSteps := 4000000}) [hge2, wrl, e1, hchk, List.eq_nil_of_length_eq_zero e2, e3', e4']
  · have e2' : 0 < s.fPutters.length := by omega
    by_cases e5 : s.fRoom ≤ s.fItems.length
    · have e5' : ¬ (s.fItems.length : Int) < s.fRoom := by omega
      by_cases e3 : s.fGetters.length = 0
      · rw [if_pos (by simp [e1, e5, e3])] at hchk
        simp (config := {maxSteps := 4000000}) [hge2, wrl, e1, hchk, e2', e5', List.eq_nil_of_length_eq_zero e3]
      · have e3' : 0 < s.fGetters.length := by omega
        by_cases e4 : s.fItems.length = 0
        · rw [if_pos (by simp only [e1, decide_true, e5, eq_true e4, Bool.or_true, Bool.and_self])] at hchk
          simp (config := {maxSteps := 4000000}) [hge2, e1, hchk, e2', e3', e4]
          omega
        · have e4' : 0 < s.fItems.length := by omega
          rw [if_neg (by simp [e1, e5, e3, e4])] at hchk
          simp (config := {maxSteps := 4000000}) [hge2, wrl, e1, hchk, e2', e5', e3', e4']
    · have e5' : (s.fItems.length : Int) < s.fRoom := by omega
      rw [if_neg (by simp [e1, e2, e5])] at hchk
      simp (config := {maxSteps := 4000000}) [hge2, wrl, e1, hchk, e2', e5']

end Go.Proofs.Ytmnpiibjjamjiaa
