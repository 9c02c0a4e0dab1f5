/- Chapter 07: names: the reference's Check; Distinct, over any program that has the text. -/
import Derived.Test.YtgpgajhaecfbgaaA2
namespace Go.Proofs.Ytgpgajhaecfbgaa
open Go.AL
variable {P : Program} [h : Facts P]

theorem c_RCheck (s : List UInt8) (hl : s.length ≤ 9223372036854775807) : FCall P 12 [.str s] (fun r => r = .int .i64 (nameE s)) := by
  refine fcall_of h.f12 rfl (by decide) h.mo (by kernel_rfl) fun X hX => ?_
  cases s with
  | nil => simp [nameE, nameB, headB]
  | cons c0 s0 =>
    by_cases h1 : (c0 :: s0).length ≤ 24
    case neg =>
      have hb : nameE (c0 :: s0) = 3 := nameE_bad (by simp only [nameB, headB, h1, decide_false, Bool.false_and])
      have h2 : ¬ (s0.length : Int) + 1 ≤ 24 := by simp at h1; omega
      have h3 : (24 : Int) < (s0.length : Int) + 1 := by omega
      simp [h2, h3, hb]
    have h2 : (s0.length : Int) + 1 ≤ 24 := by simp at h1; omega
    have h3 : ¬ (24 : Int) < (s0.length : Int) + 1 := by omega
    have h6 : ¬ (s0.length : Int) + 1 < 1 := by omega
    simp [h2, h3, h6]
    refine xcall_fn (c_Rletter (c0.toNat : Int)) (by simp) ?_
    by_cases h4 : ltrB c0.toNat = true
    case neg =>
      have hb : nameE (c0 :: s0) = 3 := nameE_bad (by simp [nameB, headB, h4])
      simp [h4, hb]
    simp [h4]
    refine xcall_fn (c_RKeyword (c0 :: s0)) (by simp) ?_
    by_cases h5 : kwB (c0 :: s0) = true
    case pos =>
      have hb : nameE (c0 :: s0) = 3 := nameE_bad (by simp [nameB, headB, h5])
      simp [h5, hb]
    have hhd : headB (c0 :: s0) = true := by simp only [headB, h1, decide_true, h4, h5, Bool.not_false, Bool.and_self, Bool.eq_false_iff.2 h5]
    simp [h5]
    have hlen : (s0.length : Int) + 1 = (c0 :: s0).length := by simp
    generalize hs : c0 :: s0 = s at hl hhd hlen
    clear hs h1 h2 h3 h4 h5
    refine awp_loop (σ := Nat) (fun k => (⟨[.str s, .any, .any, .int .i64 k, .any, .any, .any, .any, .any, .any, .any, .any, .any, .any, .any, .any, .any, .any, .any, .any, .any, .any, .any, .any, .any, .any, .any, .any, .any, .any, .any, .any, .any, .any, .any, .any, .any, .any, .any, .any, .any, .any, .any, .any, .any, .any, .any, .any, .any, .any, .any], []⟩ : S)) (fun k => k ≤ s.length ∧ ∀ j (hj : j < s.length), j < k → okC s[j] = true) (fun k => s.length - k) 0 (Wk.slots (by simp [hlen])) ⟨by omega, by simp⟩ ?_
    rintro k ⟨hk, hinv⟩
    refine vc_sound h.mo _ _ _ (by kernel_rfl) ?_
    rcases Nat.lt_or_ge k s.length with hlt | hge
    · have hk1 := wrap_succ hlt hl
      have hno := nameB_no hlt
      have hyes := step_all hinv hlt
      obtain ⟨c, hc⟩ : ∃ c, s[k] = c := ⟨_, rfl⟩
      rw [hc] at hno hyes
      have hcs := okC_cases c
      simp [hlt, hc]
      refine xcall_fn (c_Rletter (c.toNat : Int)) (by simp) ?_
      have hbad : ltrB c.toNat = false → ((c.toNat : Int) < 48 ∨ 57 < (c.toNat : Int)) → ¬ (c.toNat : Int) = 95 → nameE s = 3 := fun a1 a2 a3 => nameE_bad (hno (Bool.eq_false_iff.2 fun q => by
        rcases hcs.1 q with q | q | q
        · rw [a1] at q; cases q
        · omega
        · omega))
      obtain ⟨n, hn⟩ : ∃ n : Int, (c.toNat : Int) = n := ⟨_, rfl⟩
      rw [hn] at hcs hbad
      by_cases g1 : ltrB n = true
      · simp [hlt, hc, hn, g1]
        exact ⟨k + 1, Wk.ren 0 [] hX rfl (by decide) (by simp [hk1]) (by simp) (by simp) (by simp), ⟨by omega, hyes (hcs.2 (.inl g1))⟩, by omega⟩
      · by_cases g2 : n < 48
        · have g2' : ¬ 48 ≤ n := by omega
          have g3 : ¬ n = 95 := by omega
          have hb := hbad (Bool.eq_false_iff.2 g1) (.inl g2) g3
          simp [hlt, hc, hn, g1, g2, g2', g3, hb]
        · have g2' : 48 ≤ n := by omega
          by_cases g4 : 57 < n
          · have g4' : ¬ n ≤ 57 := by omega
            by_cases g3 : n = 95
            · simp [hlt, hc, hn, g1, g2, g2', g4, g4', eq_true g3]
              exact ⟨k + 1, Wk.ren 0 [] hX rfl (by decide) (by simp [hk1]) (by simp) (by simp) (by simp), ⟨by omega, hyes (hcs.2 (.inr (.inr g3)))⟩, by omega⟩
            · have hb := hbad (Bool.eq_false_iff.2 g1) (.inr g4) g3
              simp [hlt, hc, hn, g1, g2, g2', g4, g4', g3, hb]
          · have g4' : n ≤ 57 := by omega
            have g3 : ¬ n = 95 := by omega
            simp [hlt, hc, hn, g1, g2, g2', g3, g4, g4']
            exact ⟨k + 1, Wk.ren 0 [] hX rfl (by decide) (by simp [hk1]) (by simp) (by simp) (by simp), ⟨by omega, hyes (hcs.2 (.inr (.inl ⟨g2', g4'⟩)))⟩, by omega⟩
    · have hge2 : ¬ k < s.length := by omega
      have hall := all_yes (p := okC) fun j hj => hinv j hj (by omega)
      have hb : nameE s = 0 := by simp only [nameE, nameB, hhd, hall, Bool.and_self, if_true]
      simp [hge2, hb]

/-- The first error of a list of names, those of 'done' ahead of them. -/
def dstE : List (List UInt8) → List (List UInt8) → Int
  | _, [] => 0
  | d, s :: l => if nameB s = true then (if s ∈ d then 4 else dstE (d ++ [s]) l) else 3
theorem dstE_cons (d : List (List UInt8)) (s : List UInt8) (l : List (List UInt8)) : dstE d (s :: l) = if nameB s = true then (if s ∈ d then 4 else dstE (d ++ [s]) l) else 3 := rfl
theorem fnd_nonneg (l : List (List UInt8)) (s : List UInt8) : (0 ≤ fnd l s) = (s ∈ l) := by
  unfold fnd
  rw [idxZ_nonneg]
  simp
theorem nameE_zero (s : List UInt8) : (nameE s = 0) = (nameB s = true) := by
  unfold nameE
  by_cases h : nameB s = true <;> simp [h]

theorem c_Distinct (l : List (List UInt8)) (hl : l.length ≤ 9223372036854775807) (hs : ∀ s ∈ l, s.length ≤ 9223372036854775807) : FCall P 15 [Ls false l] (fun r => r = .int .i64 (dstE [] l)) := by
  refine fcall_of h.f15 rfl (by decide) h.mo (by kernel_rfl) fun X hX => ?_
  simp
  refine awp_loop (σ := Nat) (fun k => (⟨[Ls false l, .any, .any, .any, .any, .any, Ls false l, .int .i64 l.length, .int .i64 k, .any, .any, .any, .any, .any, .any, .any, .any, .any, .any, .any, .any, .any, .any, .any, .any], []⟩ : S)) (fun k => k ≤ l.length ∧ dstE [] l = dstE (l.take k) (l.drop k)) (fun k => l.length - k) 0 (Wk.slots (by simp)) ⟨by omega, by simp⟩ ?_
  rintro k ⟨hk, hinv⟩
  refine vc_sound h.mo _ _ _ (by kernel_rfl) ?_
  rcases Nat.lt_or_ge k l.length with hlt | hge
  · have hk1 := wrap_succ hlt hl
    rw [List.drop_eq_getElem_cons hlt, dstE_cons, ← List.take_succ_eq_append_getElem hlt] at hinv
    have hsl := hs _ (List.getElem_mem hlt)
    obtain ⟨s, hse⟩ : ∃ s, l[k] = s := ⟨_, rfl⟩
    rw [hse] at hinv hsl
    simp [hlt, hse]
    refine xcall_fn (c_Check s hsl) (by simp) ?_
    by_cases h1 : nameB s = true
    case neg =>
      rw [if_neg h1] at hinv
      have : nameE s = 3 := by simp [nameE, h1]
      simp [this, hinv]
    rw [if_pos h1] at hinv
    have : nameE s = 0 := by simp [nameE, h1]
    simp [this, hk]
    refine xcall_fn (c_Find (l.take k) s (by simp; omega)) (by simp) ?_
    have hf := fnd_nonneg (l.take k) s
    by_cases h2 : s ∈ l.take k
    · rw [if_pos h2] at hinv
      simp [hf, h2, hinv]
    · rw [if_neg h2] at hinv
      simp [hf, h2]
      exact ⟨k + 1, Wk.ren 0 [] hX rfl (by decide) (by simp [hk1]) (by simp) (by simp) (by simp), ⟨by omega, hinv⟩, by omega⟩
  · have hge2 : ¬ k < l.length := by omega
    rw [List.drop_of_length_le hge] at hinv
    simp [hge2, hinv, dstE]

theorem fnd_lt {l : List (List UInt8)} {k : Nat} (hk : k < l.length) : (fnd l l[k] < k) = (l[k] ∈ l.take k) := by
  apply propext
  have hle : l.findIdx (fun x => decide (x = l[k])) ≤ k := Nat.not_lt.1 fun g => by
    have := List.not_of_lt_findIdx g
    simp at this
  have hf : fnd l l[k] = (l.findIdx (fun x => decide (x = l[k])) : Int) := by
    unfold fnd idxZ
    rw [if_pos (by omega)]
  rw [hf]
  constructor
  · intro g
    have hi : l.findIdx (fun x => decide (x = l[k])) < l.length := by omega
    have := List.findIdx_getElem (p := fun x => decide (x = l[k])) (w := hi)
    simp only [decide_eq_true_eq] at this
    rw [← this]
    exact List.mem_take_iff_getElem.2 ⟨_, by omega, rfl⟩
  · intro g
    obtain ⟨j, hj, e⟩ := List.mem_take_iff_getElem.1 g
    have : l.findIdx (fun x => decide (x = l[k])) ≤ j := Nat.not_lt.1 fun g => by
      have := List.not_of_lt_findIdx g
      simp [e] at this
    omega
theorem c_RDistinct (l : List (List UInt8)) (hl : l.length ≤ 9223372036854775807) (hs : ∀ s ∈ l, s.length ≤ 9223372036854775807) : FCall P 16 [Ls false l] (fun r => r = .int .i64 (dstE [] l)) := by
  refine fcall_of h.f16 rfl (by decide) h.mo (by kernel_rfl) fun X hX => ?_
  simp
  refine awp_loop (σ := Nat) (fun k => (⟨[Ls false l, .any, .any, .int .i64 k, .any, .any, .any, .any, .any, .any, .any, .any, .any, .any, .any, .any, .any, .any, .any, .any, .any, .any, .any, .any], []⟩ : S)) (fun k => k ≤ l.length ∧ dstE [] l = dstE (l.take k) (l.drop k)) (fun k => l.length - k) 0 (Wk.slots (by simp)) ⟨by omega, by simp⟩ ?_
  rintro k ⟨hk, hinv⟩
  refine vc_sound h.mo _ _ _ (by kernel_rfl) ?_
  rcases Nat.lt_or_ge k l.length with hlt | hge
  · have hk1 := wrap_succ hlt hl
    rw [List.drop_eq_getElem_cons hlt, dstE_cons, ← List.take_succ_eq_append_getElem hlt] at hinv
    have hsl := hs _ (List.getElem_mem hlt)
    have hf := fnd_lt hlt
    obtain ⟨s, hse⟩ : ∃ s, l[k] = s := ⟨_, rfl⟩
    rw [hse] at hinv hsl hf
    simp [hlt, hse]
    refine xcall_fn (c_RCheck s hsl) (by simp) ?_
    by_cases h1 : nameB s = true
    case neg =>
      rw [if_neg h1] at hinv
      have : nameE s = 3 := by simp [nameE, h1]
      simp [this, hinv]
    rw [if_pos h1] at hinv
    have : nameE s = 0 := by simp [nameE, h1]
    simp [this, hlt, hse]
    refine xcall_fn (c_RFind l s hl) (by simp) ?_
    by_cases h2 : s ∈ l.take k
    · rw [if_pos h2] at hinv
      simp [hf, h2, hinv]
    · rw [if_neg h2] at hinv
      simp [hf, h2]
      exact ⟨k + 1, Wk.ren 0 [] hX rfl (by decide) (by simp [hk1]) (by simp) (by simp) (by simp), ⟨by omega, hinv⟩, by omega⟩
  · have hge2 : ¬ k < l.length := by omega
    rw [List.drop_of_length_le hge] at hinv
    simp [hge2, hinv, dstE]
end Go.Proofs.Ytgpgajhaecfbgaa
