/- Chapter 41: the reference's merging of two lists, over any program that has the text. -/
import Derived.Test.YtacfckmhnnhllaaE14
namespace Go.Proofs.Ytacfckmhnnhllaa
open Go.AL
variable {P : Program} [h : Facts P]

set_option maxHeartbeats 2000000 in
theorem c_Revents (a b : List TEvent) (hl : a.length + b.length ≤ 10000000) : FCall P 45 [Ls false a, Ls false b] (fun r => r = Ls false (mrg (ltOf ofE) a b)) := by
  refine fcall_ofB [6] h.f45 rfl (by decide) h.mo (by kernel_rfl) fun X hX => ?_
  generalize hres : mrg (ltOf ofE) a b = res
  simp [-Prod.exists]
  refine awp_loop (σ := Nat × Nat × List TEvent) (fun z => (⟨[Ls false a, Ls false b, .any, .any, .any, B 0 z.2.2, .int .i64 z.2.1, .int .i64 z.1, .any, .any, .any, .any, .any, .any, .any, .any, .any, .any, .any, .any, .any, .any, .any, .any, .any, .any, .any, .any, .any, .any, .any, .any, .any, .any, .any, .any, .any, .any, .any, .any, .any, .any, .any, .any, .any, .any, .any, .any, .any, .any, .any, .any, .any, .any, .any, .any, .any, .any, .any, .any, .any, .any], [RF 44 z.2.2 0]⟩ : S)) (fun z => z.1 ≤ a.length ∧ z.2.1 ≤ b.length ∧ z.2.2.length = z.1 + z.2.1 ∧ res = z.2.2 ++ mrg (ltOf ofE) (a.drop z.1) (b.drop z.2.1)) (fun z => a.length - z.1) (0, 0, []) (Wk.ren 0 [0] hX rfl (by decide) (by simp) (by simp) (by simp) (by simp)) ⟨by simp, by simp, by simp, by simp [hres]⟩ ?_
  rintro ⟨i, k, o⟩ ⟨hi, hk, ho, hinv⟩
  simp only at hi hk ho hinv
  refine vcB_sound [6] h.mo _ _ _ (by kernel_rfl) ?_
  rcases Nat.lt_or_ge i a.length with hlt | hge
  · have hi1 := wrap_succ hlt (by omega)
    simp [hlt, -Prod.exists]
    refine awp_loop (σ := Nat × List TEvent) (fun z => (⟨[Ls false a, Ls false b, .any, .any, .any, B 0 z.2, .int .i64 z.1, .int .i64 i, .any, .any, .any, .any, .any, .any, .any, .any, .any, .any, .any, .any, .any, .any, .any, .any, .any, .any, .any, .any, .any, .any, .any, .any, .any, .any, .any, .any, .any, .any, .any, .any, .any, .any, .any, .any, .any, .any, .any, .any, .any, .any, .any, .any, .any, .any, .any, .any, .any, .any, .any, .any, .any, .any], [RF 44 z.2 0]⟩ : S)) (fun z => z.1 ≤ b.length ∧ z.2.length = i + z.1 ∧ res = z.2 ++ mrg (ltOf ofE) (a.drop i) (b.drop z.1)) (fun z => b.length - z.1) (k, o) (Wk.ren 0 [0] hX rfl (by decide) (by simp) (by simp) (by simp) (by simp)) ⟨hk, ho, hinv⟩ ?_
    clear hk ho hinv
    rintro ⟨k, o⟩ ⟨hk, ho, hinv⟩
    simp only at hk ho hinv
    refine vcB_sound [6] h.mo _ _ _ (by kernel_rfl) ?_
    have stop : (∀ hkb : k < b.length, ltOf ofE b[k] a[i] = false) → res = (o ++ [a[i]]) ++ mrg (ltOf ofE) (a.drop (i + 1)) (b.drop k) := by
      intro q
      rw [hinv, List.drop_eq_getElem_cons hlt, List.append_assoc]
      congr 1
      rcases Nat.lt_or_ge k b.length with hkb | hkb
      · rw [List.drop_eq_getElem_cons hkb, mrg_cons, if_neg (by rw [q hkb]; decide)]
        rfl
      · rw [List.drop_of_length_le hkb, mrg_nil_right, mrg_nil_right]
        rfl
    refine awp_quiet [0, 1, 2, 3, 4, 5, 6, 7, 8, 9, 10, 11, 12, 13, 14, 15, 16, 17, 18, 19, 20, 21, 22, 23, 24, 25, 26] _ h.mo (by kernel_rfl) (by decide) (by kernel_rfl) (by rfl) ?_
    rcases Nat.lt_or_ge k b.length with hkb | hkb
    · have hk1 := wrap_succ hkb (by omega)
      simp [hkb, hlt, -Prod.exists]
      refine ⟨_, c_less (ofE b[k]) (ofE a[i]), ?_⟩
      cases hpl : plB (ofE b[k]) (ofE a[i])
      · have hst := stop fun _ => hpl
        obtain ⟨o', ho'⟩ : ∃ o', o' = o ++ [a[i]] := ⟨_, rfl⟩
        rw [← ho'] at hst
        simp [-Prod.exists]
        refine ⟨⟨by omega, by omega⟩, ?_⟩
        exact ⟨(i + 1, k, o'), Wk.ren 0 [2] hX rfl (by decide) (by simp [hi1, ho']) (by simp) (by simp) (by simp [ho']), ⟨by simp only; omega, hk, by simp only [ho', List.length_append, List.length_singleton]; omega, hst⟩, by simp only; omega⟩
      · have hst : res = (o ++ [b[k]]) ++ mrg (ltOf ofE) (a.drop i) (b.drop (k + 1)) := by
          rw [hinv, List.drop_eq_getElem_cons hlt, List.drop_eq_getElem_cons hkb, mrg_cons, if_pos (show ltOf ofE b[k] a[i] = true from hpl), List.append_assoc]
          rfl
        obtain ⟨o', ho'⟩ : ∃ o', o' = o ++ [b[k]] := ⟨_, rfl⟩
        rw [← ho'] at hst
        simp [-Prod.exists]
        refine ⟨⟨by omega, by omega⟩, ?_⟩
        exact ⟨(k + 1, o'), Wk.ren 0 [2] hX rfl (by decide) (by simp [hk1, ho']) (by simp) (by simp) (by simp [ho']), ⟨by simp only; omega, by simp only [ho', List.length_append, List.length_singleton]; omega, hst⟩, by simp only; omega⟩
    · have hst := stop fun q => absurd q (by omega)
      obtain ⟨o', ho'⟩ : ∃ o', o' = o ++ [a[i]] := ⟨_, rfl⟩
      rw [← ho'] at hst
      have hkn : ¬ k < b.length := by omega
      simp [hkn, hlt, -Prod.exists]
      refine ⟨⟨by omega, by omega⟩, ?_⟩
      exact ⟨(i + 1, k, o'), Wk.ren 0 [2] hX rfl (by decide) (by simp [hi1, ho']) (by simp) (by simp) (by simp [ho']), ⟨by simp only; omega, hk, by simp only [ho', List.length_append, List.length_singleton]; omega, hst⟩, by simp only; omega⟩
  · have hia : i = a.length := by omega
    subst hia
    rw [List.drop_length, mrg_nil_left] at hinv
    obtain ⟨bd, hbd⟩ : ∃ bd, bd = b.drop k := ⟨_, rfl⟩
    have hd : ((b.map Enc.enc).drop k).take (b.length - k) = bd.map Enc.enc := by rw [hbd, ← List.map_drop, List.take_of_length_le (by simp)]
    have hbl : bd.length = b.length - k := by rw [hbd, List.length_drop]
    rw [← hbd] at hinv
    subst hinv
    simp [hd]
    exact ⟨by omega, by omega, by omega⟩

set_option maxHeartbeats 2000000 in
theorem c_Rrecs (a b : List TRec) (hl : a.length + b.length ≤ 10000000) : FCall P 46 [Ls false a, Ls false b] (fun r => r = Ls false (mrg (ltOf atR) a b)) := by
  refine fcall_ofB [6] h.f46 rfl (by decide) h.mo (by kernel_rfl) fun X hX => ?_
  generalize hres : mrg (ltOf atR) a b = res
  simp [-Prod.exists]
  refine awp_loop (σ := Nat × Nat × List TRec) (fun z => (⟨[Ls false a, Ls false b, .any, .any, .any, B 0 z.2.2, .int .i64 z.2.1, .int .i64 z.1, .any, .any, .any, .any, .any, .any, .any, .any, .any, .any, .any, .any, .any, .any, .any, .any, .any, .any, .any, .any, .any, .any, .any, .any, .any, .any, .any, .any, .any, .any, .any, .any, .any, .any, .any, .any, .any, .any, .any, .any, .any, .any, .any, .any, .any, .any, .any, .any, .any, .any, .any, .any, .any, .any], [RF 47 z.2.2 0]⟩ : S)) (fun z => z.1 ≤ a.length ∧ z.2.1 ≤ b.length ∧ z.2.2.length = z.1 + z.2.1 ∧ res = z.2.2 ++ mrg (ltOf atR) (a.drop z.1) (b.drop z.2.1)) (fun z => a.length - z.1) (0, 0, []) (Wk.ren 0 [0] hX rfl (by decide) (by simp) (by simp) (by simp) (by simp)) ⟨by simp, by simp, by simp, by simp [hres]⟩ ?_
  rintro ⟨i, k, o⟩ ⟨hi, hk, ho, hinv⟩
  simp only at hi hk ho hinv
  refine vcB_sound [6] h.mo _ _ _ (by kernel_rfl) ?_
  rcases Nat.lt_or_ge i a.length with hlt | hge
  · have hi1 := wrap_succ hlt (by omega)
    simp [hlt, -Prod.exists]
    refine awp_loop (σ := Nat × List TRec) (fun z => (⟨[Ls false a, Ls false b, .any, .any, .any, B 0 z.2, .int .i64 z.1, .int .i64 i, .any, .any, .any, .any, .any, .any, .any, .any, .any, .any, .any, .any, .any, .any, .any, .any, .any, .any, .any, .any, .any, .any, .any, .any, .any, .any, .any, .any, .any, .any, .any, .any, .any, .any, .any, .any, .any, .any, .any, .any, .any, .any, .any, .any, .any, .any, .any, .any, .any, .any, .any, .any, .any, .any], [RF 47 z.2 0]⟩ : S)) (fun z => z.1 ≤ b.length ∧ z.2.length = i + z.1 ∧ res = z.2 ++ mrg (ltOf atR) (a.drop i) (b.drop z.1)) (fun z => b.length - z.1) (k, o) (Wk.ren 0 [0] hX rfl (by decide) (by simp) (by simp) (by simp) (by simp)) ⟨hk, ho, hinv⟩ ?_
    clear hk ho hinv
    rintro ⟨k, o⟩ ⟨hk, ho, hinv⟩
    simp only at hk ho hinv
    refine vcB_sound [6] h.mo _ _ _ (by kernel_rfl) ?_
    have stop : (∀ hkb : k < b.length, ltOf atR b[k] a[i] = false) → res = (o ++ [a[i]]) ++ mrg (ltOf atR) (a.drop (i + 1)) (b.drop k) := by
      intro q
      rw [hinv, List.drop_eq_getElem_cons hlt, List.append_assoc]
      congr 1
      rcases Nat.lt_or_ge k b.length with hkb | hkb
      · rw [List.drop_eq_getElem_cons hkb, mrg_cons, if_neg (by rw [q hkb]; decide)]
        rfl
      · rw [List.drop_of_length_le hkb, mrg_nil_right, mrg_nil_right]
        rfl
    refine awp_quiet [0, 1, 2, 3, 4, 5, 6, 7, 8, 9, 10, 11, 12, 13, 14, 15, 16, 17, 18, 19, 20, 21, 22, 23, 24, 25, 26] _ h.mo (by kernel_rfl) (by decide) (by kernel_rfl) (by rfl) ?_
    rcases Nat.lt_or_ge k b.length with hkb | hkb
    · have hk1 := wrap_succ hkb (by omega)
      simp [hkb, hlt, -Prod.exists]
      refine ⟨_, c_less (atR b[k]) (atR a[i]), ?_⟩
      cases hpl : plB (atR b[k]) (atR a[i])
      · have hst := stop fun _ => hpl
        obtain ⟨o', ho'⟩ : ∃ o', o' = o ++ [a[i]] := ⟨_, rfl⟩
        rw [← ho'] at hst
        simp [-Prod.exists]
        refine ⟨⟨by omega, by omega⟩, ?_⟩
        exact ⟨(i + 1, k, o'), Wk.ren 0 [2] hX rfl (by decide) (by simp [hi1, ho']) (by simp) (by simp) (by simp [ho']), ⟨by simp only; omega, hk, by simp only [ho', List.length_append, List.length_singleton]; omega, hst⟩, by simp only; omega⟩
      · have hst : res = (o ++ [b[k]]) ++ mrg (ltOf atR) (a.drop i) (b.drop (k + 1)) := by
          rw [hinv, List.drop_eq_getElem_cons hlt, List.drop_eq_getElem_cons hkb, mrg_cons, if_pos (show ltOf atR b[k] a[i] = true from hpl), List.append_assoc]
          rfl
        obtain ⟨o', ho'⟩ : ∃ o', o' = o ++ [b[k]] := ⟨_, rfl⟩
        rw [← ho'] at hst
        simp [-Prod.exists]
        refine ⟨⟨by omega, by omega⟩, ?_⟩
        exact ⟨(k + 1, o'), Wk.ren 0 [2] hX rfl (by decide) (by simp [hk1, ho']) (by simp) (by simp) (by simp [ho']), ⟨by simp only; omega, by simp only [ho', List.length_append, List.length_singleton]; omega, hst⟩, by simp only; omega⟩
    · have hst := stop fun q => absurd q (by omega)
      obtain ⟨o', ho'⟩ : ∃ o', o' = o ++ [a[i]] := ⟨_, rfl⟩
      rw [← ho'] at hst
      have hkn : ¬ k < b.length := by omega
      simp [hkn, hlt, -Prod.exists]
      refine ⟨⟨by omega, by omega⟩, ?_⟩
      exact ⟨(i + 1, k, o'), Wk.ren 0 [2] hX rfl (by decide) (by simp [hi1, ho']) (by simp) (by simp) (by simp [ho']), ⟨by simp only; omega, hk, by simp only [ho', List.length_append, List.length_singleton]; omega, hst⟩, by simp only; omega⟩
  · have hia : i = a.length := by omega
    subst hia
    rw [List.drop_length, mrg_nil_left] at hinv
    obtain ⟨bd, hbd⟩ : ∃ bd, bd = b.drop k := ⟨_, rfl⟩
    have hd : ((b.map Enc.enc).drop k).take (b.length - k) = bd.map Enc.enc := by rw [hbd, ← List.map_drop, List.take_of_length_le (by simp)]
    have hbl : bd.length = b.length - k := by rw [hbd, List.length_drop]
    rw [← hbd] at hinv
    subst hinv
    simp [hd]
    exact ⟨by omega, by omega, by omega⟩

end Go.Proofs.Ytacfckmhnnhllaa
