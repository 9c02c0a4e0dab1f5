/- Chapter 41: the reference's check of a log, over any program that has the text. -/
import Derived.Test.YtacfckmhnnhllaaE8
namespace Go.Proofs.Ytacfckmhnnhllaa
open Go.AL
variable {P : Program} [h : Facts P]

set_option maxHeartbeats 4000000 in
theorem c_RCheck (l : TLog) (hok : l.ok) : FCall P 14 [.agg l.cells] (fun r => r = .int .i64 (chkZ l)) := by
  refine fcall_ofB [10, 16] h.f14 rfl (by decide) h.mo (by kernel_rfl) fun X hX => ?_
  obtain ⟨⟨hel, heo⟩, hrl, hro⟩ := hok
  obtain ⟨es, rs⟩ := l
  simp only at hel heo hrl hro
  unfold chkZ longB
  by_cases h1 : 5000 < es.length
  · have h1i : (5000 : Int) < (es.length : Int) := by omega
    simp [h1, h1i]
  have h1i : ¬ (5000 : Int) < (es.length : Int) := by omega
  by_cases h2 : 50000 < rs.length
  · have h2i : (50000 : Int) < (rs.length : Int) := by omega
    simp [h1, h1i, h2, h2i]
  have h2i : ¬ (50000 : Int) < (rs.length : Int) := by omega
  simp [h1, h1i, h2, h2i]
  refine awp_loop (σ := Nat) (fun k => (⟨[.any, .pto 0 2 0 0, .any, .int .i64 k, .any, .any, .any, .any, .any, .any, .any, .any, .any, .any, .any, .any, .any, .any, .any, .any, .any, .any, .any, .any, .any, .any, .any, .any, .any, .any, .any, .any, .any, .any, .any, .any, .any, .any, .any, .any, .any, .any, .any, .any, .any, .any, .any, .any, .any, .any, .any, .any, .any, .any, .any, .any, .any, .any, .any, .any, .any, .any, .any, .any, .any, .any, .any, .any, .any, .any, .any, .any, .any, .any, .any, .any, .any, .any, .any, .any, .any, .any, .any, .any, .any, .any, .any, .any, .any, .any, .any, .any, .any, .any, .any, .any, .any, .any, .any, .any, .any], [⟨25, 2, [.agg (⟨es, rs⟩ : TLog).cells], 0, true⟩]⟩ : S)) (fun k => k ≤ es.length ∧ ceL none es = ceL (prv ofE es k) (es.drop k)) (fun k => es.length - k) 0 (Wk.ren 0 [0] hX rfl (by decide) (by simp) (by simp) (by simp) (by simp)) ⟨by simp, by simp [prv_zero]⟩ ?_
  rintro k ⟨hk, hinv⟩
  refine vcB_sound [10, 16] h.mo _ _ _ (by kernel_rfl) ?_
  rcases Nat.lt_or_ge k es.length with hlt | hge
  · have hk1 := wrap_succ hlt hel
    have hmem := List.getElem_mem hlt
    have hal : es[k].fArgs.length ≤ 9223372036854775807 := by
      obtain ⟨_, _, _, _, _, _, _, _, q⟩ := heo _ hmem
      exact q.1
    rw [List.drop_eq_getElem_cons hlt, ceL] at hinv
    have hps := prv_succ ofE hlt
    simp [hlt]
    refine xcall_fn (c_REvent es[k] hal) (by simp) ?_
    by_cases h0 : evtZ es[k] = 0
    case neg =>
      simp [h0] at hinv
      simp [h0, hinv]
    rw [if_neg (fun q => q h0)] at hinv
    simp [h0]
    refine awp_quiet [0, 1, 2, 3, 4, 5, 6, 7, 8, 9, 10, 11, 12, 13, 14, 15, 16, 17, 18, 19, 20, 21, 22] _ h.mo (by kernel_rfl) (by decide) (by kernel_rfl) (by rfl) ?_
    by_cases k0 : k = 0
    · subst k0
      simp [prv_zero, anyB] at hinv
      simp
      exact ⟨1, Wk.ren 0 [0] hX rfl (by decide) (by simp) (by simp) (by simp) (by simp), ⟨by omega, by rw [hinv, hps]; simp⟩, by omega⟩
    · obtain ⟨j, rfl⟩ : ∃ j, k = j + 1 := ⟨k - 1, by omega⟩
      have hjl : j < es.length := by omega
      have hk1' : IntKind.i64.wrap ((j : Int) + 1 + 1) = (j : Int) + 2 := by simp at hk1; rw [hk1]; omega
      have hwj := wrap_nat hjl (by omega)
      have h0j : (0 : Int) < (j : Int) + 1 := by omega
      rw [prv_succ ofE hjl] at hinv
      simp [h0j, hwj, hjl]
      refine ⟨_, c_less (ofE es[j + 1]) (ofE es[j]), ?_⟩
      cases hpl : plB (ofE es[j + 1]) (ofE es[j])
      case true =>
        simp [anyB, hpl] at hinv
        simp [hinv]
      simp [anyB, hpl] at hinv
      simp
      exact ⟨j + 2, Wk.ren 0 [0] hX rfl (by decide) (by simp [hk1']) (by simp) (by simp) (by simp), ⟨by omega, by rw [hinv, hps]⟩, by omega⟩
  have hkl : k = es.length := by omega
  subst hkl
  rw [List.drop_length, ceL] at hinv
  simp [hinv]
  refine awp_loop (σ := Nat) (fun i => (⟨[.any, .pto 0 2 0 0, .any, .any, .any, .any, .int .i64 i, .any, .any, .any, .any, .any, .any, .any, .any, .any, .any, .any, .any, .any, .any, .any, .any, .any, .any, .any, .any, .any, .any, .any, .any, .any, .any, .any, .any, .any, .any, .any, .any, .any, .any, .any, .any, .any, .any, .any, .any, .any, .any, .any, .any, .any, .any, .any, .any, .any, .any, .any, .any, .any, .any, .any, .any, .any, .any, .any, .any, .any, .any, .any, .any, .any, .any, .any, .any, .any, .any, .any, .any, .any, .any, .any, .any, .any, .any, .any, .any, .any, .any, .any, .any, .any, .any, .any, .any, .any, .any, .any, .any, .any, .any], [⟨25, 2, [.agg (⟨es, rs⟩ : TLog).cells], 0, true⟩]⟩ : S)) (fun i => i ≤ rs.length ∧ crL (es.map ofE) none rs = crL (es.map ofE) (prv atR rs i) (rs.drop i)) (fun i => rs.length - i) 0 (Wk.ren 0 [0] hX rfl (by decide) (by simp) (by simp) (by simp) (by simp)) ⟨by simp, by simp [prv_zero]⟩ ?_
  rintro i ⟨hi, hinv⟩
  refine vcB_sound [10, 16] h.mo _ _ _ (by kernel_rfl) ?_
  rcases Nat.lt_or_ge i rs.length with hlt | hge
  · have hk1 := wrap_succ hlt hrl
    rw [List.drop_eq_getElem_cons hlt, crL] at hinv
    have hps := prv_succ atR hlt
    simp [hlt]
    refine awp_quiet [0, 1, 2, 3, 4, 5, 6, 7, 8, 9, 10, 11, 12, 13, 14, 15, 16, 17, 18, 19, 20, 21, 22] _ h.mo (by kernel_rfl) (by decide) (by kernel_rfl) (by rfl) ?_
    by_cases k0 : i = 0
    · subst k0
      simp [prv_zero, anyB] at hinv
      simp
      refine xcall_fn (c_happened es (atR rs[0]) hel) (by simp [atR]) ?_
      cases hh : hapB (es.map ofE) (atR rs[0])
      · simp [hh] at hinv
        simp [hinv]
      · simp [hh] at hinv
        simp
        exact ⟨1, Wk.ren 0 [0] hX rfl (by decide) (by simp) (by simp) (by simp) (by simp), ⟨by omega, by rw [hinv, hps]; simp⟩, by omega⟩
    · obtain ⟨j, rfl⟩ : ∃ j, i = j + 1 := ⟨i - 1, by omega⟩
      have hjl : j < rs.length := by omega
      have hk1' : IntKind.i64.wrap ((j : Int) + 1 + 1) = (j : Int) + 2 := by simp at hk1; rw [hk1]; omega
      have hwj := wrap_nat hjl (by omega)
      have h0j : (0 : Int) < (j : Int) + 1 := by omega
      rw [prv_succ atR hjl] at hinv
      simp [h0j, hwj, hjl]
      refine ⟨_, c_less (atR rs[j + 1]) (atR rs[j]), ?_⟩
      cases hpl : plB (atR rs[j + 1]) (atR rs[j])
      case true =>
        simp [anyB, hpl] at hinv
        simp [hinv]
      simp [anyB, hpl] at hinv
      simp
      refine xcall_fn (c_happened es (atR rs[j + 1]) hel) (by simp [atR]) ?_
      cases hh : hapB (es.map ofE) (atR rs[j + 1])
      · simp [hh] at hinv
        simp [hinv]
      · simp [hh] at hinv
        simp
        exact ⟨j + 2, Wk.ren 0 [0] hX rfl (by decide) (by simp [hk1']) (by simp) (by simp) (by simp), ⟨by omega, by rw [hinv, hps]⟩, by omega⟩
  · have hil : i = rs.length := by omega
    subst hil
    rw [List.drop_length, crL] at hinv
    simp [hinv]
end Go.Proofs.Ytacfckmhnnhllaa
