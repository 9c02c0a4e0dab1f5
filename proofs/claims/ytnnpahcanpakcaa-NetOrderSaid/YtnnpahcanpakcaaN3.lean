/- Chapter 35: networks: the reference's New and Check, over any program that has the text. -/
import Derived.Test.YtnnpahcanpakcaaN2
namespace Go.Proofs.Ytnnpahcanpakcaa
open Go.AL
variable {P : Program} [h : Facts P]

theorem c_site (n : Int) : FCall P 31 [.int .i64 n] (fun r => r = .bool (wiB n 15)) := by
  refine fcall_of h.f31 rfl (by decide) h.mo (by kernel_rfl) fun X hX => ?_
  by_cases h1 : 0 ≤ n <;> by_cases h2 : n ≤ 15
  · have h3 : n < 16 := by omega
    simp [wiB, h1, h2, h3]
  · have h3 : ¬ n < 16 := by omega
    simp [wiB, h1, h2, h3]
  · simp [wiB, h1]
  · simp [wiB, h1]

theorem c_RNew (l : List Int) (hl : l.length ≤ 4000000000) : FCall P 11 [Ls false l] (fun r => r = .tup [.agg (newN l).cells, .int .i64 (dlyE l)]) := by
  refine fcall_of h.f11 rfl (by decide) h.mo (by kernel_rfl) fun X hX => ?_
  by_cases h0 : l.length = 0
  · have e : l = [] := List.eq_nil_of_length_eq_zero h0
    have e1 : dlyE l = 7 := by simp [dlyE, e]
    simp [e, newN, zeroN, dlyE]
  have h3 : ¬ (l.length : Int) = 0 := by omega
  have h3' : l ≠ [] := by simpa using h0
  by_cases h1 : 50 < l.length
  · have h2 : (50 : Int) < l.length := by omega
    have e1 : dlyE l = 6 := by simp [dlyE, h1, h3']
    simp [h2, h3', newN, zeroN, e1]
  have h2 : ¬ (50 : Int) < l.length := by omega
  have e1 : dlyE l = if l.all (fun n => wiB n 50) = true then 0 else 2 := by simp only [dlyE, h0, h1, if_false]
  simp [h2, h3']
  refine awp_loop (σ := Nat) (fun k => (⟨[Ls false l, .any, .pto 0 3 0 0, .any, .int .i64 k, .any, .any, .any, .any, .any, .any, .any, .any, .any, .any, .any, .any, .any, .any, .any, .any, .any, .any, .any, .any, .any, .any, .any, .any, .any, .any, .any, .any, .any], [⟨25, 3, [.agg zeroN.cells], 0, true⟩]⟩ : S)) (fun k => k ≤ l.length ∧ ∀ j (hj : j < l.length), j < k → wiB l[j] 50 = true) (fun k => l.length - k) 0 (Wk.ren 0 [0] hX rfl (by decide) (by simp) (by simp) (by simp) (by simp [zeroN])) ⟨by omega, by simp⟩ ?_
  rintro k ⟨hk, hinv⟩
  refine vc_sound h.mo _ _ _ (by kernel_rfl) ?_
  rcases Nat.lt_or_ge k l.length with hlt | hge
  · have hk1 := wrap_succ hlt (by omega)
    by_cases q1 : l[k] < 0
    · have e2 : dlyE l = 2 := by
        rw [e1, if_neg]
        intro hh
        have := wiB_iff.1 (List.all_eq_true.1 hh _ (List.getElem_mem hlt)); omega
      simp [hlt, q1, e2, newN, zeroN]
    · by_cases q2 : 50 < l[k]
      · have e2 : dlyE l = 2 := by
          rw [e1, if_neg]
          intro hh
          have := wiB_iff.1 (List.all_eq_true.1 hh _ (List.getElem_mem hlt)); omega
        simp [hlt, q1, q2, e2, newN, zeroN]
      · simp [hlt, q1, q2]
        exact ⟨k + 1, Wk.ren 0 [0] hX rfl (by decide) (by simp [hk1]) (by simp) (by simp) (by simp), ⟨by omega, step_all (p := fun n => wiB n 50) hinv hlt (wiB_iff.2 ⟨by omega, by omega⟩)⟩, by omega⟩
  · have hge2 : ¬ k < l.length := by omega
    have e2 : dlyE l = 0 := by rw [e1, if_pos (all_yes fun j hj => hinv j hj (by omega))]
    simp [hge2, e2, newN]
end Go.Proofs.Ytnnpahcanpakcaa
