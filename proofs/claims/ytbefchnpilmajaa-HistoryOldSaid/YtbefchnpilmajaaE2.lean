/- Chapter 37: what the reference's Check computes, over any program that has its text. -/
import Derived.Test.YtbefchnpilmajaaE1
namespace Go.Proofs.Ytbefchnpilmajaa
open Go.AL
variable {P : Program} [h : Facts P]

theorem c_RCheck (l : List TPast) (hl : l.length ≤ 9223372036854775807) : FCall P 14 [Ls false l] (fun r => r = .int .i64 (hchk l)) := by
  refine fcall_of h.f14 rfl (by decide) h.mo (by kernel_rfl) fun X hX => ?_
  simp
  refine ⟨fun e => by unfold hchk; rw [if_pos (by omega)], fun e => ?_⟩
  refine awp_loop (σ := Nat) (fun k => (⟨[Ls false l, .any, .any, .int .i64 k, .any, .any, .any, .any, .any, .any, .any, .any, .any, .any, .any, .any, .any, .any, .any, .any, .any, .any, .any, .any, .any, .any, .any, .any, .any, .any, .any, .any, .any, .any, .any, .any, .any, .any, .any, .any, .any, .any, .any, .any, .any, .any], []⟩ : S)) (fun k => k ≤ l.length ∧ okTo l k = true) (fun k => l.length - k) 0 (Wk.slots (by simp)) ⟨by omega, by simp [okTo]⟩ ?_
  rintro k ⟨hk, hinv⟩
  refine vc_sound h.mo _ _ _ (by kernel_rfl) ?_
  rcases Nat.lt_or_ge k l.length with hlt | hge
  · have e5 : l.length ≤ 5000 := by omega
    have fin : goodB l k = true → okTo l (k + 1) = true := fun hg => by rw [okTo_succ, hinv, hg]; rfl
    have hk1 := wrap_succ hlt (by omega)
    rcases Nat.eq_zero_or_pos k with rfl | hpos
    · have g := goodB_zero hlt
      simp [hlt]
      refine ⟨fun h1 => ⟨1, Wk.ren 0 [] hX rfl (by decide) (by simp) (by simp) (by simp) (by simp), ⟨by omega, fin (by rw [g]; simpa using h1)⟩, by omega⟩, fun h1 => ?_⟩
      exact (hchk_bad e5 hlt (by rw [g]; simp; omega)).symm
    · have hk2 := wrap_pred hlt (by omega)
      have hj : k - 1 < l.length := by omega
      have h1k : (1 : Int) ≤ k := by omega
      obtain ⟨x, hx⟩ : ∃ x, l[k] = x := ⟨_, rfl⟩
      obtain ⟨y, hy⟩ : ∃ y, l[k - 1] = y := ⟨_, rfl⟩
      have g := goodB_pos (l := l) hpos (by simp [hlt, hx]; rfl) (by simp [hj, hy]; rfl)
      simp [hlt, hpos, hj, hk2, h1k, hx, hy]
      refine ⟨fun h1 => ⟨fun h2 => (hchk_bad e5 hlt (by rw [g]; simp; omega)).symm, fun h2 => ⟨k + 1, Wk.ren 0 [] hX rfl (by decide) (by simp [hk1]) (by simp) (by simp) (by simp), ⟨by omega, fin (by rw [g]; simp; omega)⟩, by omega⟩⟩, fun h1 => (hchk_bad e5 hlt (by rw [g]; simp; omega)).symm⟩
  · simp [hge]
    have : k = l.length := by omega
    subst this
    simp [hchk, hinv]; try omega
end Go.Proofs.Ytbefchnpilmajaa
