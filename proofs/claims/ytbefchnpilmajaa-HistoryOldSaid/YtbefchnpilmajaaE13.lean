/- Chapter 37: light, over any program that has the text. -/
import Derived.Test.YtbefchnpilmajaaTy
namespace Go.Proofs.Ytbefchnpilmajaa
open Go.AL
variable {P : Program} [h : Facts P]

theorem c_light (l : List TPast) (hl : l.length ≤ 9223372036854775807) : FCall P 9 [Ls false l] (fun r => ∃ b, r = .bool b ∧ (b = true → l.length ≤ 40 ∧ ∀ j (hj : j < l.length), l[j].fSends.length ≤ 60)) := by
  refine fcall_of h.f9 rfl (by decide) h.mo (by kernel_rfl) fun X hX => ?_
  simp
  refine awp_loop (σ := Nat) (fun k => (⟨[Ls false l, .any, .any, .int .i64 k, .any, .any, .any, .any, .any, .any, .any, .any, .any, .any, .any, .any, .any, .any, .any, .any, .any, .any, .any, .any, .any, .any, .any, .any, .any, .any, .any, .any, .any, .any, .any, .any, .any, .any, .any, .any, .any, .any, .any, .any, .any, .any, .any, .any, .any, .any, .any, .any, .any], []⟩ : S)) (fun k => k ≤ l.length ∧ ∀ j (hj : j < l.length), j < k → l[j].fSends.length ≤ 60) (fun k => l.length - k) 0 (Wk.slots (by simp)) ⟨by omega, by simp⟩ ?_
  rintro k ⟨hk, hinv⟩
  refine vc_sound h.mo _ _ _ (by kernel_rfl) ?_
  rcases Nat.lt_or_ge k l.length with hlt | hge
  · have hk1 : IntKind.i64.wrap ((k : Int) + 1) = ((k + 1 : Nat) : Int) := by rw [i64_id (by omega) (by omega)]; omega
    simp [hlt]
    refine ⟨fun h1 h2 h3 h4 h5 => ⟨k + 1, Wk.ren 0 [] hX rfl (by decide) (by simp [hk1]) (by simp) (by simp) (by simp), ⟨by omega, fun j hj hjk => ?_⟩, by omega⟩, ?_⟩
    · rcases Nat.lt_or_ge j k with hlk | hgk
      · exact hinv j hj hlk
      · have : j = k := by omega
        subst this; omega
    · intro h1; exact .inl (by omega)
  · simp [hge]
    have : k = l.length := by omega
    subst this
    refine ⟨fun e => by omega, ?_⟩
    rcases Nat.lt_or_ge 40 l.length with h1 | h1
    · exact .inl (by omega)
    · exact .inr ⟨by omega, h1, fun j hj => hinv j hj hj⟩
end Go.Proofs.Ytbefchnpilmajaa
