/- Chapter 37: the reference's Cut, over any program that has the text. -/
import Derived.Test.YtbefchnpilmajaaE10
namespace Go.Proofs.Ytbefchnpilmajaa
open Go.AL
variable {P : Program} [h : Facts P]

theorem c_RCut (l : List TPast) (e : TEvent) (hl : fitL l) : FCall P 21 [Ls false l, .agg e.cells] (fun r => r = .tup [Ls false (l.take (l.findIdx fun x => laterB x e)), Ls false (l.drop (l.findIdx fun x => laterB x e))]) := by
  refine fcall_of h.f21 rfl (by decide) h.mo (by kernel_rfl) fun X hX => ?_
  simp
  have h5 := hl.1
  refine awp_loop (σ := Nat) (fun k => (⟨[Ls false l, .any, .any, .pto 0 9 0 0, .any, .any, .int .i64 k, .any, .any, .any, .any, .any, .any, .any, .any, .any, .any, .any, .any, .any, .any, .any, .any, .any, .any, .any, .any, .any], [⟨26, 9, [.agg e.cells], 0, true⟩]⟩ : S)) (fun k => k ≤ l.length ∧ ∀ j (hj : j < l.length), j < k → (fun x : TPast => laterB x e) l[j] = false) (fun k => l.length - k) 0 (Wk.slots (by simp)) ⟨by omega, by simp⟩ ?_
  rintro k ⟨hk, hinv⟩
  refine vc_sound h.mo _ _ _ (by kernel_rfl) ?_
  obtain ⟨n, hn⟩ : ∃ n, l.findIdx (fun x => laterB x e) = n := ⟨_, rfl⟩
  rw [hn]
  rcases Nat.lt_or_ge k l.length with hlt | hge
  · have hk1 : IntKind.i64.wrap ((k : Int) + 1) = ((k + 1 : Nat) : Int) := by rw [i64_id (by omega) (by omega)]; omega
    simp [hlt]
    refine ⟨_, ecall_of (c_Later l[k] e) (by simp), ?_⟩
    simp
    refine ⟨fun g => ⟨k + 1, Wk.ren 0 [0] hX rfl (by decide) (by simp [hk1]) (by simp) (by simp) (by simp), ⟨by omega, fun j hj hjk => ?_⟩, by omega⟩, fun g => ?_⟩
    · rcases Nat.lt_or_ge j k with hlk | hgk
      · simpa using hinv j hj hlk
      · have : j = k := by omega
        subst this; simpa using g
    · have hnk : n = k := by rw [← hn]; exact (List.findIdx_eq hlt).2 ⟨by simpa using g, fun j hj => hinv j (by omega) hj⟩
      subst hnk
      have e : (l.drop n).take (l.length - n) = l.drop n := List.take_of_length_le (by simp)
      simp [e]
      try omega
  · simp [hge]
    have hkl : k = l.length := by omega
    have hnl : n = l.length := by
      rw [← hn]
      refine List.findIdx_eq_length.2 fun x hx => ?_
      obtain ⟨j, hj, rfl⟩ := List.mem_iff_getElem.1 hx
      exact hinv j hj (by omega)
    simp [hkl, hnl]
end Go.Proofs.Ytbefchnpilmajaa
