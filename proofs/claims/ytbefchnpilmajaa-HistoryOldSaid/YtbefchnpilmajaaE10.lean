/- Chapter 37: the reference's Later, Cut, Find and Old, over any program that has the text. -/
import Derived.Test.YtbefchnpilmajaaE9
import Derived.Test.YtbefchnpilmajaaE7
namespace Go.Proofs.Ytbefchnpilmajaa
open Go.AL
variable {P : Program} [h : Facts P]

theorem c_Later (x : TPast) (e : TEvent) : FCall P 38 [.agg x.cells, .agg e.cells] (fun r => r = .bool (laterB x e)) := by
  refine fcall_of h.f38 rfl (by decide) h.mo (by kernel_rfl) fun X hX => ?_
  simp
  refine ⟨fun h1 => ⟨fun h2 => ?_, fun h2 => by unfold laterB; rw [decide_eq_false h2, decide_eq_false (by omega)]; rfl⟩, fun h1 => by simp [laterB, h1]⟩
  refine xcall_fn (c_RLess e x.fEvent) (by simp) ?_
  simp [laterB, h2]

theorem c_RFind (l : List TPast) (e : TEvent) (hl : fitL l) : FCall P 22 [Ls false l, .agg e.cells] (fun r => r = .int .i64 (idxZ (fun x => evB x.fEvent e) l)) := by
  refine fcall_of h.f22 rfl (by decide) h.mo (by kernel_rfl) fun X hX => ?_
  simp
  have h5 := hl.1
  refine awp_loop (σ := Nat) (fun k => (⟨[Ls false l, .any, .any, .pto 0 9 0 0, .any, .int .i64 k, .any, .any, .any, .any, .any, .any, .any, .any, .any, .any, .any, .any, .any, .any], [⟨26, 9, [.agg e.cells], 0, true⟩]⟩ : S)) (fun k => k ≤ l.length ∧ ∀ j (hj : j < l.length), j < k → (fun x : TPast => evB x.fEvent e) l[j] = false) (fun k => l.length - k) 0 (Wk.slots (by simp)) ⟨by omega, by simp⟩ ?_
  rintro k ⟨hk, hinv⟩
  refine vc_sound h.mo _ _ _ (by kernel_rfl) ?_
  rcases Nat.lt_or_ge k l.length with hlt | hge
  · have hk1 : IntKind.i64.wrap ((k : Int) + 1) = ((k + 1 : Nat) : Int) := by rw [i64_id (by omega) (by omega)]; omega
    simp [hlt]
    refine ⟨_, ecall_of (c_RSame l[k].fEvent e (hl.2 _ (List.getElem_mem hlt))) (by simp), ?_⟩
    simp
    refine ⟨fun g => ?_, fun g => ⟨k + 1, Wk.ren 0 [0] hX rfl (by decide) (by simp [hk1]) (by simp) (by simp) (by simp), ⟨by omega, fun j hj hjk => ?_⟩, by omega⟩⟩
    · have : l.findIdx (fun x => evB x.fEvent e) = k := (List.findIdx_eq hlt).2 ⟨g, fun j hj => hinv j (by omega) hj⟩
      simp [idxZ, this, hlt]
    · rcases Nat.lt_or_ge j k with hlk | hgk
      · simpa using hinv j hj hlk
      · have : j = k := by omega
        subst this; exact g
  · simp [hge]
    have : l.findIdx (fun x => evB x.fEvent e) = l.length := List.findIdx_eq_length.2 fun x hx => by
      obtain ⟨j, hj, rfl⟩ := List.mem_iff_getElem.1 hx
      exact hinv j hj (by omega)
    simp [idxZ, this]

theorem c_ROld (l : List TPast) (t : Int) (hl : fitL l) : FCall P 27 [Ls false l, .int .i64 t] (fun r => r = .tup [Ls false (l.take (l.findIdx fun x => decide (t ≤ x.fEvent.fTime))), Ls false (l.drop (l.findIdx fun x => decide (t ≤ x.fEvent.fTime)))]) := by
  refine fcall_of h.f27 rfl (by decide) h.mo (by kernel_rfl) fun X hX => ?_
  simp
  refine awp_loop (σ := Nat) (fun k => (⟨[Ls false l, .int .i64 t, .any, .any, .any, .any, .int .i64 k, .any, .any, .any, .any, .any, .any, .any, .any, .any, .any, .any, .any, .any, .any, .any, .any, .any, .any, .any, .any, .any, .any], []⟩ : S)) (fun k => k ≤ l.length ∧ ∀ j (hj : j < l.length), j < k → (fun x : TPast => decide (t ≤ x.fEvent.fTime)) l[j] = false) (fun k => l.length - k) 0 (Wk.slots (by simp)) ⟨by omega, by simp⟩ ?_
  rintro k ⟨hk, hinv⟩
  refine vc_sound h.mo _ _ _ (by kernel_rfl) ?_
  obtain ⟨n, hn⟩ : ∃ n, l.findIdx (fun x => decide (t ≤ x.fEvent.fTime)) = n := ⟨_, rfl⟩
  rw [hn]
  rcases Nat.lt_or_ge k l.length with hlt | hge
  · have hk1 : IntKind.i64.wrap ((k : Int) + 1) = ((k + 1 : Nat) : Int) := by rw [i64_id (by have := hl.1; omega) (by have := hl.1; omega)]; omega
    simp [hlt]
    refine ⟨fun g => ⟨k + 1, Wk.ren 0 [] hX rfl (by decide) (by simp [hk1]) (by simp) (by simp) (by simp), ⟨by omega, fun j hj hjk => ?_⟩, by omega⟩, fun g => ?_⟩
    · rcases Nat.lt_or_ge j k with hlk | hgk
      · simpa using hinv j hj hlk
      · have : j = k := by omega
        subst this; simpa using g
    · have hnk : n = k := by rw [← hn]; exact (List.findIdx_eq hlt).2 ⟨by simpa using g, fun j hj => hinv j (by omega) hj⟩
      subst hnk
      have e : (l.drop n).take (l.length - n) = l.drop n := List.take_of_length_le (by simp)
      simp [e]
      try omega
  · simp [hge]
    have hkl : k = l.length := by omega
    have hnl : n = l.length := by
      rw [← hn]
      refine List.findIdx_eq_length.2 fun x hx => ?_
      obtain ⟨j, hj, rfl⟩ := List.mem_iff_getElem.1 hx
      exact hinv j hj (by omega)
    simp [hkl, hnl]
end Go.Proofs.Ytbefchnpilmajaa
