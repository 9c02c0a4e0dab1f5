/- Chapter 37: resources, stores, belts and processes that are held against themselves, over any program that has the text. -/
import Derived.Test.YtbefchnpilmajaaS1
namespace Go.Proofs.Ytbefchnpilmajaa
open Go.AL
variable {P : Program} [h : Facts P]

theorem c_SameResource (x : TResource) (hx : x.ok) : FCall P 48 [.agg x.cells, .agg x.cells] (fun r => r = .bool true) := by
  refine fcall_of h.f48 rfl (by decide) h.mo (by kernel_rfl) fun X hX => ?_
  obtain ⟨_, ⟨h1, _⟩, ⟨h2, _⟩, _⟩ := hx
  simp
  refine xcall_fn (c_sameClaims x.fHolders h1) (by simp) ?_
  simp
  refine xcall_fn (c_sameClaims x.fQueue h2) (by simp) ?_
  simp

theorem c_SameProc (x : TProc) (hx : x.ok) : FCall P 47 [.agg x.cells, .agg x.cells] (fun r => r = .bool true) := by
  refine fcall_of h.f47 rfl (by decide) h.mo (by kernel_rfl) fun X hX => ?_
  obtain ⟨_, _, _, ⟨h1, _⟩, _⟩ := hx
  simp
  refine xcall_fn (c_SameInts x.fSlots h1) (by simp) ?_
  simp

theorem c_SameBelt (x : TBelt) (hx : x.ok) : FCall P 50 [.agg x.cells, .agg x.cells] (fun r => r = .bool true) := by
  refine fcall_of h.f50 rfl (by decide) h.mo (by kernel_rfl) fun X hX => ?_
  obtain ⟨_, _, ⟨h1, _⟩, _⟩ := hx
  simp
  refine awp_loop (σ := Nat) (fun k => (⟨[.any, .any, .pto 0 4 0 0, .pto 1 4 0 0, .any, .int .i64 k, .any, .any, .any, .any, .any, .any, .any, .any, .any, .any, .any, .any, .any, .any, .any, .any, .any, .any, .any, .any, .any, .any, .any, .any, .any, .any, .any, .any, .any, .any, .any, .any, .any, .any, .any, .any, .any, .any, .any, .any, .any, .any, .any, .any, .any, .any], [⟨89, 4, [.agg x.cells], 0, true⟩, ⟨89, 4, [.agg x.cells], 0, true⟩]⟩ : S)) (fun k => k ≤ x.fRiders.length) (fun k => x.fRiders.length - k) 0 (Wk.slots (by simp)) (by omega) ?_
  rintro k hk
  refine vc_sound h.mo _ _ _ (by kernel_rfl) ?_
  rcases Nat.lt_or_ge k x.fRiders.length with hlt | hge
  · have hk1 : IntKind.i64.wrap ((k : Int) + 1) = ((k + 1 : Nat) : Int) := by rw [i64_id (by omega) (by omega)]; omega
    simp [hlt]
    exact ⟨k + 1, Wk.ren 0 [0, 1] hX rfl (by decide) (by simp [hk1]) (by simp) (by simp) (by simp), by omega, by omega⟩
  · simp [hge]

theorem c_SameStore (x : TStore) (hx : x.ok) : FCall P 49 [.agg x.cells, .agg x.cells] (fun r => r = .bool true) := by
  refine fcall_of h.f49 rfl (by decide) h.mo (by kernel_rfl) fun X hX => ?_
  obtain ⟨_, _, ⟨h1, _⟩, ⟨h2, _⟩, ⟨h3, _⟩, _⟩ := hx
  simp
  refine xcall_fn (c_SameInts x.fItems h1) (by simp) ?_
  simp
  refine xcall_fn (c_SameInts x.fGetters h3) (by simp) ?_
  simp
  refine awp_loop (σ := Nat) (fun k => (⟨[.any, .any, .pto 0 7 0 0, .pto 1 7 0 0, .any, .int .i64 k, .any, .any, .any, .any, .any, .any, .any, .any, .any, .any, .any, .any, .any, .any, .any, .any, .any, .any, .any, .any, .any, .any, .any, .any, .any, .any, .any, .any, .any, .any, .any, .any, .any, .any, .any, .any, .any, .any, .any, .any, .any, .any, .any, .any, .any, .any, .any, .any, .any, .any, .any, .any, .any, .any, .any, .any, .any, .any, .any, .any, .any, .any, .any, .any, .any, .any, .any, .any, .any], [⟨85, 7, [.agg x.cells], 0, true⟩, ⟨85, 7, [.agg x.cells], 0, true⟩]⟩ : S)) (fun k => k ≤ x.fPutters.length) (fun k => x.fPutters.length - k) 0 (Wk.slots (by simp)) (by omega) ?_
  rintro k hk
  refine vc_sound h.mo _ _ _ (by kernel_rfl) ?_
  rcases Nat.lt_or_ge k x.fPutters.length with hlt | hge
  · have hk1 : IntKind.i64.wrap ((k : Int) + 1) = ((k + 1 : Nat) : Int) := by rw [i64_id (by omega) (by omega)]; omega
    simp [hlt]
    exact ⟨k + 1, Wk.ren 0 [0, 1] hX rfl (by decide) (by simp [hk1]) (by simp) (by simp) (by simp), by omega, by omega⟩
  · simp [hge]
end Go.Proofs.Ytbefchnpilmajaa
