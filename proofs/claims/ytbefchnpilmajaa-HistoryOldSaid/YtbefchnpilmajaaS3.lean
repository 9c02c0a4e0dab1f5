/- Chapter 37: states and histories that are held against themselves, over any program that has the text. -/
import Derived.Test.YtbefchnpilmajaaS2
namespace Go.Proofs.Ytbefchnpilmajaa
open Go.AL
variable {P : Program} [h : Facts P]

set_option maxHeartbeats 2000000 in
set_option maxRecDepth 20000 in
theorem c_sameObjects (x : TState) (hx : x.ok) : FCall P 42 [.agg x.cells, .agg x.cells] (fun r => r = .bool true) := by
  refine fcall_of h.f42 rfl (by decide) h.mo (by kernel_rfl) fun X hX => ?_
  obtain ⟨_, _, _, _, ⟨l1, p1⟩, _, _, ⟨l2, p2⟩, ⟨l3, p3⟩, ⟨l4, p4⟩, ⟨l5, p5⟩, _⟩ := hx
  simp (config := {maxSteps := 4000000})
  refine awp_loop (σ := Nat) (fun k => (⟨[.any, .any, .pto 0 18 0 0, .pto 1 18 0 0, .any, .int .i64 k, .any, .any, .any, .any, .any, .any, .any, .any, .any, .any, .any, .any, .any, .any, .any, .any, .any, .any, .any, .any, .any, .any, .any, .any, .any, .any, .any, .any, .any, .any, .any, .any, .any, .any, .any, .any, .any, .any, .any, .any, .any, .any, .any, .any, .any, .any, .any, .any, .any, .any, .any, .any, .any, .any, .any, .any, .any, .any, .any, .any, .any, .any, .any, .any, .any, .any, .any, .any, .any, .any, .any, .any, .any, .any, .any, .any, .any, .any, .any, .any, .any, .any, .any, .any, .any, .any, .any, .any, .any, .any, .any, .any, .any, .any, .any, .any, .any, .any, .any, .any, .any, .any, .any, .any, .any, .any, .any, .any, .any, .any, .any, .any, .any, .any, .any, .any, .any, .any, .any, .any, .any, .any, .any, .any, .any, .any, .any, .any, .any, .any, .any, .any, .any, .any, .any, .any, .any, .any, .any, .any, .any, .any], [⟨37, 18, [.agg x.cells], 0, true⟩, ⟨37, 18, [.agg x.cells], 0, true⟩]⟩ : S)) (fun k => k ≤ x.fProcs.length) (fun k => x.fProcs.length - k) 0 (Wk.slots (by simp)) (by omega) ?_
  rintro k0 hk0
  refine vc_sound h.mo _ _ _ (by kernel_rfl) ?_
  rcases Nat.lt_or_ge k0 x.fProcs.length with hlt | hge
  · have hk1 : IntKind.i64.wrap ((k0 : Int) + 1) = ((k0 + 1 : Nat) : Int) := by rw [i64_id (by omega) (by omega)]; omega
    simp [hlt]
    refine ⟨_, ecall_of (c_SameProc x.fProcs[k0] (p1 _ (List.getElem_mem hlt))) (by simp), ?_⟩
    simp
    exact ⟨k0 + 1, Wk.ren 0 [0, 1] hX rfl (by decide) (by simp [hk1]) (by simp) (by simp) (by simp), by omega, by omega⟩
  clear hk0
  simp [hge]
  clear hge
  refine awp_loop (σ := Nat) (fun k => (⟨[.any, .any, .pto 0 18 0 0, .pto 1 18 0 0, .any, .any, .int .i64 k, .any, .any, .any, .any, .any, .any, .any, .any, .any, .any, .any, .any, .any, .any, .any, .any, .any, .any, .any, .any, .any, .any, .any, .any, .any, .any, .any, .any, .any, .any, .any, .any, .any, .any, .any, .any, .any, .any, .any, .any, .any, .any, .any, .any, .any, .any, .any, .any, .any, .any, .any, .any, .any, .any, .any, .any, .any, .any, .any, .any, .any, .any, .any, .any, .any, .any, .any, .any, .any, .any, .any, .any, .any, .any, .any, .any, .any, .any, .any, .any, .any, .any, .any, .any, .any, .any, .any, .any, .any, .any, .any, .any, .any, .any, .any, .any, .any, .any, .any, .any, .any, .any, .any, .any, .any, .any, .any, .any, .any, .any, .any, .any, .any, .any, .any, .any, .any, .any, .any, .any, .any, .any, .any, .any, .any, .any, .any, .any, .any, .any, .any, .any, .any, .any, .any, .any, .any, .any, .any, .any, .any], [⟨37, 18, [.agg x.cells], 0, true⟩, ⟨37, 18, [.agg x.cells], 0, true⟩]⟩ : S)) (fun k => k ≤ x.fResources.length) (fun k => x.fResources.length - k) 0 (Wk.slots (by simp)) (by omega) ?_
  rintro k1 hk1
  refine vc_sound h.mo _ _ _ (by kernel_rfl) ?_
  rcases Nat.lt_or_ge k1 x.fResources.length with hlt | hge
  · have hk1 : IntKind.i64.wrap ((k1 : Int) + 1) = ((k1 + 1 : Nat) : Int) := by rw [i64_id (by omega) (by omega)]; omega
    simp [hlt]
    refine ⟨_, ecall_of (c_SameResource x.fResources[k1] (p2 _ (List.getElem_mem hlt))) (by simp), ?_⟩
    simp
    exact ⟨k1 + 1, Wk.ren 0 [0, 1] hX rfl (by decide) (by simp [hk1]) (by simp) (by simp) (by simp), by omega, by omega⟩
  clear hk1
  simp [hge]
  clear hge
  refine awp_loop (σ := Nat) (fun k => (⟨[.any, .any, .pto 0 18 0 0, .pto 1 18 0 0, .any, .any, .any, .int .i64 k, .any, .any, .any, .any, .any, .any, .any, .any, .any, .any, .any, .any, .any, .any, .any, .any, .any, .any, .any, .any, .any, .any, .any, .any, .any, .any, .any, .any, .any, .any, .any, .any, .any, .any, .any, .any, .any, .any, .any, .any, .any, .any, .any, .any, .any, .any, .any, .any, .any, .any, .any, .any, .any, .any, .any, .any, .any, .any, .any, .any, .any, .any, .any, .any, .any, .any, .any, .any, .any, .any, .any, .any, .any, .any, .any, .any, .any, .any, .any, .any, .any, .any, .any, .any, .any, .any, .any, .any, .any, .any, .any, .any, .any, .any, .any, .any, .any, .any, .any, .any, .any, .any, .any, .any, .any, .any, .any, .any, .any, .any, .any, .any, .any, .any, .any, .any, .any, .any, .any, .any, .any, .any, .any, .any, .any, .any, .any, .any, .any, .any, .any, .any, .any, .any, .any, .any, .any, .any, .any, .any], [⟨37, 18, [.agg x.cells], 0, true⟩, ⟨37, 18, [.agg x.cells], 0, true⟩]⟩ : S)) (fun k => k ≤ x.fStores.length) (fun k => x.fStores.length - k) 0 (Wk.slots (by simp)) (by omega) ?_
  rintro k2 hk2
  refine vc_sound h.mo _ _ _ (by kernel_rfl) ?_
  rcases Nat.lt_or_ge k2 x.fStores.length with hlt | hge
  · have hk1 : IntKind.i64.wrap ((k2 : Int) + 1) = ((k2 + 1 : Nat) : Int) := by rw [i64_id (by omega) (by omega)]; omega
    simp [hlt]
    refine ⟨_, ecall_of (c_SameStore x.fStores[k2] (p3 _ (List.getElem_mem hlt))) (by simp), ?_⟩
    simp
    exact ⟨k2 + 1, Wk.ren 0 [0, 1] hX rfl (by decide) (by simp [hk1]) (by simp) (by simp) (by simp), by omega, by omega⟩
  clear hk2
  simp [hge]
  clear hge
  refine awp_loop (σ := Nat) (fun k => (⟨[.any, .any, .pto 0 18 0 0, .pto 1 18 0 0, .any, .any, .any, .any, .int .i64 k, .any, .any, .any, .any, .any, .any, .any, .any, .any, .any, .any, .any, .any, .any, .any, .any, .any, .any, .any, .any, .any, .any, .any, .any, .any, .any, .any, .any, .any, .any, .any, .any, .any, .any, .any, .any, .any, .any, .any, .any, .any, .any, .any, .any, .any, .any, .any, .any, .any, .any, .any, .any, .any, .any, .any, .any, .any, .any, .any, .any, .any, .any, .any, .any, .any, .any, .any, .any, .any, .any, .any, .any, .any, .any, .any, .any, .any, .any, .any, .any, .any, .any, .any, .any, .any, .any, .any, .any, .any, .any, .any, .any, .any, .any, .any, .any, .any, .any, .any, .any, .any, .any, .any, .any, .any, .any, .any, .any, .any, .any, .any, .any, .any, .any, .any, .any, .any, .any, .any, .any, .any, .any, .any, .any, .any, .any, .any, .any, .any, .any, .any, .any, .any, .any, .any, .any, .any, .any, .any], [⟨37, 18, [.agg x.cells], 0, true⟩, ⟨37, 18, [.agg x.cells], 0, true⟩]⟩ : S)) (fun k => k ≤ x.fBelts.length) (fun k => x.fBelts.length - k) 0 (Wk.slots (by simp)) (by omega) ?_
  rintro k3 hk3
  refine vc_sound h.mo _ _ _ (by kernel_rfl) ?_
  rcases Nat.lt_or_ge k3 x.fBelts.length with hlt | hge
  · have hk1 : IntKind.i64.wrap ((k3 : Int) + 1) = ((k3 + 1 : Nat) : Int) := by rw [i64_id (by omega) (by omega)]; omega
    simp [hlt]
    refine ⟨_, ecall_of (c_SameBelt x.fBelts[k3] (p4 _ (List.getElem_mem hlt))) (by simp), ?_⟩
    simp
    exact ⟨k3 + 1, Wk.ren 0 [0, 1] hX rfl (by decide) (by simp [hk1]) (by simp) (by simp) (by simp), by omega, by omega⟩
  clear hk3
  simp [hge]
  clear hge
  refine awp_loop (σ := Nat) (fun k => (⟨[.any, .any, .pto 0 18 0 0, .pto 1 18 0 0, .any, .any, .any, .any, .any, .int .i64 k, .any, .any, .any, .any, .any, .any, .any, .any, .any, .any, .any, .any, .any, .any, .any, .any, .any, .any, .any, .any, .any, .any, .any, .any, .any, .any, .any, .any, .any, .any, .any, .any, .any, .any, .any, .any, .any, .any, .any, .any, .any, .any, .any, .any, .any, .any, .any, .any, .any, .any, .any, .any, .any, .any, .any, .any, .any, .any, .any, .any, .any, .any, .any, .any, .any, .any, .any, .any, .any, .any, .any, .any, .any, .any, .any, .any, .any, .any, .any, .any, .any, .any, .any, .any, .any, .any, .any, .any, .any, .any, .any, .any, .any, .any, .any, .any, .any, .any, .any, .any, .any, .any, .any, .any, .any, .any, .any, .any, .any, .any, .any, .any, .any, .any, .any, .any, .any, .any, .any, .any, .any, .any, .any, .any, .any, .any, .any, .any, .any, .any, .any, .any, .any, .any, .any, .any, .any, .any], [⟨37, 18, [.agg x.cells], 0, true⟩, ⟨37, 18, [.agg x.cells], 0, true⟩]⟩ : S)) (fun k => k ≤ x.fQueues.length) (fun k => x.fQueues.length - k) 0 (Wk.slots (by simp)) (by omega) ?_
  rintro k4 hk4
  refine vc_sound h.mo _ _ _ (by kernel_rfl) ?_
  rcases Nat.lt_or_ge k4 x.fQueues.length with hlt | hge
  · have hk1 : IntKind.i64.wrap ((k4 : Int) + 1) = ((k4 + 1 : Nat) : Int) := by rw [i64_id (by omega) (by omega)]; omega
    simp [hlt]
    refine ⟨_, ecall_of (c_SameInts x.fQueues[k4] (p5 _ (List.getElem_mem hlt)).1) (by simp), ?_⟩
    simp
    exact ⟨k4 + 1, Wk.ren 0 [0, 1] hX rfl (by decide) (by simp [hk1]) (by simp) (by simp) (by simp), by omega, by omega⟩
  clear hk4
  simp [hge]

theorem c_sameStatistics (x : TState) (hx : x.ok) : FCall P 44 [.agg x.cells, .agg x.cells] (fun r => r = .bool true) := by
  refine fcall_of h.f44 rfl (by decide) h.mo (by kernel_rfl) fun X hX => ?_
  obtain ⟨_, _, _, _, _, _, _, _, _, _, _, _, ⟨l1, p1⟩, ⟨l2, p2⟩, ⟨l3, _⟩, ⟨l4, _⟩, ⟨l5, _⟩, _⟩ := hx
  simp
  refine awp_loop (σ := Nat) (fun k => (⟨[.any, .any, .pto 0 18 0 0, .pto 1 18 0 0, .any, .int .i64 k, .any, .any, .any, .any, .any, .any, .any, .any, .any, .any, .any, .any, .any, .any, .any, .any, .any, .any, .any, .any, .any, .any, .any, .any, .any, .any, .any, .any, .any, .any, .any, .any, .any, .any, .any, .any, .any, .any, .any, .any, .any, .any, .any, .any, .any, .any, .any, .any, .any, .any, .any, .any, .any, .any, .any, .any, .any, .any, .any, .any, .any, .any, .any, .any, .any, .any, .any, .any, .any, .any, .any, .any], [⟨37, 18, [.agg x.cells], 0, true⟩, ⟨37, 18, [.agg x.cells], 0, true⟩]⟩ : S)) (fun k => k ≤ x.fTallies.length) (fun k => x.fTallies.length - k) 0 (Wk.slots (by simp)) (by omega) ?_
  rintro k0 hk0
  refine vc_sound h.mo _ _ _ (by kernel_rfl) ?_
  rcases Nat.lt_or_ge k0 x.fTallies.length with hlt | hge
  · have hk1 : IntKind.i64.wrap ((k0 : Int) + 1) = ((k0 + 1 : Nat) : Int) := by rw [i64_id (by omega) (by omega)]; omega
    simp [hlt]
    exact ⟨k0 + 1, Wk.ren 0 [0, 1] hX rfl (by decide) (by simp [hk1]) (by simp) (by simp) (by simp), by omega, by omega⟩
  clear hk0
  simp [hge]
  clear hge
  refine awp_loop (σ := Nat) (fun k => (⟨[.any, .any, .pto 0 18 0 0, .pto 1 18 0 0, .any, .any, .int .i64 k, .any, .any, .any, .any, .any, .any, .any, .any, .any, .any, .any, .any, .any, .any, .any, .any, .any, .any, .any, .any, .any, .any, .any, .any, .any, .any, .any, .any, .any, .any, .any, .any, .any, .any, .any, .any, .any, .any, .any, .any, .any, .any, .any, .any, .any, .any, .any, .any, .any, .any, .any, .any, .any, .any, .any, .any, .any, .any, .any, .any, .any, .any, .any, .any, .any, .any, .any, .any, .any, .any, .any], [⟨37, 18, [.agg x.cells], 0, true⟩, ⟨37, 18, [.agg x.cells], 0, true⟩]⟩ : S)) (fun k => k ≤ x.fLevels.length) (fun k => x.fLevels.length - k) 0 (Wk.slots (by simp)) (by omega) ?_
  rintro k1 hk1
  refine vc_sound h.mo _ _ _ (by kernel_rfl) ?_
  rcases Nat.lt_or_ge k1 x.fLevels.length with hlt | hge
  · have hk1 : IntKind.i64.wrap ((k1 : Int) + 1) = ((k1 + 1 : Nat) : Int) := by rw [i64_id (by omega) (by omega)]; omega
    simp [hlt]
    exact ⟨k1 + 1, Wk.ren 0 [0, 1] hX rfl (by decide) (by simp [hk1]) (by simp) (by simp) (by simp), by omega, by omega⟩
  clear hk1
  simp [hge]
  refine xcall_fn (c_SameInts x.fCounts l3) (by simp) ?_
  simp
  refine xcall_fn (c_SameInts x.fCreated l4) (by simp) ?_
  simp
  refine xcall_fn (c_SameInts x.fEnded l5) (by simp) ?_
  simp

theorem c_SameState (x : TState) (hx : x.ok) : FCall P 30 [.agg x.cells, .agg x.cells] (fun r => r = .bool true) := by
  refine fcall_of h.f30 rfl (by decide) h.mo (by kernel_rfl) fun X hX => ?_
  have hx0 := hx
  obtain ⟨_, _, _, ⟨l1, p1⟩, _, _, ⟨l2, _⟩, _, _, _, _, ⟨l3, _⟩, _⟩ := hx
  simp
  refine xcall_fn (c_SameEvents x.fAgenda l1 fun y hy => (p1 y hy).2.2.2.2.2.2.2.2.1) (by simp) ?_
  simp
  refine xcall_fn (c_SameInts x.fVars l2) (by simp) ?_
  simp
  refine xcall_fn (c_sameObjects x hx0) (by simp) ?_
  simp
  refine xcall_fn (c_SameStreams x.fStreams l3) (by simp) ?_
  simp
  refine xcall_fn (c_sameStatistics x hx0) (by simp) ?_
  simp

set_option maxHeartbeats 2000000 in
set_option maxRecDepth 20000 in
theorem c_R37Same (l : List TPast) (hl : l.length ≤ 9223372036854775807) (hx : ∀ x ∈ l, x.ok) : FCall P 15 [Ls false l, Ls false l] (fun r => r = .bool true) := by
  refine fcall_of h.f15 rfl (by decide) h.mo (by kernel_rfl) fun X hX => ?_
  simp
  refine awp_loop (σ := Nat) (fun k => (⟨[Ls false l, Ls false l, .any, .any, .any, .int .i64 k, .any, .any, .any, .any, .any, .any, .any, .any, .any, .any, .any, .any, .any, .any, .any, .any, .any, .any, .any, .any, .any, .any, .any, .any, .any, .any, .any, .any, .any, .any, .any, .any, .any, .any, .any, .any, .any, .any, .any, .any, .any, .any, .any, .any, .any, .any, .any, .any, .any, .any, .any, .any, .any, .any, .any, .any, .any, .any, .any, .any, .any, .any, .any, .any, .any, .any, .any, .any, .any, .any, .any, .any, .any, .any, .any, .any, .any, .any], []⟩ : S)) (fun k => k ≤ l.length) (fun k => l.length - k) 0 (Wk.slots (by simp)) (by omega) ?_
  rintro k hk
  refine vc_sound h.mo _ _ _ (by kernel_rfl) ?_
  rcases Nat.lt_or_ge k l.length with hlt | hge
  · have hk1 : IntKind.i64.wrap ((k : Int) + 1) = ((k + 1 : Nat) : Int) := by rw [i64_id (by omega) (by omega)]; omega
    obtain ⟨x, hxk⟩ : ∃ x, l[k] = x := ⟨_, rfl⟩
    obtain ⟨h1, h2, ⟨h3, p3⟩, ⟨h4, p4⟩⟩ := hx _ (List.getElem_mem hlt)
    rw [hxk] at h1 h2 h3 p3 h4 p4
    simp (config := {maxSteps := 4000000}) [hlt, hxk]
    refine ⟨_, ecall_of (c_RSame x.fEvent x.fEvent h1.2.2.2.2.2.2.2.2.1) (by simp), ?_⟩
    simp (config := {maxSteps := 4000000}) [hlt, hxk, show evB x.fEvent x.fEvent = true from (evB_eq _ _).2 rfl]
    refine ⟨_, ecall_of (c_SameAll x.fSends h3 fun y hy => (p3 y hy).2.2.2.2.2.2.2.2.1) (by simp), ?_⟩
    simp (config := {maxSteps := 4000000}) [hlt, hxk]
    refine ⟨_, ecall_of (c_SameRecs x.fRecs h4) (by simp), ?_⟩
    simp (config := {maxSteps := 4000000}) [hlt, hxk]
    refine ⟨_, ecall_of (c_SameState x.fBefore h2) (by simp), ?_⟩
    simp
    exact ⟨k + 1, Wk.ren 0 [] hX rfl (by decide) (by simp [hk1]) (by simp) (by simp) (by simp), by omega, by omega⟩
  · simp [hge]
end Go.Proofs.Ytbefchnpilmajaa
