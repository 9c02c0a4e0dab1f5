/- Chapter 35: networks: Same on what is equal, over any program that has the text. -/
import Derived.Test.YtnnpahcanpakcaaN4
namespace Go.Proofs.Ytnnpahcanpakcaa
open Go.AL
variable {P : Program} [h : Facts P]

theorem c_sameInts (l : List (Int)) (hl : l.length ≤ 9223372036854775807) : FCall P 27 [Ls false l, Ls false l] (fun r => r = .bool true) := by
  refine fcall_of h.f27 rfl (by decide) h.mo (by kernel_rfl) fun X hX => ?_
  simp
  refine awp_loop (σ := Nat) (fun k => (⟨[Ls false l, Ls false l, .any, .any, .any, .int .i64 k, .any, .any, .any, .any, .any, .any, .any, .any, .any, .any, .any, .any, .any, .any, .any, .any, .any, .any, .any, .any], []⟩ : S)) (fun k => k ≤ l.length) (fun k => l.length - k) 0 (Wk.slots (by simp)) (by omega) ?_
  rintro k hk
  refine vc_sound h.mo _ _ _ (by kernel_rfl) ?_
  rcases Nat.lt_or_ge k l.length with hlt | hge
  · have hk1 := wrap_succ hlt hl
    simp [hlt]
    exact ⟨k + 1, Wk.ren 0 [] hX rfl (by decide) (by simp [hk1]) (by simp) (by simp) (by simp), by omega, by omega⟩
  · have hge2 : ¬ k < l.length := by omega
    simp [hge2]


set_option maxRecDepth 20000 in
set_option maxHeartbeats 1000000 in
theorem c_SameMsg (x : TMsg) (hl : x.fEvent.fArgs.length ≤ 9223372036854775807) : FCall P 24 [.agg x.cells, .agg x.cells] (fun r => r = .bool true) := by
  refine fcall_ofB [1] h.f24 rfl (by decide) h.mo (by kernel_rfl) fun X hX => ?_
  simp
  refine awp_fz 0 (by rfl) (by simp) ?_
  refine awp_fz 1 (by rfl) (by simp) ?_
  simp
  refine awp_tree (.take 0 (.take 1 (.take 2 (.take 3 (.alt 4 (.alt 5 (.alt 6 (.alt 7 .done .stop) .stop) .stop) (.alt 5 (.alt 4 (.alt 6 (.alt 7 .done .stop) .stop) .stop) .stop)))))) _ h.mo (by kernel_rfl) (by decide) (by kernel_rfl) (by rfl) ?_
  simp
  refine ⟨?_, ?_⟩
  all_goals
    refine xcall_fn (c_sameInts x.fEvent.fArgs hl) (by simp) ?_
    simp

theorem c_SameMsgs (l : List TMsg) (hl : l.length ≤ 9223372036854775807) (hf : ∀ x ∈ l, x.fEvent.fArgs.length ≤ 9223372036854775807) : FCall P 21 [Ls false l, Ls false l] (fun r => r = .bool true) := by
  refine fcall_of h.f21 rfl (by decide) h.mo (by kernel_rfl) fun X hX => ?_
  simp
  refine awp_loop (σ := Nat) (fun k => (⟨[Ls false l, Ls false l, .any, .any, .any, .int .i64 k, .any, .any, .any, .any, .any, .any, .any, .any, .any, .any, .any, .any, .any, .any, .any, .any, .any, .any, .any, .any, .any], []⟩ : S)) (fun k => k ≤ l.length) (fun k => l.length - k) 0 (Wk.slots (by simp)) (by omega) ?_
  rintro k hk
  refine vc_sound h.mo _ _ _ (by kernel_rfl) ?_
  rcases Nat.lt_or_ge k l.length with hlt | hge
  · have hk1 := wrap_succ hlt hl
    obtain ⟨m, hm⟩ : ∃ m, l[k] = m := ⟨_, rfl⟩
    have hfm : m.fEvent.fArgs.length ≤ 9223372036854775807 := by rw [← hm]; exact hf _ (List.getElem_mem hlt)
    simp [hlt, hm]
    refine ⟨_, ecall_of (c_SameMsg m hfm) (by simp), ?_⟩
    simp
    exact ⟨k + 1, Wk.ren 0 [] hX rfl (by decide) (by simp [hk1]) (by simp) (by simp) (by simp), by omega, by omega⟩
  · have hge2 : ¬ k < l.length := by omega
    simp [hge2]
def fitN (n : TNet) : Prop := n.fDelays.length ≤ 4000000000 ∧ n.fMsgs.length ≤ 4000000000 ∧ ∀ x ∈ n.fMsgs, x.fEvent.fArgs.length ≤ 9223372036854775807
theorem c_Same (n : TNet) (hn : fitN n) : FCall P 12 [.agg n.cells, .agg n.cells] (fun r => r = .bool true) := by
  refine fcall_of h.f12 rfl (by decide) h.mo (by kernel_rfl) fun X hX => ?_
  obtain ⟨h1, h2, h3⟩ := hn
  simp
  refine xcall_fn (c_sameInts n.fDelays (by omega)) (by simp) ?_
  simp
  refine xcall_fn (c_SameMsgs n.fMsgs (by omega) h3) (by simp) ?_
  simp

def smallB (n : TNet) : Bool := decide (n.fDelays.length ≤ 100) && decide (n.fMsgs.length ≤ 100) && n.fMsgs.all fun m => decide (m.fEvent.fArgs.length ≤ 20)
theorem smallB_iff {n : TNet} : smallB n = true ↔ (n.fDelays.length ≤ 100 ∧ n.fMsgs.length ≤ 100) ∧ ∀ m ∈ n.fMsgs, m.fEvent.fArgs.length ≤ 20 := by simp [smallB]
theorem smallB_fit {n : TNet} (h : smallB n = true) : fitN n := by
  obtain ⟨⟨h1, h2⟩, h3⟩ := smallB_iff.1 h
  exact ⟨by omega, by omega, fun x hx => by have := h3 x hx; omega⟩
theorem c_small (n : TNet) (hl : n.fMsgs.length ≤ 9223372036854775807) : FCall P 8 [.agg n.cells] (fun r => r = .bool (smallB n)) := by
  refine fcall_of h.f8 rfl (by decide) h.mo (by kernel_rfl) fun X hX => ?_
  simp
  by_cases h1 : n.fDelays.length ≤ 100
  case neg =>
    have h2 : (100 : Int) < n.fDelays.length := by omega
    have h2n : ¬ (n.fDelays.length : Int) ≤ 100 := by omega
    simp [smallB, h1, h2, h2n]
  have h2 : ¬ (100 : Int) < n.fDelays.length := by omega
  have h2' : (n.fDelays.length : Int) ≤ 100 := by omega
  by_cases h3 : n.fMsgs.length ≤ 100
  case neg =>
    have h4 : (100 : Int) < n.fMsgs.length := by omega
    have h4n : ¬ (n.fMsgs.length : Int) ≤ 100 := by omega
    simp [smallB, h2, h2', h3, h4, h4n]
  have h4 : ¬ (100 : Int) < n.fMsgs.length := by omega
  have h4' : (n.fMsgs.length : Int) ≤ 100 := by omega
  simp [h2, h4, h2', h4']
  have hs : smallB n = n.fMsgs.all fun m => decide (m.fEvent.fArgs.length ≤ 20) := by simp [smallB, h1, h3]
  rw [hs]
  obtain ⟨dl, us, l⟩ := n
  simp only at hl
  refine awp_loop (σ := Nat) (fun k => (⟨[.any, .pto 0 3 0 0, .any, .int .i64 k, .any, .any, .any, .any, .any, .any, .any, .any, .any, .any, .any, .any, .any, .any, .any, .any, .any, .any, .any, .any, .any, .any, .any, .any, .any, .any], [⟨25, 3, [.agg (⟨dl, us, l⟩ : TNet).cells], 0, true⟩]⟩ : S)) (fun k => k ≤ l.length ∧ ∀ j (hj : j < l.length), j < k → (fun m : TMsg => decide (m.fEvent.fArgs.length ≤ 20)) l[j] = true) (fun k => l.length - k) 0 (Wk.ren 0 [0] hX rfl (by decide) (by simp) (by simp) (by simp) (by simp)) ⟨by omega, by simp⟩ ?_
  rintro k ⟨hk, hinv⟩
  refine vc_sound h.mo _ _ _ (by kernel_rfl) ?_
  rcases Nat.lt_or_ge k l.length with hlt | hge
  · have hk1 := wrap_succ hlt hl
    by_cases q : l[k].fEvent.fArgs.length ≤ 20
    · have q2 : ¬ (20 : Int) < l[k].fEvent.fArgs.length := by omega
      simp [hlt, q2]
      refine ⟨k + 1, Wk.ren 0 [0] hX rfl (by decide) (by simp [hk1]) (by simp) (by simp) (by simp), ⟨by omega, fun j hj hjk => ?_⟩, by omega⟩
      simpa using step_all (p := fun m : TMsg => decide (m.fEvent.fArgs.length ≤ 20)) hinv hlt (by simpa using q) j hj hjk
    · have q2 : (20 : Int) < l[k].fEvent.fArgs.length := by omega
      have q3 : ∃ x, x ∈ l ∧ 20 < x.fEvent.fArgs.length := ⟨_, List.getElem_mem hlt, by omega⟩
      simp [hlt, q2, q3]
  · have hge2 : ¬ k < l.length := by omega
    have := all_yes (p := fun m : TMsg => decide (m.fEvent.fArgs.length ≤ 20)) fun j hj => hinv j hj (by omega)
    simp only [List.all_eq_true, decide_eq_true_eq] at this
    simp [hge2]
    exact this
end Go.Proofs.Ytnnpahcanpakcaa
