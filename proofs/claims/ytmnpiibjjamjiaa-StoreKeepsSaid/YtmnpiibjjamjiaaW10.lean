/- Chapter 21: stores: Same, light, awake, over any program that has the text. -/
import Derived.Test.YtmnpiibjjamjiaaW9
namespace Go.Proofs.Ytmnpiibjjamjiaa
open Go.AL
variable {P : Program} [h : Facts P]

theorem c_sameInts (l : List (Int)) (hl : l.length ≤ 9223372036854775807) : FCall P 26 [Ls false l, Ls false l] (fun r => r = .bool true) := by
  refine fcall_of h.f26 rfl (by decide) h.mo (by kernel_rfl) fun X hX => ?_
  simp
  refine awp_loop (σ := Nat) (fun k => (⟨[Ls false l, Ls false l, .any, .any, .any, .int .i64 k, .any, .any, .any, .any, .any, .any, .any, .any, .any, .any, .any, .any, .any, .any, .any, .any, .any, .any, .any, .any], []⟩ : S)) (fun k => k ≤ l.length) (fun k => l.length - k) 0 (Wk.slots (by simp)) (by omega) ?_
  rintro k hk
  refine vc_sound h.mo _ _ _ (by kernel_rfl) ?_
  rcases Nat.lt_or_ge k l.length with hlt | hge
  · have hk1 := wrap_succ hlt hl
    simp [hlt]
    exact ⟨k + 1, Wk.ren 0 [] hX rfl (by decide) (by simp [hk1]) (by simp) (by simp) (by simp), by omega, by omega⟩
  · have hge2 : ¬ k < l.length := by omega
    simp [hge2]


theorem c_SameReady (l : List (TReady)) (hl : l.length ≤ 9223372036854775807) : FCall P 19 [Ls false l, Ls false l] (fun r => r = .bool true) := by
  refine fcall_of h.f19 rfl (by decide) h.mo (by kernel_rfl) fun X hX => ?_
  simp
  refine awp_loop (σ := Nat) (fun k => (⟨[Ls false l, Ls false l, .any, .any, .any, .int .i64 k, .any, .any, .any, .any, .any, .any, .any, .any, .any, .any, .any, .any, .any, .any, .any, .any, .any, .any, .any, .any], []⟩ : S)) (fun k => k ≤ l.length) (fun k => l.length - k) 0 (Wk.slots (by simp)) (by omega) ?_
  rintro k hk
  refine vc_sound h.mo _ _ _ (by kernel_rfl) ?_
  rcases Nat.lt_or_ge k l.length with hlt | hge
  · have hk1 := wrap_succ hlt hl
    simp [hlt]
    exact ⟨k + 1, Wk.ren 0 [] hX rfl (by decide) (by simp [hk1]) (by simp) (by simp) (by simp), by omega, by omega⟩
  · have hge2 : ¬ k < l.length := by omega
    simp [hge2]


theorem c_Same (s : TStore) (hs : fitS s) : FCall P 14 [.agg s.cells, .agg s.cells] (fun r => r = .bool true) := by
  refine fcall_of h.f14 rfl (by decide) h.mo (by kernel_rfl) fun X hX => ?_
  obtain ⟨d1, d2, d3⟩ := hs
  simp
  refine xcall_fn (c_sameInts s.fItems (by omega)) (by simp) ?_
  simp
  refine xcall_fn (c_SameReady s.fPutters (by omega)) (by simp) ?_
  simp
  refine xcall_fn (c_sameInts s.fGetters (by omega)) (by simp) ?_
  simp
def lightB (s : TStore) : Bool := decide (s.fItems.length ≤ 60) && decide (s.fPutters.length ≤ 60) && decide (s.fGetters.length ≤ 60)
theorem lightB_fit {s : TStore} (h : lightB s = true) : s.fItems.length ≤ 60 ∧ s.fPutters.length ≤ 60 ∧ s.fGetters.length ≤ 60 := by
  unfold lightB at h
  simp only [Bool.and_eq_true, decide_eq_true_eq] at h
  exact ⟨h.1.1, h.1.2, h.2⟩
theorem lightB_fitS {s : TStore} (h : lightB s = true) : fitS s := by
  obtain ⟨a, b, c⟩ := lightB_fit h
  exact ⟨by omega, by omega, by omega⟩
theorem c_light (s : TStore) : FCall P 8 [.agg s.cells] (fun r => r = .bool (lightB s)) := by
  refine fcall_of h.f8 rfl (by decide) h.mo (by kernel_rfl) fun X hX => ?_
  simp
  by_cases h1 : s.fItems.length ≤ 60
  case neg =>
    have h1' : ¬ (s.fItems.length : Int) ≤ 60 := by omega
    simp [h1', h1, lightB]
  have h1' : (s.fItems.length : Int) ≤ 60 := by omega
  by_cases h2 : s.fPutters.length ≤ 60
  case neg =>
    have h2' : ¬ (s.fPutters.length : Int) ≤ 60 := by omega
    simp [h1', h1, h2', h2, lightB]
  have h2' : (s.fPutters.length : Int) ≤ 60 := by omega
  by_cases h3 : s.fGetters.length ≤ 60
  case neg =>
    have h3' : ¬ (s.fGetters.length : Int) ≤ 60 := by omega
    simp [h1', h1, h2', h2, h3', h3, lightB]
  have h3' : (s.fGetters.length : Int) ≤ 60 := by omega
  simp [h1', h1, h2', h2, h3', h3, lightB]

def exS0 : TStore := ⟨1, 1, [], [], [], 0, 0⟩
def exS1 : TStore := ⟨1, 1, [7], [], [], 1, 0⟩
def exS2 : TStore := ⟨1, 1, [7], [⟨2, 8⟩], [], 1, 0⟩
def exS3 : TStore := ⟨1, 1, [8], [], [], 2, 1⟩
def exF : TStore := ⟨3, 3, [5, 3, 3], [], [], 3, 0⟩
set_option maxHeartbeats 2000000 in
set_option maxRecDepth 8000 in
theorem c_awake : FCall P 9 [] (fun r => r = .bool true) := by
  refine fcall_of h.f9 rfl (by decide) h.mo (by kernel_rfl) fun X hX => ?_
  have o1 := c_New (P := P) 1 1
  rw [show newS 1 1 = exS0 by decide, show newE 1 1 = 0 by decide] at o1
  have o2 := c_Put (P := P) exS0 1 7 (by simp [fitS, exS0])
  rw [show putS exS0 1 7 = exS1 by decide, show putB exS0 1 7 = true by decide, show putN exS0 1 7 = [] by decide, show entE exS0 1 7 = 0 by decide] at o2
  have o3 := c_Put (P := P) exS1 2 8 (by simp [fitS, exS1])
  rw [show putS exS1 2 8 = exS2 by decide, show putB exS1 2 8 = false by decide, show putN exS1 2 8 = [] by decide, show entE exS1 2 8 = 0 by decide] at o3
  have o4 := c_Get (P := P) exS2 3 (by simp [fitS, exS2])
  rw [show getS exS2 3 = exS3 by decide, show getB exS2 3 = true by decide, show getI exS2 3 = 7 by decide, show getN exS2 3 = [⟨2, 8⟩] by decide, show entE exS2 3 0 = 0 by decide] at o4
  have o5 := c_First (P := P) exF (by simp [fitS, exF])
  rw [show firstP exF = (1, true) by decide] at o5
  have o6 := c_New (P := P) 0 1
  rw [show newS 0 1 = zeroS by decide, show newE 0 1 = 2 by decide] at o6
  have o7 := c_Check (P := P) exS3 (by simp [fitS, exS3])
  rw [show chkS exS3 = 0 by decide] at o7
  simp
  refine xcall_fn o1 (by simp) ?_
  simp [exS0]
  refine xcall_fn o2 (by simp [exS0]) ?_
  simp [exS1]
  refine xcall_fn o3 (by simp [exS1]) ?_
  simp [exS2]
  refine xcall_fn o4 (by simp [exS2]) ?_
  simp (config := {maxSteps := 4000000}) [exS3]
  refine xcall_fn o5 (by simp [exF]) ?_
  simp
  refine xcall_fn o6 (by simp) ?_
  simp
  refine xcall_fn o7 (by simp [exS3]) ?_
  simp
end Go.Proofs.Ytmnpiibjjamjiaa
