/- Chapter 41: the check of an event, over any program that has the text. -/
import Derived.Test.YtacfckmhnnhllaaE4
namespace Go.Proofs.Ytacfckmhnnhllaa
open Go.AL
variable {P : Program} [h : Facts P]

def wthB (n m : Int) : Bool := decide (0 ≤ n) && decide (n ≤ m)
def inB (n : Int) : Bool := decide (-1000000000000 ≤ n) && decide (n ≤ 1000000000000)
theorem c_within (n m : Int) : FCall P 47 [.int .i64 n, .int .i64 m] (fun r => r = .bool (wthB n m)) := by
  refine fcall_of h.f47 rfl (by decide) h.mo (by kernel_rfl) fun X hX => ?_
  by_cases h1 : 0 ≤ n <;> by_cases h2 : n ≤ m <;> simp [wthB, h1, h2]
theorem c_Rwithin (n m : Int) : FCall P 51 [.int .i64 n, .int .i64 m] (fun r => r = .bool (wthB n m)) := by
  refine fcall_of h.f51 rfl (by decide) h.mo (by kernel_rfl) fun X hX => ?_
  by_cases h1 : 0 ≤ n <;> by_cases h2 : n ≤ m <;> simp [wthB, h1, h2]
theorem c_In (n : Int) : FCall P 48 [.int .i64 n] (fun r => r = .bool (inB n)) := by
  refine fcall_of h.f48 rfl (by decide) h.mo (by kernel_rfl) fun X hX => ?_
  by_cases h1 : -1000000000000 ≤ n <;> by_cases h2 : n ≤ 1000000000000 <;> simp [inB, h1, h2]
theorem c_RIn (n : Int) : FCall P 52 [.int .i64 n] (fun r => r = .bool (inB n)) := by
  refine fcall_of h.f52 rfl (by decide) h.mo (by kernel_rfl) fun X hX => ?_
  by_cases h1 : -1000000000000 ≤ n <;> by_cases h2 : n ≤ 1000000000000 <;> simp [inB, h1, h2]
def rngB (e : TEvent) : Bool := wthB e.fTime 1000000000 && (wthB e.fPrio 100 && (wthB e.fFrom 15 && (wthB e.fSite 15 && (wthB e.fSeq 1000000000000 && (wthB e.fA 1000000000000 && wthB e.fB 1000000000000)))))
def evtZ (e : TEvent) : Int := if rngB e = false then 2 else if e.fKind < 1 ∨ 5 < e.fKind then 1 else if 6 < e.fArgs.length then 6 else if e.fArgs.all inB = true then 0 else 2
theorem args_no {l : List Int} {k : Nat} (hk : k < l.length) (g : inB l[k] = false) : l.all inB = false := by
  rw [List.all_eq_false]
  exact ⟨_, List.getElem_mem hk, by rw [g]; decide⟩
set_option maxHeartbeats 2000000 in
theorem c_Event (e : TEvent) (hl : e.fArgs.length ≤ 9223372036854775807) : FCall P 27 [.agg e.cells] (fun r => r = .int .i64 (evtZ e)) := by
  refine fcall_of h.f27 rfl (by decide) h.mo (by kernel_rfl) fun X hX => ?_
  obtain ⟨tm, pr, fr, sq, st, kd, a, b, ag⟩ := e
  simp only at hl
  unfold evtZ rngB
  simp only
  generalize hav : ag.all inB = av
  simp
  refine xcall_fn (c_within tm 1000000000) (by simp) ?_
  cases w1 : wthB tm 1000000000
  · simp
  simp
  refine xcall_fn (c_within pr 100) (by simp) ?_
  cases w2 : wthB pr 100
  · simp
  simp
  refine xcall_fn (c_within fr 15) (by simp) ?_
  cases w3 : wthB fr 15
  · simp
  simp
  refine xcall_fn (c_within st 15) (by simp) ?_
  cases w4 : wthB st 15
  · simp
  simp
  refine xcall_fn (c_within sq 1000000000000) (by simp) ?_
  cases w5 : wthB sq 1000000000000
  · simp
  simp
  refine xcall_fn (c_within a 1000000000000) (by simp) ?_
  cases w6 : wthB a 1000000000000
  · simp
  simp
  refine xcall_fn (c_within b 1000000000000) (by simp) ?_
  cases w7 : wthB b 1000000000000
  · simp
  by_cases k1 : kd < 1
  · simp [k1]
  by_cases k2 : 5 < kd
  · simp [k1, k2]
  by_cases g6 : 6 < ag.length
  · have g6i : (6 : Int) < (ag.length : Int) := by omega
    simp [k1, k2, g6, g6i]
  have g6i : ¬ (6 : Int) < (ag.length : Int) := by omega
  simp [k1, k2, g6, g6i]
  refine awp_loop (σ := Nat) (fun k => (⟨[.any, .any, .any, .any, .any, .any, .any, .any, .any, .any, .any, .any, .any, .any, .any, .any, .any, .any, .any, .any, .any, .any, .any, .any, .any, .any, .any, .any, .any, .any, .any, .any, .any, .any, .any, .any, .any, .any, .any, .any, .any, .any, .any, .any, .any, .any, .any, .any, .any, .any, Ls false ag, .int .i64 ag.length, .int .i64 k, .any, .any, .any, .any, .any, .any, .any], []⟩ : S)) (fun k => k ≤ ag.length ∧ ∀ j (hj : j < ag.length), j < k → inB ag[j] = true) (fun k => ag.length - k) 0 (Wk.ren 0 [] hX rfl (by decide) (by simp) (by simp) (by simp) (by simp)) ⟨by omega, by simp⟩ ?_
  rintro k ⟨hk, hinv⟩
  refine vc_sound h.mo _ _ _ (by kernel_rfl) ?_
  rcases Nat.lt_or_ge k ag.length with hlt | hge
  · have hk1 := wrap_succ hlt hl
    simp [hlt]
    refine xcall_fn (c_In ag[k]) (by simp) ?_
    cases gi : inB ag[k]
    · have : av = false := by rw [← hav]; exact args_no hlt gi
      simp [this]
    · simp
      exact ⟨k + 1, Wk.ren 0 [] hX rfl (by decide) (by simp [hk1]) (by simp) (by simp) (by simp), ⟨by omega, step_all hinv hlt gi⟩, by omega⟩
  · have hkl : k = ag.length := by omega
    subst hkl
    have : av = true := by rw [← hav]; exact all_yes fun j hj => hinv j hj hj
    simp [this]
set_option maxHeartbeats 2000000 in
theorem c_REvent (e : TEvent) (hl : e.fArgs.length ≤ 9223372036854775807) : FCall P 31 [.agg e.cells] (fun r => r = .int .i64 (evtZ e)) := by
  refine fcall_of h.f31 rfl (by decide) h.mo (by kernel_rfl) fun X hX => ?_
  obtain ⟨tm, pr, fr, sq, st, kd, a, b, ag⟩ := e
  simp only at hl
  unfold evtZ rngB
  simp only
  generalize hav : ag.all inB = av
  simp
  refine xcall_fn (c_Rwithin tm 1000000000) (by simp) ?_
  cases w1 : wthB tm 1000000000
  · simp
  simp
  refine xcall_fn (c_Rwithin pr 100) (by simp) ?_
  cases w2 : wthB pr 100
  · simp
  simp
  refine xcall_fn (c_Rwithin fr 15) (by simp) ?_
  cases w3 : wthB fr 15
  · simp
  simp
  refine xcall_fn (c_Rwithin st 15) (by simp) ?_
  cases w4 : wthB st 15
  · simp
  simp
  refine xcall_fn (c_Rwithin sq 1000000000000) (by simp) ?_
  cases w5 : wthB sq 1000000000000
  · simp
  simp
  refine xcall_fn (c_Rwithin a 1000000000000) (by simp) ?_
  cases w6 : wthB a 1000000000000
  · simp
  simp
  refine xcall_fn (c_Rwithin b 1000000000000) (by simp) ?_
  cases w7 : wthB b 1000000000000
  · simp
  by_cases k1 : kd < 1
  · simp [k1]
  by_cases k2 : 5 < kd
  · simp [k1, k2]
  by_cases g6 : 6 < ag.length
  · have g6i : (6 : Int) < (ag.length : Int) := by omega
    simp [k1, k2, g6, g6i]
  have g6i : ¬ (6 : Int) < (ag.length : Int) := by omega
  simp [k1, k2, g6, g6i]
  refine awp_loop (σ := Nat) (fun k => (⟨[.any, .pto 0 9 0 0, .any, .int .i64 k, .any, .any, .any, .any, .any, .any, .any, .any, .any, .any, .any, .any, .any, .any, .any, .any, .any, .any, .any, .any, .any, .any, .any, .any, .any, .any, .any, .any, .any, .any, .any, .any, .any, .any, .any, .any, .any, .any, .any, .any, .any, .any, .any, .any, .any, .any, .any, .any, .any, .any, .any, .any, .any, .any, .any, .any, .any, .any, .any, .any, .any, .any, .any, .any, .any, .any], [⟨44, 9, [.agg (⟨tm, pr, fr, sq, st, kd, a, b, ag⟩ : TEvent).cells], 0, true⟩]⟩ : S)) (fun k => k ≤ ag.length ∧ ∀ j (hj : j < ag.length), j < k → inB ag[j] = true) (fun k => ag.length - k) 0 (Wk.ren 0 [0] hX rfl (by decide) (by simp) (by simp) (by simp) (by simp)) ⟨by omega, by simp⟩ ?_
  rintro k ⟨hk, hinv⟩
  refine vc_sound h.mo _ _ _ (by kernel_rfl) ?_
  rcases Nat.lt_or_ge k ag.length with hlt | hge
  · have hk1 := wrap_succ hlt hl
    simp [hlt]
    refine xcall_fn (c_RIn ag[k]) (by simp) ?_
    cases gi : inB ag[k]
    · have : av = false := by rw [← hav]; exact args_no hlt gi
      simp [this]
    · simp
      exact ⟨k + 1, Wk.ren 0 [0] hX rfl (by decide) (by simp [hk1]) (by simp) (by simp) (by simp), ⟨by omega, step_all hinv hlt gi⟩, by omega⟩
  · have hkl : k = ag.length := by omega
    subst hkl
    have : av = true := by rw [← hav]; exact all_yes fun j hj => hinv j hj hj
    simp [this]
end Go.Proofs.Ytacfckmhnnhllaa
