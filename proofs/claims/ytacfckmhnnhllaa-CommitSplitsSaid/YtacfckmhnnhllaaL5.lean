/- Chapter 41: the law Finds, over any program that has the text. -/
import Derived.Test.YtacfckmhnnhllaaL4
namespace Go.Proofs.Ytacfckmhnnhllaa
open Go.AL
variable {P : Program} [h : Facts P]

theorem dif_app : ∀ (a b : List TEvent) (n : Nat), dif a (a ++ b) n = if b = [] then -1 else ((n + a.length : Nat) : Int)
  | [], [], n => by simp [dif]
  | [], _ :: _, n => by simp [dif]
  | x :: a, b, n => by
    rw [List.cons_append, dif_eq rfl, dif_app a b, List.length_cons]
    split
    · rfl
    · congr 1; omega
theorem difZ_app (a b : List TEvent) : difZ a (a ++ b) = if b = [] then -1 else (a.length : Int) := by
  rw [difZ, dif_app, Nat.zero_add]
theorem ok_evs {l : List TEvent} (h1 : l.length ≤ 9223372036854775807) (h2 : ∀ e ∈ l, e.ok) : (⟨l, []⟩ : TLog).ok := ⟨⟨h1, h2⟩, by simp, by simp⟩
set_option maxHeartbeats 4000000 in
theorem c_CommitFinds (a b : List TEvent) (ha : a.length ≤ 9223372036854775807 ∧ ∀ e ∈ a, e.ok) (hb : b.length ≤ 9223372036854775807 ∧ ∀ e ∈ b, e.ok) : FCall P 5 [Ls false a, Ls false b] (fun r => r = .bool true) := by
  refine fcall_ofA h.f5 rfl (by decide) fun X hX => ?_
  refine awp_seq (vc_sound h.mo _ _ _ (by kernel_rfl) ?_)
  simp
  refine awp_cut2 (⟨[Ls false a, Ls false b, .any, .any, .bool false, .any, .any, .any, .any, .any, .any, .any, .any, .any, .any, .any, .any, .any, .any, .any, .any, .any, .any, .any, .any, .any, .any, .any, .any, .any, .any, .any, .any, .any, .any, .any, .any, .any, .any, .any, .any, .any, .any, .any, .any, .any, .any, .any, .any, .any, .any, .any, .any, .any], []⟩ : S) (a.length ≤ 200 ∧ b.length ≤ 200) (vc_sound h.mo _ _ _ (by kernel_rfl) ?_) ?_
  case refine_1 =>
    simp
    by_cases h1 : 200 < a.length
    · have h1i : (200 : Int) < (a.length : Int) := by omega
      have h1j : ¬ (a.length : Int) ≤ 200 := by omega
      simp [h1i, h1j]
      refine xcall_fn c_awake (by simp) ?_
      simp
    have h1i : ¬ (200 : Int) < (a.length : Int) := by omega
    have h1j : (a.length : Int) ≤ 200 := by omega
    simp [h1i, h1j]
    by_cases h2 : 200 < b.length
    · have h2i : (200 : Int) < (b.length : Int) := by omega
      have h2j : ¬ (b.length : Int) ≤ 200 := by omega
      simp [h2i, h2j]
      refine xcall_fn c_awake (by simp) ?_
      simp
    have h2i : ¬ (200 : Int) < (b.length : Int) := by omega
    have h2j : (b.length : Int) ≤ 200 := by omega
    simp [h2i, h2j]
    exact ⟨⟨by omega, by omega⟩, Wk.ren 0 [] hX rfl (by decide) (by simp) (by simp) (by simp) (by simp)⟩
  rintro ⟨n1, n2⟩
  have hc := ok_evs ha.1 ha.2
  have hd := ok_evs (l := a ++ b) (by rw [List.length_append]; omega) (fun e he => (List.mem_append.1 he).elim (ha.2 e) (hb.2 e))
  refine vc_sound h.mo _ _ _ (by kernel_rfl) ?_
  simp
  refine ⟨by omega, by omega, ?_⟩
  have hz := difZ_app a b
  refine xcall_fn (c_Differ ⟨a, []⟩ ⟨a ++ b, []⟩ hc hd) (by simp) ?_
  have hs : sameL ⟨a, []⟩ ⟨a ++ b, []⟩ = decide (b = []) := by
    unfold sameL
    refine decide_eq_decide.2 ⟨fun q => ?_, fun q => by simp [q]⟩
    have := congrArg List.length q.1
    simpa using this
  by_cases hb0 : b = []
  · subst hb0
    rw [if_pos rfl] at hz
    have hs' : sameL ⟨a, []⟩ ⟨a ++ [], []⟩ = true := by rw [hs]; rfl
    simp only [List.append_nil] at *
    simp [hz]
    refine xcall_fn (c_CSame ⟨a, []⟩ ⟨a, []⟩ hc hd) (by simp) ?_
    simp [hs']
    refine xcall_fn c_awake (by simp) ?_
    simp
  · rw [if_neg hb0] at hz
    have hb1 : b.length ≠ 0 := fun q => hb0 (List.length_eq_zero_iff.1 q)
    have hb2 : ¬ (b.length : Int) = 0 := by omega
    simp [hz, hb1]
    refine xcall_fn (c_CSame ⟨a, []⟩ ⟨a ++ b, []⟩ hc hd) (by simp) ?_
    simp [hs, hb0]
    refine xcall_fn c_awake (by simp) ?_
    simp
end Go.Proofs.Ytacfckmhnnhllaa
