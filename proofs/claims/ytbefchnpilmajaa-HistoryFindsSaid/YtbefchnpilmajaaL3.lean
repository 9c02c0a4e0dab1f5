/- Chapter 37: the law HistoryFinds, over any program that has its text. -/
import Derived.Test.YtbefchnpilmajaaE10
import Derived.Test.YtbefchnpilmajaaL1
namespace Go.Proofs.Ytbefchnpilmajaa
open Go.AL
variable {P : Program} [h : Facts P]

theorem idxZ_some {p : TPast → Bool} {l : List TPast} {i : Nat} (hi : i < l.length) (hp : p l[i] = true) : 0 ≤ idxZ p l ∧ idxZ p l ≤ i := by
  have h1 : l.findIdx p ≤ i := by
    rcases Nat.lt_or_ge i (l.findIdx p) with h1 | h1
    · have := List.not_of_lt_findIdx h1
      rw [hp] at this; cases this
    · exact h1
  unfold idxZ
  rw [if_pos (by omega)]
  omega
theorem idxZ_cases (p : TPast → Bool) (l : List TPast) : idxZ p l = -1 ∨ ∃ n, ∃ (hn : n < l.length), idxZ p l = (n : Int) ∧ p l[n] = true := by
  unfold idxZ
  split
  · rename_i h1
    exact .inr ⟨_, h1, rfl, List.findIdx_getElem⟩
  · exact .inl rfl

set_option maxHeartbeats 2000000 in
set_option maxRecDepth 20000 in
theorem c_HistoryFinds (l : List TPast) (e : TEvent) (hl : l.length ≤ 9223372036854775807) (hok : ∀ y ∈ l, y.ok) : FCall P 5 [Ls false l, .agg e.cells] (fun r => r = .bool true) := by
  refine fcall_of h.f5 rfl (by decide) h.mo (by kernel_rfl) fun X hX => ?_
  simp
  refine xcall_fr (c_light l hl) (by simp) ?_
  rintro _ ⟨b, rfl, hb⟩
  cases b with
  | false =>
    simp
    refine xcall_fn c_awake (by simp) ?_
    simp
  | true =>
    have hfit : fitL l := ⟨hl, fun x hx => (hok x hx).1.2.2.2.2.2.2.2.2.1⟩
    simp
    refine xcall_fn (c_Find l e hfit) (by simp) ?_
    have hS := fun {i : Nat} (hi : i < l.length) => idxZ_some (p := fun x => evB x.fEvent e) hi
    have hC := idxZ_cases (fun x => evB x.fEvent e) l
    generalize idxZ (fun x => evB x.fEvent e) l = K at hS hC
    have hK : -1 ≤ K ∧ K < l.length := by
      rcases hC with h1 | ⟨n, hn, h1, _⟩ <;> omega
    have hK1 : ¬ K < -1 := by omega
    have hK2 : ¬ (l.length : Int) ≤ K := by omega
    have hP : ∀ (hk : K.toNat < l.length), 0 ≤ K → evB l[K.toNat].fEvent e = true := by
      intro hk h0
      rcases hC with h1 | ⟨n, hn, h1, h2⟩
      · omega
      · subst h1; exact h2
    clear hC hb
    simp [hK1, hK2]
    refine ⟨fun h0 => ?_, fun h0 => ?_⟩
    · have hk : K.toNat < l.length := by omega
      have hp := hP hk h0
      simp [h0, hk]
      refine ⟨_, ecall_of (c_RSame l[K.toNat].fEvent e (hfit.2 _ (List.getElem_mem hk))) (by simp), ?_⟩
      simp [hp]
      refine awp_loop (σ := Nat) (fun k => (⟨[Ls false l, .any, .any, .pto 0 9 0 0, .any, .int .i64 K, .int .i64 k, .any, .any, .any, .any, .any, .any, .any, .any, .any, .any, .any, .any, .any, .any, .any, .any, .any, .any, .any, .any, .any, .any, .any, .any, .any, .any, .any, .any, .any, .any, .any, .any, .any, .any, .any, .any, .any, .any, .any, .any, .any, .any, .any, .any, .any, .any, .any, .any, .any, .any, .any, .any, .any, .any, .any, .any, .any, .any, .any, .any, .any, .any, .any, .any, .any, .any, .any], [⟨26, 9, [.agg e.cells], 0, true⟩]⟩ : S)) (fun k => k ≤ l.length) (fun k => l.length - k) 0 (Wk.slots (by simp)) (by omega) ?_
      rintro k hk
      refine vc_sound h.mo _ _ _ (by kernel_rfl) ?_
      rcases Nat.lt_or_ge k l.length with hlt | hge
      · have hk1 := wrap_succ hlt hl
        obtain ⟨x, hx⟩ : ∃ x, l[k] = x := ⟨_, rfl⟩
        have hS1 := hS hlt
        have hm : x ∈ l := hx ▸ List.getElem_mem hlt
        have hI := idxZ_some (p := fun y => evB y.fEvent x.fEvent) hlt (by rw [hx]; exact (evB_eq _ _).2 rfl)
        rw [hx] at hS1
        have hI1 : ¬ idxZ (fun y => evB y.fEvent x.fEvent) l < 0 := by omega
        have hI2 : ¬ (k : Int) < idxZ (fun y => evB y.fEvent x.fEvent) l := by omega
        simp [hlt, hx]
        refine ⟨_, ecall_of (c_RSame x.fEvent e (hfit.2 _ hm)) (by simp), ?_⟩
        cases hb : evB x.fEvent e with
        | true =>
          obtain ⟨g1, g2⟩ := hS1 hb
          have g3 : ¬ K < 0 := by omega
          have g4 : ¬ (k : Int) < K := by omega
          simp [hlt, hx, g3, g4]
          refine xcall_fn (c_Find l x.fEvent hfit) (by simp) ?_
          simp [hI1, hI2]
          exact ⟨k + 1, Wk.ren 0 [0] hX rfl (by decide) (by simp [hk1]) (by simp) (by simp) (by simp), by omega, by omega⟩
        | false =>
          simp [hlt, hx]
          refine xcall_fn (c_Find l x.fEvent hfit) (by simp) ?_
          simp [hI1, hI2]
          exact ⟨k + 1, Wk.ren 0 [0] hX rfl (by decide) (by simp [hk1]) (by simp) (by simp) (by simp), by omega, by omega⟩
      · have hnl : ¬ k < l.length := by omega
        simp [hnl]
        refine xcall_fn c_awake (by simp) ?_
        simp
    · clear h0 hP hK1 hK2
      refine awp_loop (σ := Nat) (fun k => (⟨[Ls false l, .any, .any, .pto 0 9 0 0, .any, .int .i64 K, .int .i64 k, .any, .any, .any, .any, .any, .any, .any, .any, .any, .any, .any, .any, .any, .any, .any, .any, .any, .any, .any, .any, .any, .any, .any, .any, .any, .any, .any, .any, .any, .any, .any, .any, .any, .any, .any, .any, .any, .any, .any, .any, .any, .any, .any, .any, .any, .any, .any, .any, .any, .any, .any, .any, .any, .any, .any, .any, .any, .any, .any, .any, .any, .any, .any, .any, .any, .any, .any], [⟨26, 9, [.agg e.cells], 0, true⟩]⟩ : S)) (fun k => k ≤ l.length) (fun k => l.length - k) 0 (Wk.slots (by simp)) (by omega) ?_
      rintro k hk
      refine vc_sound h.mo _ _ _ (by kernel_rfl) ?_
      rcases Nat.lt_or_ge k l.length with hlt | hge
      · have hk1 := wrap_succ hlt hl
        obtain ⟨x, hx⟩ : ∃ x, l[k] = x := ⟨_, rfl⟩
        have hS1 := hS hlt
        have hm : x ∈ l := hx ▸ List.getElem_mem hlt
        have hI := idxZ_some (p := fun y => evB y.fEvent x.fEvent) hlt (by rw [hx]; exact (evB_eq _ _).2 rfl)
        rw [hx] at hS1
        have hI1 : ¬ idxZ (fun y => evB y.fEvent x.fEvent) l < 0 := by omega
        have hI2 : ¬ (k : Int) < idxZ (fun y => evB y.fEvent x.fEvent) l := by omega
        simp [hlt, hx]
        refine ⟨_, ecall_of (c_RSame x.fEvent e (hfit.2 _ hm)) (by simp), ?_⟩
        cases hb : evB x.fEvent e with
        | true =>
          obtain ⟨g1, g2⟩ := hS1 hb
          have g3 : ¬ K < 0 := by omega
          have g4 : ¬ (k : Int) < K := by omega
          simp [hlt, hx, g3, g4]
          refine xcall_fn (c_Find l x.fEvent hfit) (by simp) ?_
          simp [hI1, hI2]
          exact ⟨k + 1, Wk.ren 0 [0] hX rfl (by decide) (by simp [hk1]) (by simp) (by simp) (by simp), by omega, by omega⟩
        | false =>
          simp [hlt, hx]
          refine xcall_fn (c_Find l x.fEvent hfit) (by simp) ?_
          simp [hI1, hI2]
          exact ⟨k + 1, Wk.ren 0 [0] hX rfl (by decide) (by simp [hk1]) (by simp) (by simp) (by simp), by omega, by omega⟩
      · have hnl : ¬ k < l.length := by omega
        simp [hnl]
        refine xcall_fn c_awake (by simp) ?_
        simp
end Go.Proofs.Ytbefchnpilmajaa
