/- Chapter 41: where two logs differ, over any program that has the text. -/
import Derived.Test.YtacfckmhnnhllaaE5
import Derived.Test.YtacfckmhnnhllaaE7
namespace Go.Proofs.Ytacfckmhnnhllaa
open Go.AL
variable {P : Program} [h : Facts P]

def dif : List TEvent → List TEvent → Nat → Int
  | [], [], _ => -1
  | [], _ :: _, n => n
  | _ :: _, [], n => n
  | x :: a, y :: b, n => if x = y then dif a b (n + 1) else n
def difZ (a b : List TEvent) : Int := dif a b 0
theorem dif_eq {x y : TEvent} {a b : List TEvent} {n : Nat} (q : x = y) : dif (x :: a) (y :: b) n = dif a b (n + 1) := by rw [dif, if_pos q]
theorem dif_ne {x y : TEvent} {a b : List TEvent} {n : Nat} (q : ¬ x = y) : dif (x :: a) (y :: b) n = n := by rw [dif, if_neg q]
theorem dif_end {a b : List TEvent} {k : Nat} (hk : k = min a.length b.length) : dif (a.drop k) (b.drop k) k = if a.length = b.length then (-1 : Int) else ((min a.length b.length : Nat) : Int) := by
  by_cases e : a.length = b.length
  · rw [if_pos e, List.drop_of_length_le (by omega), List.drop_of_length_le (by omega), dif]
  · rw [if_neg e, ← hk]
    rcases Nat.lt_or_ge a.length b.length with q | q
    · rw [List.drop_of_length_le (by omega), List.drop_eq_getElem_cons (by omega), dif]
    · rw [List.drop_of_length_le (l := b) (by omega), List.drop_eq_getElem_cons (by omega), dif]
theorem evB_no {x y : TEvent} (q : ¬ x = y) : evB x y = false := by
  cases hh : evB x y
  · rfl
  · exact absurd ((evB_eq x y).1 hh) q
theorem evB_yes {x y : TEvent} (q : x = y) : evB x y = true := (evB_eq x y).2 q
theorem args_ok {l : List TEvent} (hl : ∀ e ∈ l, e.ok) : ∀ e ∈ l, e.fArgs.length ≤ 9223372036854775807 := fun e he => by
  obtain ⟨_, _, _, _, _, _, _, _, q⟩ := hl e he
  exact q.1
set_option maxHeartbeats 2000000 in
theorem c_Differ (a b : TLog) (ha : a.ok) (hb : b.ok) : FCall P 17 [.agg a.cells, .agg b.cells] (fun r => r = .int .i64 (difZ a.fEvents b.fEvents)) := by
  refine fcall_ofB [5] h.f17 rfl (by decide) h.mo (by kernel_rfl) fun X hX => ?_
  obtain ⟨⟨hal, hao⟩, _, _⟩ := ha
  obtain ⟨⟨hbl, hbo⟩, _, _⟩ := hb
  obtain ⟨ea, ra⟩ := a
  obtain ⟨eb, rb⟩ := b
  simp only at hal hao hbl hbo ⊢
  have hm : min (ea.length : Int) (eb.length : Int) = ((min ea.length eb.length : Nat) : Int) := by omega
  obtain ⟨m, hmm⟩ : ∃ m, m = min ea.length eb.length := ⟨_, rfl⟩
  rw [← hmm] at hm
  simp [hm]
  refine awp_loop (σ := Nat) (fun k => (⟨[.any, .any, .pto 0 2 0 0, .pto 1 2 0 0, .any, .int .i64 m, .any, .any, .any, .any, .any, .any, .any, .any, .int .i64 m, .int .i64 k, .any, .any, .any, .any, .any, .any, .any, .any, .any, .any, .any, .any, .any, .any, .any, .any, .any, .any, .any, .any, .any, .any, .any, .any], [⟨25, 2, [.agg (⟨ea, ra⟩ : TLog).cells], 0, true⟩, ⟨25, 2, [.agg (⟨eb, rb⟩ : TLog).cells], 0, true⟩]⟩ : S)) (fun k => k ≤ m ∧ difZ ea eb = dif (ea.drop k) (eb.drop k) k) (fun k => m - k) 0 (Wk.ren 0 [0, 1] hX rfl (by decide) (by simp) (by simp) (by simp) (by simp)) ⟨by simp, by simp [difZ]⟩ ?_
  rintro k ⟨hk, hinv⟩
  refine vcB_sound [5] h.mo _ _ _ (by kernel_rfl) ?_
  rcases Nat.lt_or_ge k m with hlt | hge
  · have hk1 := wrap_succ hlt (by omega)
    have hka : k < ea.length := by omega
    have hkb : k < eb.length := by omega
    rw [List.drop_eq_getElem_cons hka, List.drop_eq_getElem_cons hkb] at hinv
    have hlti : (k : Int) < (m : Int) := by omega
    simp [hlti]
    refine awp_quiet [0, 1, 2, 3, 4, 5, 6, 7, 8, 9, 10, 11] _ h.mo (by kernel_rfl) (by decide) (by kernel_rfl) (by rfl) ?_
    simp [hka, hkb]
    refine ⟨_, c_Same ea[k] eb[k] (args_ok hao _ (List.getElem_mem hka)), ?_⟩
    by_cases q : ea[k] = eb[k]
    · rw [dif_eq q] at hinv
      simp [evB_yes q]
      exact ⟨k + 1, Wk.ren 0 [0, 1] hX rfl (by decide) (by simp [hk1]) (by simp) (by simp) (by simp), ⟨by omega, hinv⟩, by omega⟩
    · rw [dif_ne q] at hinv
      simp [evB_no q, hinv]
  · have hkm : k = m := by omega
    subst hkm
    rw [dif_end hmm, ← hmm] at hinv
    by_cases e : ea.length = eb.length
    · have ei : (ea.length : Int) = (eb.length : Int) := by omega
      rw [if_pos e] at hinv
      simp [e, hinv]
    · have ei : ¬ (ea.length : Int) = (eb.length : Int) := by omega
      rw [if_neg e] at hinv
      simp [ei, hinv]
set_option maxHeartbeats 2000000 in
theorem c_RDiffer (a b : TLog) (ha : a.ok) (hb : b.ok) : FCall P 18 [.agg a.cells, .agg b.cells] (fun r => r = .int .i64 (difZ a.fEvents b.fEvents)) := by
  refine fcall_ofB [4] h.f18 rfl (by decide) h.mo (by kernel_rfl) fun X hX => ?_
  obtain ⟨⟨hal, hao⟩, _, _⟩ := ha
  obtain ⟨⟨hbl, hbo⟩, _, _⟩ := hb
  obtain ⟨ea, ra⟩ := a
  obtain ⟨eb, rb⟩ := b
  simp only at hal hao hbl hbo ⊢
  have hm : min (ea.length : Int) (eb.length : Int) = ((min ea.length eb.length : Nat) : Int) := by omega
  obtain ⟨m, hmm⟩ : ∃ m, m = min ea.length eb.length := ⟨_, rfl⟩
  rw [← hmm] at hm
  simp
  refine awp_loop (σ := Nat) (fun k => (⟨[.any, .any, .pto 0 2 0 0, .pto 1 2 0 0, .any, .int .i64 k, .any, .any, .any, .any, .any, .any, .any, .any, .any, .any, .any, .any, .any, .any, .any, .any, .any, .any, .any, .any, .any, .any, .any, .any, .any, .any, .any, .any, .any, .any, .any, .any, .any, .any, .any, .any, .any, .any, .any, .any, .any], [⟨25, 2, [.agg (⟨ea, ra⟩ : TLog).cells], 0, true⟩, ⟨25, 2, [.agg (⟨eb, rb⟩ : TLog).cells], 0, true⟩]⟩ : S)) (fun k => k ≤ m ∧ difZ ea eb = dif (ea.drop k) (eb.drop k) k) (fun k => m - k) 0 (Wk.ren 0 [0, 1] hX rfl (by decide) (by simp) (by simp) (by simp) (by simp)) ⟨by simp, by simp [difZ]⟩ ?_
  rintro k ⟨hk, hinv⟩
  refine vcB_sound [4] h.mo _ _ _ (by kernel_rfl) ?_
  rcases Nat.lt_or_ge k m with hlt | hge
  · have hk1 := wrap_succ hlt (by omega)
    have hka : k < ea.length := by omega
    have hkb : k < eb.length := by omega
    rw [List.drop_eq_getElem_cons hka, List.drop_eq_getElem_cons hkb] at hinv
    simp [hka, hkb]
    refine awp_quiet [0, 1, 2, 3, 4, 5, 6, 7, 8, 9, 10, 11] _ h.mo (by kernel_rfl) (by decide) (by kernel_rfl) (by rfl) ?_
    simp [hka, hkb]
    refine ⟨_, c_RSame ea[k] eb[k] (args_ok hao _ (List.getElem_mem hka)), ?_⟩
    by_cases q : ea[k] = eb[k]
    · rw [dif_eq q] at hinv
      simp [evB_yes q]
      exact ⟨k + 1, Wk.ren 0 [0, 1] hX rfl (by decide) (by simp [hk1]) (by simp) (by simp) (by simp), ⟨by omega, hinv⟩, by omega⟩
    · rw [dif_ne q] at hinv
      simp [evB_no q, hinv]
  · have hkm : k = m := by omega
    subst hkm
    rw [dif_end hmm, ← hmm] at hinv
    by_cases hka : k < ea.length
    case' pos =>
      have hkb : ¬ k < eb.length := by omega
      have e : ¬ ea.length = eb.length := by omega
      have ei : ¬ (ea.length : Int) = (eb.length : Int) := by omega
      rw [if_neg e] at hinv
      simp [hka, hkb, ei, hm, hinv]
    case' neg =>
      by_cases e : ea.length = eb.length
      · have ei : (ea.length : Int) = (eb.length : Int) := by omega
        have hkb : ¬ k < eb.length := by omega
        rw [if_pos e] at hinv
        simp [hkb, e, hinv]
      · have ei : ¬ (ea.length : Int) = (eb.length : Int) := by omega
        rw [if_neg e] at hinv
        simp [hka, ei, hm, hinv]
end Go.Proofs.Ytacfckmhnnhllaa
