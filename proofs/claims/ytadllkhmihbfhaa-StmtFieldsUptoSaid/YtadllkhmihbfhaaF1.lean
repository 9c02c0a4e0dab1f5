/- Chapter 10: expressions: equality, over any program that has the text. -/
import Derived.Test.YtadllkhmihbfhaaC1
namespace Go.Proofs.Ytadllkhmihbfhaa
open Go.AL
variable {P : Program} [h : Facts P]

noncomputable def sameB (a b : TExpr) : Bool := @decide (a = b) (Classical.propDecidable _)
theorem sameB_iff {a b : TExpr} : sameB a b = true ↔ a = b := by unfold sameB; exact @decide_eq_true_iff (a = b) (Classical.propDecidable _)
theorem sameB_no {a b : TExpr} (hn : a ≠ b) : sameB a b = false := by
  cases q : sameB a b
  · rfl
  · exact absurd (sameB_iff.1 q) hn
theorem sameB_self (a : TExpr) : sameB a a = true := sameB_iff.2 rfl
theorem take_eq_all {α : Type} {a b : List α} (hl : a.length = b.length) (ht : a.take a.length = b.take a.length) : a = b := by
  rw [List.take_length, List.take_of_length_le (by omega)] at ht
  exact ht
theorem take_step {α : Type} {a b : List α} {k : Nat} (ha : k < a.length) (hb : k < b.length) (ht : a.take k = b.take k) (he : a[k] = b[k]) : a.take (k + 1) = b.take (k + 1) := by
  rw [List.take_succ_eq_append_getElem ha, List.take_succ_eq_append_getElem hb, ht, he]
theorem take_no {α : Type} {a b : List α} {k : Nat} (ha : k < a.length) (hb : k < b.length) (he : a[k] ≠ b[k]) : a ≠ b := by
  rintro rfl
  exact he rfl
set_option maxHeartbeats 1000000 in
theorem c_Same : ∀ (a : TExpr), a.ok → ∀ (b : TExpr), FCall P 50 [.agg a.cells, .agg b.cells] (fun r => r = .bool (sameB a b)) := by
  refine TExpr.ind fun e ih => ?_
  intro hok b
  obtain ⟨_, _, _, _, hkl, hko⟩ := hok
  obtain ⟨op, nm, n, ks⟩ := e
  obtain ⟨op2, nm2, n2, ks2⟩ := b
  simp only at hkl hko ih
  refine fcall_ofB [6] h.f50 rfl (by decide) h.mo (by kernel_rfl) fun X hX => ?_
  by_cases q1 : op = op2
  case neg =>
    rw [sameB_no (by simp [q1])]
    simp [q1]
  by_cases q2 : nm = nm2
  case neg =>
    rw [sameB_no (by simp [q2])]
    simp [eq_true q1, q2]
  by_cases q3 : n = n2
  case neg =>
    rw [sameB_no (by simp [q3])]
    simp [eq_true q1, eq_true q2, q3]
  by_cases q4 : ks.length = ks2.length
  case neg =>
    have q4' : ¬ (ks.length : Int) = (ks2.length : Int) := by omega
    rw [sameB_no (by simp only [ne_eq, TExpr.mk.injEq, not_and]; intro _ _ _ q; exact q4 (by rw [q]))]
    simp [eq_true q1, eq_true q2, eq_true q3, q4']
  have q4' : (ks.length : Int) = (ks2.length : Int) := by omega
  simp [eq_true q1, eq_true q2, eq_true q3, eq_true q4']
  refine awp_loop (σ := Nat) (fun k => (⟨[.any, .any, .any, .pto 1 4 0 0, .any, .any, .any, .any, .any, .any, .any, .any, .any, .any, .any, .any, .any, .any, .any, .any, .any, .any, .any, .any, .any, .any, .any, .any, .any, .any, .any, .any, .any, .any, .any, .any, Ls false ks, .int .i64 ks.length, .int .i64 k, .any, .any, .any, .any, .any, .any, .any, .any, .any, .any, .any, .any, .any], [⟨41, 4, [.agg (⟨op, nm, n, ks⟩ : TExpr).cells], 0, true⟩, ⟨41, 4, [.agg (⟨op2, nm2, n2, ks2⟩ : TExpr).cells], 0, true⟩]⟩ : S)) (fun k => k ≤ ks.length ∧ ks.take k = ks2.take k) (fun k => ks.length - k) 0 (Wk.ren 0 [0, 1] hX rfl (by decide) (by simp) (by simp) (by simp) (by simp)) ⟨by simp, by simp⟩ ?_
  rintro k ⟨hk, hinv⟩
  refine vcB_sound [6] h.mo _ _ _ (by kernel_rfl) ?_
  rcases Nat.lt_or_ge k ks.length with hlt | hge
  · have hlt2 : k < ks2.length := by omega
    have hk1 := wrap_succ hlt hkl
    have hmem := List.getElem_mem hlt
    simp [hlt]
    refine awp_quiet [0, 1, 2, 3, 4, 5, 6, 7] _ h.mo (by kernel_rfl) (by decide) (by kernel_rfl) (by rfl) ?_
    simp [hlt2]
    refine ⟨_, ih ks[k] hmem (hko _ hmem) ks2[k], ?_⟩
    by_cases q5 : ks[k] = ks2[k]
    · rw [q5, sameB_self]
      simp
      exact ⟨k + 1, Wk.ren 0 [0, 1] hX rfl (by decide) (by simp [hk1]) (by simp) (by simp) (by simp), ⟨by omega, take_step hlt hlt2 hinv q5⟩, by omega⟩
    · rw [sameB_no q5]
      simp
      rw [sameB_no (by simp only [ne_eq, TExpr.mk.injEq, not_and]; intro _ _ _ q; exact take_no hlt hlt2 q5 q)]
  · have hkl : k = ks.length := by omega
    subst hkl
    have hall := take_eq_all q4 hinv
    rw [q1, q2, q3, hall, sameB_self]
    simp
noncomputable def sameLB (a b : List TExpr) : Bool := @decide (a = b) (Classical.propDecidable _)
theorem sameLB_iff {a b : List TExpr} : sameLB a b = true ↔ a = b := by unfold sameLB; exact @decide_eq_true_iff (a = b) (Classical.propDecidable _)
theorem sameLB_no {a b : List TExpr} (hn : a ≠ b) : sameLB a b = false := by
  cases q : sameLB a b
  · rfl
  · exact absurd (sameLB_iff.1 q) hn
theorem sameLB_self (a : List TExpr) : sameLB a a = true := sameLB_iff.2 rfl
theorem c_SameAllOf (a b : List TExpr) (hl : a.length ≤ 9223372036854775807) (hs : ∀ x ∈ a, ∀ y, FCall P 39 [.agg x.cells, .agg y.cells] (fun r => r = .bool (sameB x y))) : FCall P 53 [Ls false a, Ls false b] (fun r => r = .bool (sameLB a b)) := by
  refine fcall_ofB [6] h.f53 rfl (by decide) h.mo (by kernel_rfl) fun X hX => ?_
  by_cases q4 : a.length = b.length
  case neg =>
    have q4' : ¬ (a.length : Int) = (b.length : Int) := by omega
    rw [sameLB_no (by intro q; exact q4 (by rw [q]))]
    simp [q4']
  have q4' : (a.length : Int) = (b.length : Int) := by omega
  simp [eq_true q4']
  refine awp_loop (σ := Nat) (fun k => (⟨[Ls false a, Ls false b, .any, .any, .any, .int .i64 k, .any, .any, .any, .any, .any, .any, .any, .any, .any, .any, .any, .any, .any, .any, .any, .any, .any, .any, .any, .any, .any], []⟩ : S)) (fun k => k ≤ a.length ∧ a.take k = b.take k) (fun k => a.length - k) 0 (Wk.ren 0 [] hX rfl (by decide) (by simp) (by simp) (by simp) (by simp)) ⟨by simp, by simp⟩ ?_
  rintro k ⟨hk, hinv⟩
  refine vcB_sound [6] h.mo _ _ _ (by kernel_rfl) ?_
  rcases Nat.lt_or_ge k a.length with hlt | hge
  · have hlt2 : k < b.length := by omega
    have hk1 := wrap_succ hlt hl
    have hmem := List.getElem_mem hlt
    simp [hlt]
    refine awp_quiet [0, 1, 2, 3, 4, 5, 6, 7, 8, 9] _ h.mo (by kernel_rfl) (by decide) (by kernel_rfl) (by rfl) ?_
    simp [hlt, hlt2]
    refine ⟨_, hs a[k] hmem b[k], ?_⟩
    by_cases q5 : a[k] = b[k]
    · rw [q5, sameB_self]
      simp
      exact ⟨k + 1, Wk.ren 0 [] hX rfl (by decide) (by simp [hk1]) (by simp) (by simp) (by simp), ⟨by omega, take_step hlt hlt2 hinv q5⟩, by omega⟩
    · rw [sameB_no q5]
      simp
      rw [sameLB_no (take_no hlt hlt2 q5)]
  · have hkl : k = a.length := by omega
    subst hkl
    have hall := take_eq_all q4 hinv
    rw [hall, sameLB_self]
    simp
theorem c_RSame : ∀ (a : TExpr), a.ok → ∀ (b : TExpr), FCall P 39 [.agg a.cells, .agg b.cells] (fun r => r = .bool (sameB a b)) := by
  refine TExpr.ind fun e ih => ?_
  intro hok b
  obtain ⟨_, _, _, _, hkl, hko⟩ := hok
  obtain ⟨op, nm, n, ks⟩ := e
  obtain ⟨op2, nm2, n2, ks2⟩ := b
  simp only at hkl hko ih
  refine fcall_of h.f39 rfl (by decide) h.mo (by kernel_rfl) fun X hX => ?_
  by_cases q1 : op = op2
  case neg =>
    rw [sameB_no (by simp [q1])]
    simp [q1]
  by_cases q2 : nm = nm2
  case neg =>
    rw [sameB_no (by simp [q2])]
    simp [eq_true q1, q2]
  by_cases q3 : n = n2
  case neg =>
    rw [sameB_no (by simp [q3])]
    simp [eq_true q1, eq_true q2, q3]
  have e1 : sameB ⟨op, nm, n, ks⟩ ⟨op2, nm2, n2, ks2⟩ = sameLB ks ks2 := by
    by_cases q : ks = ks2
    · rw [q1, q2, q3, q, sameB_self, sameLB_self]
    · rw [sameLB_no q, sameB_no (by simp only [ne_eq, TExpr.mk.injEq, not_and]; intro _ _ _; exact q)]
  rw [e1]
  simp [eq_true q1, eq_true q2, eq_true q3]
  refine xcall_fn (c_SameAllOf ks ks2 hkl fun x hx y => ih x hx (hko x hx) y) (by simp) ?_
  simp
end Go.Proofs.Ytadllkhmihbfhaa
