/- Chapter 37: the reference's Push, and Sends of both, over any program that has the text. -/
import Derived.Test.YtbefchnpilmajaaE14
namespace Go.Proofs.Ytbefchnpilmajaa
open Go.AL
variable {P : Program} [h : Facts P]

def evsOf (l : List TPast) : List TEvent := l.flatMap fun x => x.fSends
theorem evsOf_succ {l : List TPast} {k : Nat} (hk : k < l.length) : evsOf (l.take (k + 1)) = evsOf (l.take k) ++ l[k].fSends := by
  unfold evsOf
  rw [List.take_succ_eq_append_getElem hk, List.flatMap_append]
  simp [-List.take_append_getElem]
@[simp] theorem evsOf_nil : evsOf [] = [] := rfl
/-- The messages fit into memory. -/
def fitS (l : List TPast) : Prop := l.length ≤ 9223372036854775807 ∧ (evsOf l).length ≤ 100000000000
theorem evsOf_le {l : List TPast} {k : Nat} : (evsOf (l.take k)).length ≤ (evsOf l).length := by
  have : evsOf l = evsOf (l.take k) ++ evsOf (l.drop k) := by
    unfold evsOf; rw [← List.flatMap_append, List.take_append_drop]
  rw [this]; simp

theorem c_Sends (l : List TPast) (hl : fitS l) : FCall P 24 [Ls false l] (fun r => r = Ls false (evsOf l)) := by
  refine fcall_of h.f24 rfl (by decide) h.mo (by kernel_rfl) fun X hX => ?_
  simp
  obtain ⟨hl, hf⟩ := hl
  refine awp_loop (σ := Nat) (fun k => (⟨[Ls false l, .any, .any, B 0 (evsOf (l.take k)), .any, .any, Ls false l, .int .i64 l.length, .int .i64 k, .any, .any, .any, .any, .any, .any, .any, .any, .any], [RW 26 (evsOf (l.take k))]⟩ : S)) (fun k => k ≤ l.length) (fun k => l.length - k) 0 (Wk.ren 0 [0] hX rfl (by decide) (by simp [evsOf_nil]) (by simp) (by simp) (by simp [evsOf_nil])) (by omega) ?_
  rintro k hk
  refine vc_sound h.mo _ _ _ (by kernel_rfl) ?_
  rcases Nat.lt_or_ge k l.length with hlt | hge
  · have hk1 : IntKind.i64.wrap ((k : Int) + 1) = ((k + 1 : Nat) : Int) := by rw [i64_id (by omega) (by omega)]; omega
    have e := evsOf_succ hlt
    have hle := evsOf_le (l := l) (k := k + 1)
    have hle0 := evsOf_le (l := l) (k := k)
    obtain ⟨x, hx⟩ : ∃ x, l[k] = x := ⟨_, rfl⟩
    rw [hx] at e
    obtain ⟨m, hm⟩ : ∃ m, evsOf (l.take k) = m := ⟨_, rfl⟩
    rw [hm] at e hle0 ⊢
    simp [hlt, hx]
    rw [e, List.length_append] at hle
    refine ⟨⟨by omega, by omega⟩, ?_⟩
    exact ⟨k + 1, Wk.ren 0 [2] hX rfl (by decide) (by simp [hk1, e]) (by simp) (by simp) (by simp [e]), by omega, by omega⟩
  · simp [hge]
    have : k = l.length := by omega
    subst this
    simp

theorem c_RSends (l : List TPast) (hl : fitS l) : FCall P 25 [Ls false l] (fun r => r = Ls false (evsOf l)) := by
  refine fcall_of h.f25 rfl (by decide) h.mo (by kernel_rfl) fun X hX => ?_
  simp
  obtain ⟨hl, hf⟩ := hl
  refine awp_loop (σ := Nat) (fun k => (⟨[Ls false l, .any, .any, B 0 (evsOf (l.take k)), .int .i64 k, .any, .any, .any, .any, .any, .any, .any, .any, .any, .any, .any, .any, .any, .any], [RW 26 (evsOf (l.take k))]⟩ : S)) (fun k => k ≤ l.length) (fun k => l.length - k) 0 (Wk.ren 0 [0] hX rfl (by decide) (by simp [evsOf_nil]) (by simp) (by simp) (by simp [evsOf_nil])) (by omega) ?_
  rintro k hk
  refine vc_sound h.mo _ _ _ (by kernel_rfl) ?_
  rcases Nat.lt_or_ge k l.length with hlt | hge
  · have hk1 : IntKind.i64.wrap ((k : Int) + 1) = ((k + 1 : Nat) : Int) := by rw [i64_id (by omega) (by omega)]; omega
    have e := evsOf_succ hlt
    have hle := evsOf_le (l := l) (k := k + 1)
    have hle0 := evsOf_le (l := l) (k := k)
    obtain ⟨x, hx⟩ : ∃ x, l[k] = x := ⟨_, rfl⟩
    rw [hx] at e
    obtain ⟨m, hm⟩ : ∃ m, evsOf (l.take k) = m := ⟨_, rfl⟩
    rw [hm] at e hle0 ⊢
    simp [hlt, hx]
    rw [e, List.length_append] at hle
    refine ⟨⟨by omega, by omega⟩, ?_⟩
    exact ⟨k + 1, Wk.ren 0 [1] hX rfl (by decide) (by simp [hk1, e]) (by simp) (by simp) (by simp [e]), by omega, by omega⟩
  · simp [hge]
    have : k = l.length := by omega
    subst this
    simp
end Go.Proofs.Ytbefchnpilmajaa
