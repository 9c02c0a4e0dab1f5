/- Chapter 41: equality of lists of integers, over any program that has the text. -/
import Derived.Test.YtacfckmhnnhllaaTy
namespace Go.Proofs.Ytacfckmhnnhllaa
open Go.AL
variable {P : Program} [h : Facts P]

theorem take_succ_eq {α : Type} [DecidableEq α] {a b : List α} {k : Nat} (ha : k < a.length) (hb : k < b.length) (e : a.take k = b.take k) (g : a[k] = b[k]) : a.take (k + 1) = b.take (k + 1) := by
  rw [List.take_succ_eq_append_getElem ha, List.take_succ_eq_append_getElem hb, e, g]
theorem ne_of_get {α : Type} {a b : List α} {k : Nat} (ha : k < a.length) (hb : k < b.length) (g : a[k] ≠ b[k]) : a ≠ b := by
  rintro rfl; exact g rfl
theorem eq_of_take {α : Type} {a b : List α} (hl : a.length = b.length) (e : a.take a.length = b.take a.length) : a = b := by
  rw [List.take_length, hl, List.take_length] at e; exact e

theorem c_Ints (a b : List Int) (hl : a.length ≤ 9223372036854775807) : FCall P 55 [Ls false a, Ls false b] (fun r => r = .bool (decide (a = b))) := by
  refine fcall_of h.f55 rfl (by decide) h.mo (by kernel_rfl) fun X hX => ?_
  simp
  refine ⟨fun e => fun g => e (by rw [g]), fun e => ?_⟩
  refine awp_loop (σ := Nat) (fun k => (⟨[Ls false a, Ls false b, .any, .any, .any, .int .i64 k, .any, .any, .any, .any, .any, .any, .any, .any, .any, .any, .any, .any, .any, .any, .any, .any, .any, .any, .any, .any], []⟩ : S)) (fun k => k ≤ a.length ∧ a.take k = b.take k) (fun k => a.length - k) 0 (Wk.slots (by simp)) ⟨by omega, by simp⟩ ?_
  rintro k ⟨hk, hinv⟩
  refine vc_sound h.mo _ _ _ (by kernel_rfl) ?_
  rcases Nat.lt_or_ge k a.length with hlt | hge
  · have hlb : k < b.length := by omega
    have hk1 : IntKind.i64.wrap ((k : Int) + 1) = ((k + 1 : Nat) : Int) := by rw [i64_id (by omega) (by omega)]; omega
    simp [hlt, hlb]
    refine ⟨fun g => ne_of_get hlt hlb g, fun g => ⟨k + 1, Wk.ren 0 [] hX rfl (by decide) (by simp [hk1]) (by simp) (by simp) (by simp), ⟨by omega, take_succ_eq hlt hlb hinv g⟩, by omega⟩⟩
  · simp [hge]
    have : k = a.length := by omega
    subst this
    exact eq_of_take (by omega) hinv

theorem c_EqInts (a b : List Int) (hl : a.length ≤ 9223372036854775807) : FCall P 54 [Ls false a, Ls false b] (fun r => r = .bool (decide (a = b))) := by
  refine fcall_of h.f54 rfl (by decide) h.mo (by kernel_rfl) fun X hX => ?_
  simp
  refine ⟨fun e => fun g => e (by rw [g]), fun e => ?_⟩
  refine awp_loop (σ := Nat) (fun k => (⟨[Ls false a, Ls false b, .any, .any, .any, .any, .any, .any, .any, .any, .any, Ls false a, .int .i64 a.length, .int .i64 k, .any, .any, .any, .any, .any, .any, .any, .any, .any, .any, .any, .any], []⟩ : S)) (fun k => k ≤ a.length ∧ a.take k = b.take k) (fun k => a.length - k) 0 (Wk.slots (by simp)) ⟨by omega, by simp⟩ ?_
  rintro k ⟨hk, hinv⟩
  refine vc_sound h.mo _ _ _ (by kernel_rfl) ?_
  rcases Nat.lt_or_ge k a.length with hlt | hge
  · have hlb : k < b.length := by omega
    have hk1 : IntKind.i64.wrap ((k : Int) + 1) = ((k + 1 : Nat) : Int) := by rw [i64_id (by omega) (by omega)]; omega
    simp [hlt, hlb]
    refine ⟨fun g => ne_of_get hlt hlb g, fun g => ⟨k + 1, Wk.ren 0 [] hX rfl (by decide) (by simp [hk1]) (by simp) (by simp) (by simp), ⟨by omega, take_succ_eq hlt hlb hinv g⟩, by omega⟩⟩
  · simp [hge]
    have : k = a.length := by omega
    subst this
    exact eq_of_take (by omega) hinv
end Go.Proofs.Ytacfckmhnnhllaa
