/- Chapter 41: comparisons of integers, over any program that has the text. -/
import Derived.Test.YtacfckmhnnhllaaTy
namespace Go.Proofs.Ytacfckmhnnhllaa
open Go.AL
variable {P : Program} [h : Facts P]

theorem c_isNaN (x : Int) : FCall P 61 [.int .i64 x] (fun r => r = .bool false) := by
  refine fcall_of h.f61 rfl (by decide) h.mo (by kernel_rfl) fun X hX => ?_
  simp

def cmpZ (x y : Int) : Int := if x < y then -1 else if y < x then 1 else 0
theorem c_Compare (x y : Int) : FCall P 50 [.int .i64 x, .int .i64 y] (fun r => r = .int .i64 (cmpZ x y)) := by
  refine fcall_of h.f50 rfl (by decide) h.mo (by kernel_rfl) fun X hX => ?_
  simp
  refine xcall_fn (c_isNaN x) (by simp) ?_
  simp
  refine xcall_fn (c_isNaN y) (by simp) ?_
  simp
  unfold cmpZ
  refine ⟨fun h1 => by rw [if_pos h1], fun h1 => ⟨fun h2 => by rw [if_neg (by omega), if_pos h2], fun h2 => by rw [if_neg (by omega), if_neg (by omega)]⟩⟩

def orZ : List Int → Int
  | [] => 0
  | x :: l => if x ≠ 0 then x else orZ l
theorem c_Or (l : List Int) (hl : l.length ≤ 9223372036854775807) : FCall P 49 [Ls false l] (fun r => r = .int .i64 (orZ l)) := by
  refine fcall_of h.f49 rfl (by decide) h.mo (by kernel_rfl) fun X hX => ?_
  simp
  refine awp_loop (σ := Nat) (fun k => (⟨[Ls false l, .any, .any, .int .i64 0, .any, .any, Ls false l, .int .i64 l.length, .int .i64 k, .any, .any, .any, .any, .any, .any, .any, .any, .any], []⟩ : S)) (fun k => k ≤ l.length ∧ orZ (l.drop k) = orZ l) (fun k => l.length - k) 0 (Wk.slots (by simp)) ⟨by omega, by simp⟩ ?_
  rintro k ⟨hk, hinv⟩
  refine vc_sound h.mo _ _ _ (by kernel_rfl) ?_
  rcases Nat.lt_or_ge k l.length with hlt | hge
  · have hk1 : IntKind.i64.wrap ((k : Int) + 1) = ((k + 1 : Nat) : Int) := by rw [i64_id (by omega) (by omega)]; omega
    rw [List.drop_eq_getElem_cons hlt] at hinv
    simp [hlt]
    refine ⟨fun h1 => by rw [← hinv]; simp [orZ, h1], fun h1 => ⟨k + 1, Wk.ren 0 [] hX rfl (by decide) (by simp [hk1]) (by simp) (by simp) (by simp), ⟨by omega, by rw [← hinv]; simp [orZ, h1]⟩, by omega⟩⟩
  · simp [hge]
    have : k = l.length := by omega
    subst this
    simpa [orZ] using hinv
end Go.Proofs.Ytacfckmhnnhllaa
