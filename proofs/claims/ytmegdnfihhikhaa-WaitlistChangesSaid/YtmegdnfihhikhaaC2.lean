/- Chapter 23: what Clip, Place, Same and Wait compute, over any program that has their text. -/
import Derived.Test.YtmegdnfihhikhaaC1
namespace Go.Proofs.Ytmegdnfihhikhaa
open Go.AL
variable {P : Program} (h : Facts P)

/-- A slice of whole numbers, of what make it may be. -/
def isL (r : A) (l : List Int) : Prop := ∃ nl full, r = .sl nl full (l.map (A.int .i64))

include h
theorem e_Clip (nl full : Bool) (es : List A) : ECall P 23 [.sl nl full es] (.sl nl true es) := by
  refine ecall_line h.f23 rfl (by decide) rfl ?_
  simp [h]

theorem c_Clip (nl full : Bool) (es : List A) : FCall P 23 [.sl nl full es] (fun r => r = .sl nl true es) := by
  refine fcall_of h.f23 rfl (by decide) h.mo (by kernel_rfl) fun X => ?_
  simp [h]

def place (l : List Int) (p : Int) : Int := if chk l = 0 then idxOf l p else -1

theorem c_Place (nl full : Bool) (l : List Int) (p : Int) (hl : l.length ≤ 4000000000000000000) : FCall P 11 [.sl nl full (l.map (A.int .i64)), .int .i64 p] (fun r => r = .int .i64 (place l p)) := by
  refine fcall_of h.f11 rfl (by decide) h.mo (by kernel_rfl) fun X => ?_
  simp
  refine xcall_scal (c_Check h nl full l hl) (by simp) ?_
  rintro _ rfl
  simp
  refine ⟨fun e => by simp [place, e], fun e => ?_⟩
  refine xcall_scal (c_SIndex h nl full l p hl) (by simp) ?_
  rintro _ rfl
  simp [place, e]

theorem c_RPlace (nl full : Bool) (l : List Int) (p : Int) (hl : l.length ≤ 4000000000000000000) : FCall P 12 [.sl nl full (l.map (A.int .i64)), .int .i64 p] (fun r => r = .int .i64 (place l p)) := by
  refine fcall_of h.f12 rfl (by decide) h.mo (by kernel_rfl) fun X => ?_
  simp
  refine xcall_scal (c_RCheck h nl full l hl) (by simp) ?_
  rintro _ rfl
  simp
  refine ⟨fun e => by simp [place, e], fun e => ?_⟩
  refine xcall_scal (c_Index h nl full l p hl) (by simp) ?_
  rintro _ rfl
  simp [place, e]

omit h in
theorem same_at {a b : List Int} {k : Nat} (hab : a.length = b.length) (hk : k < a.length) (hp : a.take k = b.take k) : (a[k] = b[k] → a.take (k + 1) = b.take (k + 1)) ∧ (a[k] ≠ b[k] → a ≠ b) := by
  refine ⟨fun e => ?_, fun e e2 => by subst e2; exact e rfl⟩
  rw [List.take_add_one, List.take_add_one, hp, List.getElem?_eq_getElem hk, List.getElem?_eq_getElem (by omega), e]

theorem c_Same (nl full nl' full' : Bool) (a b : List Int) (hl : a.length ≤ 4000000000000000000) : FCall P 17 [.sl nl full (a.map (A.int .i64)), .sl nl' full' (b.map (A.int .i64))] (fun r => r = .bool (decide (a = b))) := by
  refine fcall_of h.f17 rfl (by decide) h.mo (by kernel_rfl) fun X => ?_
  simp [h]
  refine ⟨fun e e2 => ?_, fun e => ?_⟩
  · subst e2; exact e rfl
  have hab : a.length = b.length := by omega
  refine awp_loop (σ := Nat) (fun k => (⟨[.sl nl full (a.map (A.int .i64)), .sl nl' full' (b.map (A.int .i64)), .any, .any, .any, .int .i64 k, .any, .any, .any, .any, .any, .any, .any, .any, .any, .any, .any, .any, .any, .any, .any, .any, .any, .any, .any, .any], []⟩ : S)) (fun k => k ≤ a.length ∧ a.take k = b.take k) (fun k => a.length - k) 0 (Wk.slots (by simp)) ⟨by omega, by simp⟩ ?_
  rintro k ⟨hk, hinv⟩
  refine vc_sound h.mo _ _ _ (by kernel_rfl) ?_
  rcases Nat.lt_or_ge k a.length with hlt | hge
  · have hlt' : k < b.length := by omega
    obtain ⟨h1, h2⟩ := same_at hab hlt hinv
    simp [h, hlt, hlt']
    refine ⟨fun e => h2 e, fun e => ⟨k + 1, Wk.slots (by simp [i64_id (show -9223372036854775808 ≤ (k : Int) + 1 by omega) (by omega)]), ⟨by omega, h1 e⟩, by omega⟩⟩
  · have hk2 : k = a.length := by omega
    subst hk2
    rw [List.take_length, hab, List.take_length] at hinv
    simp [h, hinv]

def waitE (l : List Int) (p : Int) : Int :=
  if chk l = 0 then (if p < 0 ∨ p > 1000000000000 then 2 else if p ∈ l then 4 else if l.length ≥ 300 then 13 else 0) else chk l

def isWait (l : List Int) (p : Int) (r : A) : Prop :=
  if waitE l p = 0 then ∃ full, r = .tup [.sl false full ((l ++ [p]).map (A.int .i64)), .int .i64 0]
  else r = .tup [.sl true true [], .int .i64 (waitE l p)]

theorem c_Wait (nl full : Bool) (l : List Int) (p : Int) (hl : l.length ≤ 4000000000000000000) : FCall P 13 [.sl nl full (l.map (A.int .i64)), .int .i64 p] (isWait l p) := by
  refine fcall_of h.f13 rfl (by decide) h.mo (by kernel_rfl) fun X => ?_
  simp
  refine xcall_scal (c_Check h nl full l hl) (by simp) ?_
  rintro _ rfl
  by_cases hc : chk l = 0
  · simp [hc]
    refine ⟨fun h0 => ⟨fun h1 => by simp [isWait, waitE, hc, h1], fun h1 => ?_⟩, fun h0 => by simp [isWait, waitE, hc, h0]⟩
    refine xcall_scal (c_Contains h nl full l p hl) (by simp) ?_
    rintro _ rfl
    have hr : ¬ (p < 0 ∨ p > 1000000000000) := by omega
    simp [h]
    refine ⟨fun h2 => by simp only [isWait, waitE, hc, hr, h2, if_true, if_false]; simp, fun h2 => ⟨fun h3 => by have h3' : l.length ≥ 300 := by omega
                                                                                                                 simp only [isWait, waitE, hc, hr, h2, h3', if_true, if_false]; simp, fun h3 => ?_⟩⟩
    refine xcall_noid (c_Clip h nl full _) (by simp) ?_
    rintro _ rfl
    have h3' : ¬ l.length ≥ 300 := by omega
    have ht : List.take (l.length + 1) (List.map (A.int .i64) l ++ [A.int .i64 p]) = (l ++ [p]).map (A.int .i64) := by
      rw [List.take_of_length_le (by simp)]; simp
    have hw : waitE l p = 0 := by simp only [waitE, hc, hr, h2, h3', if_true, if_false]
    simp [h, -List.map_append, ht, isWait, hw]
    omega
  · simp [hc, isWait, waitE]
end Go.Proofs.Ytmegdnfihhikhaa
