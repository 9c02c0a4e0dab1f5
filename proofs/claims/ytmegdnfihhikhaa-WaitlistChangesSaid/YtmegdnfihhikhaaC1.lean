/- Chapter 23: what Index, Contains and Check compute, over any program that has their text. -/
import Derived.Test.YtmegdnfihhikhaaAlFacts
namespace Go.Proofs.Ytmegdnfihhikhaa
open Go.AL
variable {P : Program} (h : Facts P)

def idxOf (l : List Int) (p : Int) : Int := if p ∈ l then (l.idxOf p : Int) else -1

theorem idxOf_hit {l : List Int} {p : Int} {k : Nat} (hx : l[k]? = some p) (hno : ∀ j : Nat, j < k → l[j]? ≠ some p) : idxOf l p = k := by
  have hk : k < l.length := by
    rcases Nat.lt_or_ge k l.length with h | h
    · exact h
    · rw [List.getElem?_eq_none h] at hx; cases hx
  have hm : p ∈ l := List.mem_of_getElem? hx
  unfold idxOf
  rw [if_pos hm]
  have h1 : l.idxOf p < l.length := List.idxOf_lt_length_iff.2 hm
  have h2 : l[l.idxOf p]? = some p := by rw [List.getElem?_eq_getElem h1, List.getElem_idxOf h1]
  have h3 : ¬ l.idxOf p < k := fun hlt => hno _ hlt h2
  have h4 : ¬ k < l.idxOf p := by
    intro hlt
    have := List.not_of_lt_findIdx (p := (· == p)) (xs := l) hlt
    rw [List.getElem?_eq_getElem hk] at hx
    cases hx
    simp at this
  omega

theorem idxOf_miss {l : List Int} {p : Int} (hno : ∀ j : Nat, j < l.length → l[j]? ≠ some p) : idxOf l p = -1 := by
  unfold idxOf
  rw [if_neg]
  intro hm
  obtain ⟨j, hj⟩ := List.getElem?_of_mem hm
  have : j < l.length := by
    rcases Nat.lt_or_ge j l.length with h | h
    · exact h
    · rw [List.getElem?_eq_none h] at hj; cases hj
  exact hno j this hj

theorem idxOf_nonneg (l : List Int) (p : Int) : (0 ≤ idxOf l p) ↔ p ∈ l := by
  unfold idxOf; split <;> simp [*]

include h
theorem c_Index (nl full : Bool) (l : List Int) (p : Int) (hl : l.length ≤ 4000000000000000000) : FCall P 20 [.sl nl full (l.map (A.int .i64)), .int .i64 p] (fun r => r = .int .i64 (idxOf l p)) := by
  refine fcall_of h.f20 rfl (by decide) h.mo (by kernel_rfl) fun X => ?_
  simp
  refine awp_loop (σ := Nat) (fun k => (⟨[.sl nl full (l.map (A.int .i64)), .int .i64 p, .any, .any, .any, .int .i64 k, .any, .any, .any, .any, .any, .any, .any, .any, .any, .any, .any, .any, .any], []⟩ : S)) (fun k => k ≤ l.length ∧ ∀ j : Nat, j < k → l[j]? ≠ some p) (fun k => l.length - k) 0 (Wk.slots (by simp)) ⟨by omega, by simp⟩ ?_
  rintro k ⟨hk, hno⟩
  refine vc_sound h.mo _ _ _ (by kernel_rfl) ?_
  rcases Nat.lt_or_ge k l.length with hlt | hge
  · obtain ⟨x, hx⟩ : ∃ x, l[k]? = some x := ⟨_, List.getElem?_eq_getElem hlt⟩
    have hx' : l[k] = x := by rw [List.getElem?_eq_getElem hlt] at hx; exact Option.some.inj hx
    simp [h, hlt, hx']
    refine ⟨fun e => ?_, fun e => ⟨k + 1, Wk.slots (by simp [i64_id (show -9223372036854775808 ≤ (k : Int) + 1 by omega) (by omega)]), ⟨by omega, ?_⟩, by omega⟩⟩
    · subst e; exact (idxOf_hit hx hno).symm
    · intro j hj hjp
      rcases Nat.lt_or_ge j k with h1 | h1
      · exact hno j h1 hjp
      · have : j = k := by omega
        subst this
        rw [hx] at hjp
        cases hjp
        exact e rfl
  · simp [h, hge]
    exact (idxOf_miss (by have : k = l.length := by omega
                          subst this; exact hno)).symm

theorem c_SIndex (nl full : Bool) (l : List Int) (p : Int) (hl : l.length ≤ 4000000000000000000) : FCall P 22 [.sl nl full (l.map (A.int .i64)), .int .i64 p] (fun r => r = .int .i64 (idxOf l p)) := by
  refine fcall_of h.f22 rfl (by decide) h.mo (by kernel_rfl) fun X => ?_
  simp [h]
  refine awp_loop (σ := Nat) (fun k => (⟨[.sl nl full (l.map (A.int .i64)), .int .i64 p, .any, .any, .any, .any, .any, .int .i64 l.length, .int .i64 k, .any, .any, .any, .any, .any, .any, .any, .any, .any, .any], []⟩ : S)) (fun k => k ≤ l.length ∧ ∀ j : Nat, j < k → l[j]? ≠ some p) (fun k => l.length - k) 0 (Wk.slots (by simp)) ⟨by omega, by simp⟩ ?_
  rintro k ⟨hk, hno⟩
  refine vc_sound h.mo _ _ _ (by kernel_rfl) ?_
  rcases Nat.lt_or_ge k l.length with hlt | hge
  · obtain ⟨x, hx⟩ : ∃ x, l[k]? = some x := ⟨_, List.getElem?_eq_getElem hlt⟩
    have hx' : l[k] = x := by rw [List.getElem?_eq_getElem hlt] at hx; exact Option.some.inj hx
    simp [h, hlt, hx']
    refine ⟨fun e => ?_, fun e => ⟨k + 1, Wk.slots (by simp [i64_id (show -9223372036854775808 ≤ (k : Int) + 1 by omega) (by omega)]), ⟨by omega, ?_⟩, by omega⟩⟩
    · subst e; exact (idxOf_hit hx hno).symm
    · intro j hj hjp
      rcases Nat.lt_or_ge j k with h1 | h1
      · exact hno j h1 hjp
      · have : j = k := by omega
        subst this
        rw [hx] at hjp
        cases hjp
        exact e rfl
  · simp [h, hge]
    exact (idxOf_miss (by have : k = l.length := by omega
                          subst this; exact hno)).symm

theorem c_Contains (nl full : Bool) (l : List Int) (p : Int) (hl : l.length ≤ 4000000000000000000) : FCall P 21 [.sl nl full (l.map (A.int .i64)), .int .i64 p] (fun r => r = .bool (decide (p ∈ l))) := by
  refine fcall_of h.f21 rfl (by decide) h.mo (by kernel_rfl) fun X => ?_
  simp
  refine xcall_scal (c_SIndex h nl full l p hl) (by simp) ?_
  rintro _ rfl
  simp [idxOf_nonneg]

omit h in
theorem idxOf_lt {l : List Int} {p : Int} {k : Nat} (hx : l[k]? = some p) : idxOf l p < k ↔ p ∈ l.take k := by
  have hk : k < l.length := by
    rcases Nat.lt_or_ge k l.length with h | h
    · exact h
    · rw [List.getElem?_eq_none h] at hx; cases hx
  have hm : p ∈ l := List.mem_of_getElem? hx
  have e : idxOf l p = (l.idxOf p : Int) := by unfold idxOf; rw [if_pos hm]
  rw [e]
  constructor
  · intro hlt
    have h1 : l.idxOf p < l.length := List.idxOf_lt_length_iff.2 hm
    have h2 : l[l.idxOf p]? = some p := by rw [List.getElem?_eq_getElem h1, List.getElem_idxOf h1]
    exact List.mem_of_getElem? (i := l.idxOf p) (by rw [List.getElem?_take, if_pos (by omega)]; exact h2)
  · intro hm2
    obtain ⟨j, hj⟩ := List.getElem?_of_mem hm2
    have hjk : j < k := by
      rcases Nat.lt_or_ge j k with h | h
      · exact h
      · rw [List.getElem?_take, if_neg (by omega)] at hj; cases hj
    rw [List.getElem?_take, if_pos hjk] at hj
    have : ¬ j < l.idxOf p := by
      intro hlt
      have := List.not_of_lt_findIdx (p := (· == p)) (xs := l) hlt
      have hj' : j < l.length := by omega
      rw [List.getElem?_eq_getElem hj'] at hj
      cases hj
      simp at this
    omega

def chkGo (done : List Int) : List Int → Int
  | [] => 0
  | x :: r => if x < 0 ∨ x > 1000000000000 then 2 else if x ∈ done then 4 else chkGo (done ++ [x]) r

def chk (l : List Int) : Int := if l.length > 300 then 6 else chkGo [] l

omit h in
theorem chkGo_at {l : List Int} {k : Nat} {x : Int} (hx : l[k]? = some x) : chkGo (l.take k) (l.drop k) = if x < 0 ∨ x > 1000000000000 then 2 else if x ∈ l.take k then 4 else chkGo (l.take (k + 1)) (l.drop (k + 1)) := by
  have hk : k < l.length := by
    rcases Nat.lt_or_ge k l.length with h | h
    · exact h
    · rw [List.getElem?_eq_none h] at hx; cases hx
  have e : l[k] = x := by rw [List.getElem?_eq_getElem hk] at hx; exact Option.some.inj hx
  rw [List.drop_eq_getElem_cons hk, e, chkGo, List.take_add_one, hx]
  rfl

theorem c_RCheck (nl full : Bool) (l : List Int) (hl : l.length ≤ 4000000000000000000) : FCall P 10 [.sl nl full (l.map (A.int .i64))] (fun r => r = .int .i64 (chk l)) := by
  refine fcall_of h.f10 rfl (by decide) h.mo (by kernel_rfl) fun X => ?_
  simp [h]
  refine ⟨fun e => by unfold chk; rw [if_pos (by omega)], fun e => ?_⟩
  refine awp_loop (σ := Nat) (fun k => (⟨[.sl nl full (l.map (A.int .i64)), .any, .any, .int .i64 k, .any, .any, .any, .any, .any, .any, .any, .any, .any, .any, .any, .any, .any, .any, .any, .any, .any, .any, .any, .any, .any, .any, .any, .any, .any, .any, .any, .any, .any], []⟩ : S)) (fun k => k ≤ l.length ∧ chkGo (l.take k) (l.drop k) = chk l) (fun k => l.length - k) 0 (Wk.slots (by simp)) ⟨by omega, by simp [chk]; omega⟩ ?_
  rintro k ⟨hk, hinv⟩
  refine vc_sound h.mo _ _ _ (by kernel_rfl) ?_
  rcases Nat.lt_or_ge k l.length with hlt | hge
  · obtain ⟨x, hx⟩ : ∃ x, l[k]? = some x := ⟨_, List.getElem?_eq_getElem hlt⟩
    have hx' : l[k] = x := by rw [List.getElem?_eq_getElem hlt] at hx; exact Option.some.inj hx
    rw [chkGo_at hx] at hinv
    simp [h, hlt, hx']
    refine ⟨fun h0 => ⟨fun h1 => by rw [if_pos (by omega)] at hinv; exact hinv, fun h1 => ?_⟩, fun h0 => by rw [if_pos (by omega)] at hinv; exact hinv⟩
    rw [if_neg (by omega)] at hinv
    refine xcall_scal (c_Index h nl full l x hl) (by simp) ?_
    rintro _ rfl
    simp
    refine ⟨fun h2 => by rw [if_pos ((idxOf_lt hx).1 h2)] at hinv; exact hinv, fun h2 => ?_⟩
    rw [← Int.not_lt, idxOf_lt hx] at h2
    rw [if_neg h2] at hinv
    exact ⟨k + 1, Wk.slots (by simp [i64_id (show -9223372036854775808 ≤ (k : Int) + 1 by omega) (by omega)]), ⟨by omega, hinv⟩, by omega⟩
  · have hk2 : k = l.length := by omega
    subst hk2
    simp [chkGo] at hinv
    simp [h, hinv]

theorem c_Check (nl full : Bool) (l : List Int) (hl : l.length ≤ 4000000000000000000) : FCall P 9 [.sl nl full (l.map (A.int .i64))] (fun r => r = .int .i64 (chk l)) := by
  refine fcall_of h.f9 rfl (by decide) h.mo (by kernel_rfl) fun X => ?_
  simp [h]
  refine ⟨fun e => by unfold chk; rw [if_pos (by omega)], fun e => ?_⟩
  refine awp_loop (σ := Nat) (fun k => (⟨[.sl nl full (l.map (A.int .i64)), .any, .any, .any, .any, .any, .any, .any, .sl nl full (l.map (A.int .i64)), .int .i64 l.length, .int .i64 k, .any, .any, .any, .any, .any, .any, .any, .any, .any, .any, .any, .any, .any, .any, .any, .any], []⟩ : S)) (fun k => k ≤ l.length ∧ chkGo (l.take k) (l.drop k) = chk l) (fun k => l.length - k) 0 (Wk.slots (by simp)) ⟨by omega, by simp [chk]; omega⟩ ?_
  rintro k ⟨hk, hinv⟩
  refine vc_sound h.mo _ _ _ (by kernel_rfl) ?_
  rcases Nat.lt_or_ge k l.length with hlt | hge
  · obtain ⟨x, hx⟩ : ∃ x, l[k]? = some x := ⟨_, List.getElem?_eq_getElem hlt⟩
    have hx' : l[k] = x := by rw [List.getElem?_eq_getElem hlt] at hx; exact Option.some.inj hx
    rw [chkGo_at hx] at hinv
    simp [h, hlt, hx']
    refine ⟨fun h0 => ⟨fun h1 => by rw [if_pos (by omega)] at hinv; exact hinv, fun h1 => ?_⟩, fun h0 => by rw [if_pos (by omega)] at hinv; exact hinv⟩
    rw [if_neg (by omega)] at hinv
    refine ⟨by omega, ?_⟩
    refine xcall_scal (c_Contains h nl (full && k == l.length) (l.take k) x (by simp; omega)) (by simp) ?_
    rintro _ rfl
    simp
    refine ⟨fun h2 => by rw [if_pos h2] at hinv; exact hinv, fun h2 => ?_⟩
    rw [if_neg h2] at hinv
    exact ⟨k + 1, Wk.slots (by simp [i64_id (show -9223372036854775808 ≤ (k : Int) + 1 by omega) (by omega)]), ⟨by omega, hinv⟩, by omega⟩
  · have hk2 : k = l.length := by omega
    subst hk2
    simp [chkGo] at hinv
    simp [h, hinv]
end Go.Proofs.Ytmegdnfihhikhaa
