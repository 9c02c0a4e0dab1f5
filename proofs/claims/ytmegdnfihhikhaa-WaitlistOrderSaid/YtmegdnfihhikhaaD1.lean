/- Chapter 23: what the functions compute, over any program that has their text. -/
import Derived.Test.YtmegdnfihhikhaaAlFacts
namespace Go.Proofs.Ytmegdnfihhikhaa
open Go.AL
variable {P : Program} [h : Facts P]

def idxOf (l : List Int) (p : Int) : Int := if p ∈ l then (l.idxOf p : Int) else -1

theorem idxOf_hit {l : List Int} {p : Int} {k : Nat} (hx : l[k]? = some p) (hno : p ∉ l.take k) : idxOf l p = k := by
  have hm : p ∈ l := List.mem_of_getElem? hx
  unfold idxOf
  rw [if_pos hm]
  have hk := (List.getElem?_eq_some_iff.1 hx).1
  have : l = l.take k ++ p :: l.drop (k + 1) := by
    conv => lhs; rw [← List.take_append_drop k l, List.drop_eq_getElem_cons hk]
    rw [(List.getElem?_eq_some_iff.1 hx).2]
  conv => lhs; rw [this]
  rw [List.idxOf_append, if_neg hno]
  simp; omega

theorem idxOf_miss {l : List Int} {p : Int} (hno : p ∉ l) : idxOf l p = -1 := by
  unfold idxOf; rw [if_neg hno]

theorem idxOf_nonneg (l : List Int) (p : Int) : (0 ≤ idxOf l p) ↔ p ∈ l := by
  unfold idxOf; split <;> simp [*]

theorem wrap_succ {k n : Nat} (h : k < n) (hn : n ≤ 9000000000000000000) : IntKind.i64.wrap ((k : Int) + 1) = ((k + 1 : Nat) : Int) := by
  rw [i64_id (by omega) (by omega)]; omega

theorem not_mem_take {l : List Int} {p : Int} {k : Nat} (hlt : k < l.length) (hno : p ∉ l.take k) (hne : ¬ l[k] = p) : p ∉ l.take (k + 1) := by
  rw [List.take_add_one, List.getElem?_eq_getElem hlt]
  intro h
  rcases List.mem_append.1 h with h | h
  · exact hno h
  · simp at h; exact hne h.symm

theorem c_Index (l : List Int) (p : Int) (hl : l.length ≤ 4000000000000000000) : FCall P 20 [Ls false l, .int .i64 p] (fun r => r = .int .i64 (idxOf l p)) := by
  refine fcall_of h.f20 rfl (by decide) h.mo (by kernel_rfl) fun X hX => ?_
  simp
  refine awp_loop (σ := Nat) (fun k => (⟨[Ls false l, .int .i64 p, .any, .any, .any, .int .i64 k, .any, .any, .any, .any, .any, .any, .any, .any, .any, .any, .any, .any, .any], []⟩ : S)) (fun k => k ≤ l.length ∧ p ∉ l.take k) (fun k => l.length - k) 0 (Wk.slots (by simp)) ⟨by omega, by simp⟩ ?_
  rintro k ⟨hk, hno⟩
  refine vc_sound h.mo _ _ _ (by kernel_rfl) ?_
  rcases Nat.lt_or_ge k l.length with hlt | hge
  · have hk1 := wrap_succ hlt (by omega)
    simp [hlt, hk1]
    exact ⟨fun e => (idxOf_hit (by simp [hlt, e]) hno).symm, fun e => ⟨k + 1, Wk.slots (by simp), ⟨by omega, not_mem_take hlt hno e⟩, by omega⟩⟩
  · simp [hge]
    exact (idxOf_miss (by rwa [List.take_of_length_le hge] at hno)).symm

theorem c_SIndex (l : List Int) (p : Int) (hl : l.length ≤ 4000000000000000000) : FCall P 22 [Ls false l, .int .i64 p] (fun r => r = .int .i64 (idxOf l p)) := by
  refine fcall_of h.f22 rfl (by decide) h.mo (by kernel_rfl) fun X hX => ?_
  simp
  refine awp_loop (σ := Nat) (fun k => (⟨[Ls false l, .int .i64 p, .any, .any, .any, .any, .any, .int .i64 l.length, .int .i64 k, .any, .any, .any, .any, .any, .any, .any, .any, .any, .any], []⟩ : S)) (fun k => k ≤ l.length ∧ p ∉ l.take k) (fun k => l.length - k) 0 (Wk.slots (by simp)) ⟨by omega, by simp⟩ ?_
  rintro k ⟨hk, hno⟩
  refine vc_sound h.mo _ _ _ (by kernel_rfl) ?_
  rcases Nat.lt_or_ge k l.length with hlt | hge
  · have hk1 := wrap_succ hlt (by omega)
    simp [hlt, hk1]
    exact ⟨fun e => (idxOf_hit (by simp [hlt, e]) hno).symm, fun e => ⟨k + 1, Wk.slots (by simp), ⟨by omega, not_mem_take hlt hno (fun h => e h.symm)⟩, by omega⟩⟩
  · simp [hge]
    exact (idxOf_miss (by rwa [List.take_of_length_le hge] at hno)).symm

theorem c_Contains (l : List Int) (p : Int) (hl : l.length ≤ 4000000000000000000) : FCall P 21 [Ls false l, .int .i64 p] (fun r => r = .bool (decide (p ∈ l))) := by
  refine fcall_of h.f21 rfl (by decide) h.mo (by kernel_rfl) fun X hX => ?_
  simp
  refine xcall_fn (c_SIndex l p hl) (by simp) ?_
  simp [idxOf_nonneg]

def chkGo (done : List Int) : List Int → Int
  | [] => 0
  | x :: r => if x < 0 ∨ x > 1000000000000 then 2 else if x ∈ done then 4 else chkGo (done ++ [x]) r

def chk (l : List Int) : Int := if l.length > 300 then 6 else chkGo [] l

theorem chkGo_at {l : List Int} {k : Nat} (hk : k < l.length) : chkGo (l.take k) (l.drop k) = if l[k] < 0 ∨ l[k] > 1000000000000 then 2 else if l[k] ∈ l.take k then 4 else chkGo (l.take (k + 1)) (l.drop (k + 1)) := by
  rw [List.drop_eq_getElem_cons hk, chkGo, List.take_add_one, List.getElem?_eq_getElem hk]
  rfl

theorem c_Check (l : List Int) (hl : l.length ≤ 4000000000000000000) : FCall P 9 [Ls false l] (fun r => r = .int .i64 (chk l)) := by
  refine fcall_of h.f9 rfl (by decide) h.mo (by kernel_rfl) fun X hX => ?_
  simp
  refine ⟨fun e => by unfold chk; rw [if_pos (by omega)], fun e => ?_⟩
  refine awp_loop (σ := Nat) (fun k => (⟨[Ls false l, .any, .any, .any, .any, .any, .any, .any, Ls false l, .int .i64 l.length, .int .i64 k, .any, .any, .any, .any, .any, .any, .any, .any, .any, .any, .any, .any, .any, .any, .any, .any], []⟩ : S)) (fun k => k ≤ l.length ∧ chkGo (l.take k) (l.drop k) = chk l) (fun k => l.length - k) 0 (Wk.slots (by simp)) ⟨by omega, by simp [chk]; omega⟩ ?_
  rintro k ⟨hk, hinv⟩
  refine vc_sound h.mo _ _ _ (by kernel_rfl) ?_
  rcases Nat.lt_or_ge k l.length with hlt | hge
  · have hk1 := wrap_succ hlt (by omega)
    rw [chkGo_at hlt] at hinv
    simp [hlt, hk]
    refine ⟨fun h0 => ⟨fun h1 => by rw [if_pos (by omega)] at hinv; exact hinv, fun h1 => ?_⟩, fun h0 => by rw [if_pos (by omega)] at hinv; exact hinv⟩
    rw [if_neg (by omega)] at hinv
    refine xcall_fn (c_Contains (l.take k) l[k] (by simp; omega)) (by simp) ?_
    simp
    refine ⟨fun h2 => by rw [if_pos h2] at hinv; exact hinv, fun h2 => ?_⟩
    rw [if_neg h2] at hinv
    exact ⟨k + 1, Wk.slots (by simp [hk1]), ⟨by omega, hinv⟩, by omega⟩
  · rw [List.drop_eq_nil_of_le hge] at hinv
    simp [hge, ← hinv, chkGo]

theorem e_Clip (f : Bool) (l : List Int) : ECall P 23 [Ls f l] (Ls true l) := by
  refine ecall_line h.f23 rfl (by decide) rfl ?_
  simp

def place (l : List Int) (p : Int) : Int := if chk l = 0 then idxOf l p else -1

theorem c_Place (l : List Int) (p : Int) (hl : l.length ≤ 4000000000000000000) : FCall P 11 [Ls false l, .int .i64 p] (fun r => r = .int .i64 (place l p)) := by
  refine fcall_of h.f11 rfl (by decide) h.mo (by kernel_rfl) fun X hX => ?_
  simp
  refine xcall_fn (c_Check l hl) (by simp) ?_
  simp
  refine ⟨fun e => by simp [place, e], fun e => ?_⟩
  refine xcall_fn (c_SIndex l p hl) (by simp) ?_
  simp [place, e]

theorem same_at {a b : List Int} {k : Nat} (hab : a.length = b.length) (hk : k < a.length) (hp : a.take k = b.take k) : (a[k] = b[k] → a.take (k + 1) = b.take (k + 1)) ∧ (a[k] ≠ b[k] → a ≠ b) := by
  refine ⟨fun e => ?_, fun e e2 => by subst e2; exact e rfl⟩
  rw [List.take_add_one, List.take_add_one, hp, List.getElem?_eq_getElem hk, List.getElem?_eq_getElem (by omega), e]

theorem c_Same (a b : List Int) (hl : a.length ≤ 4000000000000000000) : FCall P 17 [Ls false a, Ls false b] (fun r => r = .bool (decide (a = b))) := by
  refine fcall_of h.f17 rfl (by decide) h.mo (by kernel_rfl) fun X hX => ?_
  simp
  refine ⟨fun e e2 => ?_, fun e => ?_⟩
  · subst e2; exact e rfl
  have hab : a.length = b.length := by omega
  refine awp_loop (σ := Nat) (fun k => (⟨[Ls false a, Ls false b, .any, .any, .any, .int .i64 k, .any, .any, .any, .any, .any, .any, .any, .any, .any, .any, .any, .any, .any, .any, .any, .any, .any, .any, .any, .any], []⟩ : S)) (fun k => k ≤ a.length ∧ a.take k = b.take k) (fun k => a.length - k) 0 (Wk.slots (by simp)) ⟨by omega, by simp⟩ ?_
  rintro k ⟨hk, hinv⟩
  refine vc_sound h.mo _ _ _ (by kernel_rfl) ?_
  rcases Nat.lt_or_ge k a.length with hlt | hge
  · have hlt' : k < b.length := by omega
    have hk1 := wrap_succ hlt (by omega)
    obtain ⟨h1, h2⟩ := same_at hab hlt hinv
    simp [hlt, hlt', hk1]
    exact ⟨fun e => h2 e, fun e => ⟨k + 1, Wk.slots (by simp), ⟨by omega, h1 e⟩, by omega⟩⟩
  · rw [List.take_of_length_le hge, List.take_of_length_le (by omega)] at hinv
    subst hinv
    simp [hge]

end Go.Proofs.Ytmegdnfihhikhaa
