/- An abstract layer over the walk, 22: small laws for loops and searches. No program in sight. -/
import Derived.Test.YtnahhdbheeinfaaAlMt
namespace Go.AL

theorem wrap_succ {k n : Nat} (h : k < n) (hn : n ≤ 9223372036854775807) : IntKind.i64.wrap ((k : Int) + 1) = ((k + 1 : Nat) : Int) := by
  rw [i64_id (by omega) (by omega)]; omega
theorem wrap_pred {k n : Nat} (h : k < n) (hn : n ≤ 9223372036854775807) : IntKind.i64.wrap ((k : Int) - 1) = (k : Int) - 1 := i64_id (by omega) (by omega)
theorem wrap_nat {k n : Nat} (h : k < n) (hn : n ≤ 9223372036854775807) : IntKind.i64.wrap (k : Int) = (k : Int) := i64_id (by omega) (by omega)
theorem take_succ_eq {α : Type} {a b : List α} {k : Nat} (ha : k < a.length) (hb : k < b.length) (e : a.take k = b.take k) (g : a[k] = b[k]) : a.take (k + 1) = b.take (k + 1) := by
  rw [List.take_succ_eq_append_getElem ha, List.take_succ_eq_append_getElem hb, e, g]
theorem ne_of_get {α : Type} {a b : List α} {k : Nat} (ha : k < a.length) (hb : k < b.length) (g : a[k] ≠ b[k]) : a ≠ b := by
  rintro rfl; exact g rfl
theorem eq_of_take {α : Type} {a b : List α} (hl : a.length = b.length) (e : a.take a.length = b.take a.length) : a = b := by
  rw [List.take_length, hl, List.take_length] at e; exact e

theorem leL_noid {ids : List Nat} : ∀ {xs : List A}, noidL xs = true → leL ids xs xs := by
  intro xs
  have one : ∀ x : A, x.noid = true → leA ids x x := by
    intro x
    refine A.rec (motive_1 := fun x => x.noid = true → leA ids x x) (motive_2 := fun xs => noidL xs = true → leL ids xs xs) ?_ ?_ ?_ ?_ ?_ ?_ ?_ ?_ ?_ ?_ ?_ ?_ ?_ ?_ ?_ ?_ ?_ x
    all_goals (intros; simp_all [leA, leL, A.noid, noidL])
  induction xs with
  | nil => intro _; simp [leL]
  | cons x xs ih => intro h; simp [noidL] at h; simp [leL, one x h.1, ih h.2]

/-- The first place where p holds, or -1. -/
def idxZ {α : Type} (p : α → Bool) (l : List α) : Int := if l.findIdx p < l.length then (l.findIdx p : Int) else -1
theorem idxZ_at {α : Type} {p : α → Bool} {l : List α} {k : Nat} (hk : k < l.length) (g : p l[k] = true) (hb : ∀ j (hj : j < l.length), j < k → p l[j] = false) : idxZ p l = k := by
  have : l.findIdx p = k := (List.findIdx_eq hk).2 ⟨g, fun j hj => hb j (by omega) hj⟩
  simp [idxZ, this, hk]
theorem idxZ_no {α : Type} {p : α → Bool} {l : List α} (hb : ∀ j (hj : j < l.length), p l[j] = false) : idxZ p l = -1 := by
  have : l.findIdx p = l.length := List.findIdx_eq_length.2 fun x hx => by
    obtain ⟨j, hj, rfl⟩ := List.mem_iff_getElem.1 hx
    exact hb j hj
  simp [idxZ, this]
theorem idxZ_nonneg {α : Type} {p : α → Bool} {l : List α} : (0 ≤ idxZ p l) = (l.any p = true) := by
  apply propext
  unfold idxZ
  rw [List.any_eq_true]
  split
  · rename_i h
    exact ⟨fun _ => by obtain ⟨x, hx, hp⟩ := List.findIdx_lt_length.1 h; exact ⟨x, hx, hp⟩, fun _ => by omega⟩
  · rename_i h
    exact ⟨fun h0 => by omega, fun ⟨x, hx, hp⟩ => absurd (List.findIdx_lt_length.2 ⟨x, hx, hp⟩) h⟩
theorem step_no {α : Type} {p : α → Bool} {l : List α} {k : Nat} (hinv : ∀ j (hj : j < l.length), j < k → p l[j] = false) (hk : k < l.length) (g : p l[k] = false) : ∀ j (hj : j < l.length), j < k + 1 → p l[j] = false := by
  intro j hj hjk
  rcases Nat.lt_or_ge j k with h1 | h1
  · exact hinv j hj h1
  · have : j = k := by omega
    subst this; exact g
theorem step_all {α : Type} {p : α → Bool} {l : List α} {k : Nat} (hinv : ∀ j (hj : j < l.length), j < k → p l[j] = true) (hk : k < l.length) (g : p l[k] = true) : ∀ j (hj : j < l.length), j < k + 1 → p l[j] = true := by
  intro j hj hjk
  rcases Nat.lt_or_ge j k with h1 | h1
  · exact hinv j hj h1
  · have : j = k := by omega
    subst this; exact g
theorem all_yes {α : Type} {p : α → Bool} {l : List α} (hb : ∀ j (hj : j < l.length), p l[j] = true) : l.all p = true := by
  refine List.all_eq_true.2 fun x hx => ?_
  obtain ⟨j, hj, rfl⟩ := List.mem_iff_getElem.1 hx
  exact hb j hj
theorem any_no {α : Type} {p : α → Bool} {l : List α} (hb : ∀ j (hj : j < l.length), p l[j] = false) : l.any p = false := by
  rw [Bool.eq_false_iff]
  intro h
  obtain ⟨x, hx, hp⟩ := List.any_eq_true.1 h
  obtain ⟨j, hj, rfl⟩ := List.mem_iff_getElem.1 hx
  rw [hb j hj] at hp; cases hp
theorem any_at {α : Type} {p : α → Bool} {l : List α} {k : Nat} (hk : k < l.length) (g : p l[k] = true) : l.any p = true := List.any_eq_true.2 ⟨_, List.getElem_mem hk, g⟩
theorem any_dec {α : Type} {p : α → Bool} {l : List α} : decide (∃ x, x ∈ l ∧ p x = true) = l.any p := by
  rw [Bool.eq_iff_iff]; simp

/-- The numbers of a fresh array. -/
def zerosI (n : Nat) : List Int := List.replicate n 0
@[simp] theorem zerosI_len (n : Nat) : (zerosI n).length = n := List.length_replicate
theorem zerosI_get {n i : Nat} (h : i < n) : (zerosI n)[i]? = some 0 := by unfold zerosI; rw [List.getElem?_replicate, if_pos h]
end Go.AL
