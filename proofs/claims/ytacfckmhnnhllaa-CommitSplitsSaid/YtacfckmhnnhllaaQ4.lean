/- Chapter 41: a stable sort by blocks, plain. -/
import Derived.Test.YtacfckmhnnhllaaQ3
namespace Go.Proofs.Ytacfckmhnnhllaa
open Go.AL

section
variable {α : Type}
/-- The first k blocks of bs elements, each sorted. -/
def blkK (lt : α → α → Bool) (bs : Nat) (l : List α) : Nat → List α
  | 0 => []
  | k + 1 => blkK lt bs l k ++ isrt lt ((l.drop (k * bs)).take bs)
theorem blkK_succ (lt : α → α → Bool) (bs : Nat) (l : List α) (k : Nat) : blkK lt bs l (k + 1) = blkK lt bs l k ++ isrt lt ((l.drop (k * bs)).take bs) := rfl
theorem blkK_len (lt : α → α → Bool) (bs : Nat) (l : List α) : ∀ k, (blkK lt bs l k).length = min (k * bs) l.length
  | 0 => by simp [blkK]
  | k + 1 => by
    rw [blkK_succ, List.length_append, blkK_len lt bs l k, isrt_len, List.length_take, List.length_drop, Nat.succ_mul]
    omega
theorem isrt_nil (lt : α → α → Bool) : isrt lt ([] : List α) = [] := rfl
/-- Behind the end nothing more comes. -/
theorem blkK_more (lt : α → α → Bool) {bs : Nat} {l : List α} {k : Nat} (h : l.length ≤ k * bs) : ∀ j, blkK lt bs l (k + j) = blkK lt bs l k
  | 0 => rfl
  | j + 1 => by
    rw [← Nat.add_assoc, blkK_succ, blkK_more lt h j, List.drop_of_length_le (by rw [Nat.add_mul]; omega)]
    simp [isrt_nil]
/-- A block behind some of them. -/
theorem blkK_drop (lt : α → α → Bool) {bs : Nat} {l : List α} {k : Nat} (hk : k * bs ≤ l.length) : ∀ j, (blkK lt bs l (k + j)).drop (k * bs) = blkK lt bs (l.drop (k * bs)) j
  | 0 => by
    rw [Nat.add_zero, List.drop_of_length_le (by rw [blkK_len]; omega)]
    rfl
  | j + 1 => by
    rw [← Nat.add_assoc, blkK_succ, List.drop_append_of_le_length (by rw [blkK_len, Nat.add_mul]; omega), blkK_drop lt hk j, blkK_succ, List.drop_drop]
    rw [show k * bs + j * bs = (k + j) * bs by rw [Nat.add_mul]]
/-- All blocks of which one holds all. -/
theorem blkK_one {lt : α → α → Bool} {bs : Nat} {l : List α} (h : l.length ≤ bs) : ∀ k, 0 < k → blkK lt bs l k = isrt lt l
  | 0, h0 => by omega
  | k + 1, _ => by
    have h1 : blkK lt bs l 1 = isrt lt l := by
      rw [blkK_succ]
      simp [blkK, List.take_of_length_le h]
    have := blkK_more lt (bs := bs) (l := l) (k := 1) (by omega) k
    rw [Nat.add_comm k 1, this, h1]
/-- Two blocks and the rest. -/
theorem blkK_two (lt : α → α → Bool) {bs : Nat} {l : List α} (j : Nat) (_hbs : bs ≤ l.length) : blkK lt bs l (j + 2) = isrt lt (l.take bs) ++ (isrt lt ((l.drop bs).take bs) ++ (blkK lt bs l (j + 2)).drop (2 * bs)) := by
  have h2 : blkK lt bs l 2 = isrt lt (l.take bs) ++ isrt lt ((l.drop bs).take bs) := by
    simp [blkK]
  have key : ∀ j, ∃ r, blkK lt bs l (j + 2) = blkK lt bs l 2 ++ r := by
    intro j
    induction j with
    | zero => exact ⟨[], by simp⟩
    | succ j ih =>
      obtain ⟨r, hr⟩ := ih
      exact ⟨r ++ isrt lt ((l.drop ((j + 2) * bs)).take bs), by rw [show j + 1 + 2 = (j + 2) + 1 by omega, blkK_succ, hr, List.append_assoc]⟩
  obtain ⟨r, hr⟩ := key j
  have hl2 := blkK_len lt bs l 2
  have hlj := blkK_len lt bs l (j + 2)
  by_cases hle : 2 * bs ≤ l.length
  · have e : (blkK lt bs l (j + 2)).drop (2 * bs) = r := by
      rw [hr, List.drop_append_of_le_length (by omega), List.drop_of_length_le (by omega), List.nil_append]
    rw [e, hr, h2, List.append_assoc]
  · have hm := blkK_more lt (bs := bs) (l := l) (k := 2) (by omega) j
    rw [Nat.add_comm j 2, hm, List.drop_of_length_le (l := blkK lt bs l 2) (by omega), List.append_nil, h2]
theorem two_merge {lt : α → α → Bool} (ho : Ord lt) (l : List α) (bs : Nat) : mrg lt (isrt lt (l.take bs)) (isrt lt ((l.drop bs).take bs)) = isrt lt (l.take (2 * bs)) := by
  rw [← isrt_app ho]
  congr 1
  rw [show 2 * bs = bs + bs by omega, List.take_add]
/-- The state while pairs of blocks are merged. -/
def parM (lt : α → α → Bool) (bs K : Nat) (l : List α) (t : Nat) : List α := blkK lt (2 * bs) l t ++ (blkK lt bs l K).drop (t * (2 * bs))
theorem parM_zero (lt : α → α → Bool) (bs K : Nat) (l : List α) : parM lt bs K l 0 = blkK lt bs l K := by simp [parM, blkK]
/-- The next pair, where its first block is whole. -/
theorem parM_form (lt : α → α → Bool) {bs K : Nat} {l : List α} {t : Nat} (hK : l.length ≤ K * bs) (hb : 0 < bs) (ht : t * (2 * bs) + bs ≤ l.length) :
    parM lt bs K l t = blkK lt (2 * bs) l t ++ (isrt lt ((l.drop (t * (2 * bs))).take bs) ++ (isrt lt (((l.drop (t * (2 * bs))).drop bs).take bs) ++ (blkK lt bs l K).drop ((t + 1) * (2 * bs)))) := by
  have e1 : t * (2 * bs) = (2 * t) * bs := by rw [← Nat.mul_assoc, Nat.mul_comm t 2]
  -- enough blocks
  obtain ⟨j, hj⟩ : ∃ j, blkK lt bs l K = blkK lt bs l (2 * t + (j + 2)) := by
    by_cases q : 2 * t + 2 ≤ K
    · exact ⟨K - (2 * t + 2), by congr 1; omega⟩
    · refine ⟨0, ?_⟩
      have := blkK_more lt (bs := bs) (l := l) (k := K) hK (2 * t + 2 - K)
      rw [← this]
      congr 1
      omega
  unfold parM
  rw [hj]
  have hd : (blkK lt bs l (2 * t + (j + 2))).drop (t * (2 * bs)) = blkK lt bs (l.drop (t * (2 * bs))) (j + 2) := by
    rw [e1]
    exact blkK_drop lt (by omega) (j + 2)
  have hd2 : (blkK lt bs l (2 * t + (j + 2))).drop ((t + 1) * (2 * bs)) = (blkK lt bs (l.drop (t * (2 * bs))) (j + 2)).drop (2 * bs) := by
    rw [← hd, List.drop_drop, Nat.succ_mul]
  rw [hd, hd2]
  congr 1
  exact blkK_two lt j (by rw [List.length_drop]; omega)
theorem parM_next {lt : α → α → Bool} (ho : Ord lt) (bs K : Nat) (l : List α) (t : Nat) : blkK lt (2 * bs) l t ++ (mrg lt (isrt lt ((l.drop (t * (2 * bs))).take bs)) (isrt lt (((l.drop (t * (2 * bs))).drop bs).take bs)) ++ (blkK lt bs l K).drop ((t + 1) * (2 * bs))) = parM lt bs K l (t + 1) := by
  rw [two_merge ho]
  unfold parM
  rw [blkK_succ, List.append_assoc]
/-- Where no whole pair is left, and no two blocks either. -/
theorem parM_last {lt : α → α → Bool} {bs K : Nat} {l : List α} {t : Nat} (hK : l.length ≤ K * bs) (hb : 0 < bs) (ht : l.length ≤ t * (2 * bs) + bs) (ht0 : t * (2 * bs) ≤ l.length) : parM lt bs K l t = blkK lt (2 * bs) l (t + 1) := by
  have e1 : t * (2 * bs) = (2 * t) * bs := by rw [← Nat.mul_assoc, Nat.mul_comm t 2]
  unfold parM
  rw [blkK_succ]
  congr 1
  obtain ⟨j, hj⟩ : ∃ j, blkK lt bs l K = blkK lt bs l (2 * t + (j + 1)) := by
    by_cases q : 2 * t + 1 ≤ K
    · exact ⟨K - (2 * t + 1), by congr 1; omega⟩
    · refine ⟨0, ?_⟩
      have := blkK_more lt (bs := bs) (l := l) (k := K) hK (2 * t + 1 - K)
      rw [← this]
      congr 1
      omega
  rw [hj]
  have hd : (blkK lt bs l (2 * t + (j + 1))).drop (t * (2 * bs)) = blkK lt bs (l.drop (t * (2 * bs))) (j + 1) := by
    rw [e1]
    exact blkK_drop lt (by omega) (j + 1)
  rw [hd, blkK_one (by rw [List.length_drop]; omega) _ (by omega), List.take_of_length_le (by rw [List.length_drop]; omega)]
/-- While the first blocks are sorted. -/
theorem fst_form (lt : α → α → Bool) {bs : Nat} {l : List α} (k : Nat) : blkK lt bs l k ++ l.drop (k * bs) = blkK lt bs l k ++ ((l.drop (k * bs)).take bs ++ l.drop ((k + 1) * bs)) := by
  congr 1
  rw [Nat.succ_mul, ← List.drop_drop, List.take_append_drop]
theorem fst_next (lt : α → α → Bool) {bs : Nat} {l : List α} (k : Nat) : blkK lt bs l k ++ (isrt lt ((l.drop (k * bs)).take bs) ++ l.drop ((k + 1) * bs)) = blkK lt bs l (k + 1) ++ l.drop ((k + 1) * bs) := by
  rw [blkK_succ, List.append_assoc]
end
end Go.Proofs.Ytacfckmhnnhllaa
