/- Chapter 10: lists of names, plain. -/
import Derived.Test.YtadllkhmihbfhaaK1
namespace Go.Proofs.Ytadllkhmihbfhaa
open Go.AL

theorem less_eq : ∀ (x y : List UInt8), Op.bytesLess x y = decide (x < y)
  | x, [] => by cases x <;> simp [Op.bytesLess]
  | [], _ :: _ => by simp [Op.bytesLess]
  | a :: x, b :: y => by
    rw [Op.bytesLess, less_eq x y]
    by_cases h1 : a < b
    · simp [h1, List.cons_lt_cons_iff]
    · by_cases h2 : a = b <;> simp [h1, h2, List.cons_lt_cons_iff]
theorem tri (x y : List UInt8) : x < y ∨ x = y ∨ y < x := by
  by_cases h1 : x < y
  · exact .inl h1
  by_cases h2 : y < x
  · exact .inr (.inr h2)
  exact .inr (.inl (List.le_antisymm (List.not_lt.1 h2) (List.not_lt.1 h1)))
abbrev incr (l : List (List UInt8)) : Prop := l.Pairwise (· < ·)
theorem incr_unique : ∀ {a b : List (List UInt8)}, incr a → incr b → (∀ x, x ∈ a ↔ x ∈ b) → a = b
  | [], [], _, _, _ => rfl
  | [], y :: b, _, _, h => by have := (h y).2 (List.mem_cons_self ..); cases this
  | x :: a, [], _, _, h => by have := (h x).1 (List.mem_cons_self ..); cases this
  | x :: a, y :: b, ha, hb, h => by
    obtain ⟨ha1, ha2⟩ := List.pairwise_cons.1 ha
    obtain ⟨hb1, hb2⟩ := List.pairwise_cons.1 hb
    have hxy : x = y := by
      rcases List.mem_cons.1 ((h x).1 (List.mem_cons_self ..)) with e | e
      · exact e
      · rcases List.mem_cons.1 ((h y).2 (List.mem_cons_self ..)) with e2 | e2
        · exact e2.symm
        · exact (List.lt_irrefl x (List.lt_trans (ha1 _ e2) (hb1 _ e))).elim
    subst hxy
    rw [incr_unique ha2 hb2 fun z => ?_]
    constructor
    · intro hz
      rcases List.mem_cons.1 ((h z).1 (List.mem_cons_of_mem _ hz)) with rfl | e
      · exact (List.lt_irrefl _ (ha1 _ hz)).elim
      · exact e
    · intro hz
      rcases List.mem_cons.1 ((h z).2 (List.mem_cons_of_mem _ hz)) with rfl | e
      · exact (List.lt_irrefl _ (hb1 _ hz)).elim
      · exact e
/-- The reference's insertion, as the loop does it. -/
def insF (s : List UInt8) : List (List UInt8) → Bool → List (List UInt8)
  | [], d => if d = true then [] else [s]
  | x :: l, d => (if d = false ∧ ¬ x < s then [s] else []) ++ ((if x = s then [] else [x]) ++ insF s l (d || decide (¬ x < s)))
theorem insF_mem (s : List UInt8) : ∀ (l : List (List UInt8)) (d : Bool) (x : List UInt8), x ∈ insF s l d ↔ (x ∈ l ∧ x ≠ s) ∨ (x = s ∧ d = false)
  | [], d, x => by cases d <;> simp [insF]
  | y :: l, d, x => by
    simp only [insF, List.mem_append, insF_mem s l, List.mem_cons]
    by_cases h1 : y < s <;> by_cases h2 : y = s <;> cases d <;> simp [h1, h2] <;> by_cases h3 : x = s <;> by_cases h4 : x = y <;> simp_all
theorem insF_true (s : List UInt8) : ∀ (l : List (List UInt8)), insF s l true = l.filter fun x => !decide (x = s)
  | [] => rfl
  | y :: l => by
    rw [insF, Bool.true_or, insF_true s l]
    by_cases h : y = s <;> simp [h]
theorem insF_incr (s : List UInt8) : ∀ (l : List (List UInt8)), incr l → incr (insF s l false)
  | [], _ => by simp [insF]
  | y :: l, hi => by
    obtain ⟨h1, h2⟩ := List.pairwise_cons.1 hi
    rw [insF]
    by_cases hy : y < s
    · have hne : ¬ y = s := fun e => List.lt_irrefl s (by rw [e] at hy; exact hy)
      simp only [hy, not_true_eq_false, and_false, if_false, List.nil_append, hne, decide_false, Bool.or_false, List.cons_append]
      refine List.pairwise_cons.2 ⟨fun z hz => ?_, insF_incr s l h2⟩
      rcases (insF_mem s l false z).1 hz with ⟨hz, _⟩ | ⟨rfl, _⟩
      · exact h1 z hz
      · exact hy
    · have hsy : s = y ∨ s < y := by
        rcases tri y s with e | e | e
        · exact (hy e).elim
        · exact .inl e.symm
        · exact .inr e
      simp only [hy, not_false_eq_true, and_self, if_true, decide_true, Bool.false_or, insF_true]
      have hgt : ∀ z ∈ l, s < z := fun z hz => by
        rcases hsy with rfl | e
        · exact h1 z hz
        · exact List.lt_trans e (h1 z hz)
      have hfl : incr (l.filter fun x => !decide (x = s)) := List.Pairwise.sublist List.filter_sublist h2
      show incr (s :: ((if y = s then [] else [y]) ++ l.filter fun x => !decide (x = s)))
      refine List.pairwise_cons.2 ⟨fun z hz => ?_, ?_⟩
      · rcases List.mem_append.1 hz with hz | hz
        · split at hz
          · cases hz
          · rename_i hne
            rw [List.mem_singleton] at hz
            subst hz
            exact hsy.resolve_left fun e => hne e.symm
        · exact hgt z (List.mem_filter.1 hz).1
      · split
        · exact hfl
        · refine List.pairwise_cons.2 ⟨fun z hz => h1 z (List.mem_filter.1 hz).1, hfl⟩
theorem insF_len (s : List UInt8) : ∀ (l : List (List UInt8)) (d : Bool), (insF s l d).length ≤ l.length + 1
  | [], d => by cases d <;> simp [insF]
  | y :: l, d => by
    rw [insF]
    have h1 := insF_len s l (d || decide (¬ y < s))
    cases d
    · by_cases hy : y < s
      · by_cases hz : y = s <;> simp [hy, hz] at h1 ⊢ <;> omega
      · have h2 : (insF s l true).length ≤ l.length := by rw [insF_true]; exact List.length_filter_le _ _
        by_cases hz : y = s <;> simp [hy, hz] at h1 ⊢ <;> omega
    · have h2 : (insF s l true).length ≤ l.length := by rw [insF_true]; exact List.length_filter_le _ _
      by_cases hz : y = s <;> simp [hz] at h1 ⊢ <;> omega
def insL (l ns : List (List UInt8)) : List (List UInt8) := ns.foldl (fun a s => insF s a false) l
theorem insL_nil (l : List (List UInt8)) : insL l [] = l := rfl
theorem insL_cons (l : List (List UInt8)) (s : List UInt8) (ns : List (List UInt8)) : insL l (s :: ns) = insL (insF s l false) ns := rfl
theorem insL_app (l a b : List (List UInt8)) : insL l (a ++ b) = insL (insL l a) b := by unfold insL; rw [List.foldl_append]
theorem insL_mem (x : List UInt8) : ∀ (ns l : List (List UInt8)), x ∈ insL l ns ↔ x ∈ l ∨ x ∈ ns
  | [], l => by simp [insL]
  | s :: ns, l => by
    rw [insL_cons, insL_mem x ns, insF_mem]
    by_cases h : x = s <;> simp [h]
theorem insL_incr : ∀ (ns l : List (List UInt8)), incr l → incr (insL l ns)
  | [], _, h => h
  | s :: ns, l, h => by rw [insL_cons]; exact insL_incr ns _ (insF_incr s l h)
theorem insL_len : ∀ (ns l : List (List UInt8)), (insL l ns).length ≤ l.length + ns.length
  | [], l => by simp [insL]
  | s :: ns, l => by
    rw [insL_cons]
    have h1 := insL_len ns (insF s l false)
    have h2 := insF_len s l false
    simp only [List.length_cons]
    omega
theorem dd_mem (x : List UInt8) : ∀ l : List (List UInt8), x ∈ dd l ↔ x ∈ l
  | [] => by simp [dd]
  | [y] => by simp [dd]
  | y :: z :: r => by
    have ih := dd_mem x (z :: r)
    rw [dd]
    split
    · rename_i e
      rw [ih, e]
      simp
    · rw [List.mem_cons, ih]
      simp
theorem dd_incr : ∀ l : List (List UInt8), l.Pairwise (fun x y => ¬ y < x) → incr (dd l)
  | [], _ => by simp [dd]
  | [y], _ => by simp [dd]
  | y :: z :: r, h => by
    obtain ⟨h1, h2⟩ := List.pairwise_cons.1 h
    have ih := dd_incr (z :: r) h2
    rw [dd]
    split
    · exact ih
    · rename_i hne
      refine List.pairwise_cons.2 ⟨fun w hw => ?_, ih⟩
      have hyz : y < z := by
        rcases tri y z with e | e | e
        · exact e
        · exact (hne e).elim
        · exact (h1 z (List.mem_cons_self ..) e).elim
      rcases List.mem_cons.1 ((dd_mem w _).1 hw) with rfl | hw
      · exact hyz
      · have hzw : ¬ w < z := (List.pairwise_cons.1 h2).1 w hw
        rcases tri z w with e | e | e
        · exact List.lt_trans hyz e
        · rw [← e]; exact hyz
        · exact (hzw e).elim
theorem sorted_eq (l : List (List UInt8)) : dd (l.mergeSort fun x y => decide (x ≤ y)) = insL [] l := by
  refine incr_unique (dd_incr _ ?_) (insL_incr _ _ List.Pairwise.nil) fun x => ?_
  · have hp := List.pairwise_mergeSort (le := fun x y : List UInt8 => decide (x ≤ y)) (fun a b c h1 h2 => by
      simp only [decide_eq_true_eq] at *
      exact List.le_trans h1 h2) (fun a b => by
      simp only [Bool.or_eq_true, decide_eq_true_eq]
      rcases tri a b with e | rfl | e
      · exact .inl (List.le_of_lt e)
      · exact .inl (List.le_refl _)
      · exact .inr (List.le_of_lt e)) l
    refine hp.imp fun h => ?_
    exact List.not_lt.2 (of_decide_eq_true h)
  · rw [dd_mem, insL_mem]
    simp [List.mem_mergeSort]
end Go.Proofs.Ytadllkhmihbfhaa
