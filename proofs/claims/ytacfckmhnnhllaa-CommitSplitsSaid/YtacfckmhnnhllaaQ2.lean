/- Chapter 41: lists whose elements change their places, plain. -/
import Derived.Test.YtacfckmhnnhllaaQ1
namespace Go.Proofs.Ytacfckmhnnhllaa
open Go.AL

section
variable {α : Type}
theorem set_at {x y : List α} {a b : α} {i : Nat} (h : i = x.length) : (x ++ a :: y).set i b = x ++ b :: y := by
  subst h
  simp
theorem get_at {x y : List α} {a : α} {i : Nat} (h : i = x.length) (hi : i < (x ++ a :: y).length) : (x ++ a :: y)[i] = a := by
  subst h
  simp
theorem swap_at {x y z : List α} {a b : α} {i j : Nat} (hi : i = x.length) (hj : j = x.length + 1 + y.length) : ((x ++ a :: (y ++ b :: z)).set i b).set j a = x ++ b :: (y ++ a :: z) := by
  rw [set_at hi]
  have e : x ++ b :: (y ++ b :: z) = (x ++ b :: y) ++ b :: z := by simp
  rw [e, set_at (by simp; omega)]
  simp
theorem swap_at' {x y z : List α} {a b : α} {i j : Nat} (hi : i = x.length) (hj : j = x.length + 1 + y.length) : ((x ++ a :: (y ++ b :: z)).set j a).set i b = x ++ b :: (y ++ a :: z) := by
  have e : x ++ a :: (y ++ b :: z) = (x ++ a :: y) ++ b :: z := by simp
  rw [e, set_at (by simp; omega)]
  have e2 : (x ++ a :: y) ++ a :: z = x ++ a :: (y ++ a :: z) := by simp
  rw [e2, set_at hi]
/-- While two ranges are swapped. -/
def swR (p u w v q : List α) (k : Nat) : List α := p ++ (v.take k ++ u.drop k) ++ (w ++ ((u.take k ++ v.drop k) ++ q))
theorem swR_zero (p u w v q : List α) : swR p u w v q 0 = p ++ u ++ (w ++ (v ++ q)) := by simp [swR]
theorem swR_end {p u w v q : List α} {k : Nat} (hu : u.length = k) (hv : v.length = k) : swR p u w v q k = p ++ v ++ (w ++ (u ++ q)) := by
  unfold swR
  rw [List.take_of_length_le (by omega), List.take_of_length_le (by omega), List.drop_of_length_le (by omega), List.drop_of_length_le (by omega)]
  simp
theorem swR_len {p u w v q : List α} {k : Nat} (hu : k ≤ u.length) (hv : k ≤ v.length) : (swR p u w v q k).length = p.length + u.length + w.length + v.length + q.length := by
  simp only [swR, List.length_append, List.length_take, List.length_drop]
  omega
theorem swR_form {p u w v q : List α} {k : Nat} (hu : k < u.length) (hv : k < v.length) : swR p u w v q k = (p ++ v.take k) ++ u[k] :: ((u.drop (k + 1) ++ (w ++ u.take k)) ++ v[k] :: (v.drop (k + 1) ++ q)) := by
  unfold swR
  rw [List.drop_eq_getElem_cons hu, List.drop_eq_getElem_cons hv]
  simp only [List.append_assoc, List.cons_append]
theorem swR_next {p u w v q : List α} {k : Nat} (hu : k < u.length) (hv : k < v.length) : swR p u w v q (k + 1) = (p ++ v.take k) ++ v[k] :: ((u.drop (k + 1) ++ (w ++ u.take k)) ++ u[k] :: (v.drop (k + 1) ++ q)) := by
  unfold swR
  rw [List.take_succ_eq_append_getElem hu, List.take_succ_eq_append_getElem hv]
  simp only [List.append_assoc, List.cons_append, List.nil_append]
theorem swR_step {p u w v q : List α} {k i j : Nat} (hu : k < u.length) (hv : k < v.length) (hi : i = p.length + k) (hj : j = p.length + u.length + w.length + k) : ((swR p u w v q k).set i v[k]).set j u[k] = swR p u w v q (k + 1) := by
  rw [swR_form hu hv, swR_next hu hv, swap_at]
  · simp; omega
  · simp; omega
theorem swR_get1 {p u w v q : List α} {k i : Nat} (hu : k < u.length) (hv : k < v.length) (hi : i = p.length + k) (h : i < (swR p u w v q k).length) : (swR p u w v q k)[i] = u[k] := by
  have e := swR_form (p := p) (w := w) (q := q) hu hv
  rw [List.getElem_of_eq e]
  exact get_at (by simp; omega) _
theorem swR_get2 {p u w v q : List α} {k j : Nat} (hu : k < u.length) (hv : k < v.length) (hj : j = p.length + u.length + w.length + k) (h : j < (swR p u w v q k).length) : (swR p u w v q k)[j] = v[k] := by
  have e := swR_form (p := p) (w := w) (q := q) hu hv
  rw [List.getElem_of_eq e]
  have e2 : (p ++ v.take k) ++ u[k] :: ((u.drop (k + 1) ++ (w ++ u.take k)) ++ v[k] :: (v.drop (k + 1) ++ q)) = ((p ++ v.take k) ++ u[k] :: (u.drop (k + 1) ++ (w ++ u.take k))) ++ v[k] :: (v.drop (k + 1) ++ q) := by simp
  rw [List.getElem_of_eq e2]
  exact get_at (by simp; omega) _
/-- While an element is moved forward. -/
def insT (p y : List α) (e : α) (r : List α) (t : Nat) : List α := p ++ y.take t ++ e :: (y.drop t ++ r)
theorem insT_len {p y r : List α} {e : α} {t : Nat} (ht : t ≤ y.length) : (insT p y e r t).length = p.length + y.length + 1 + r.length := by
  simp only [insT, List.length_append, List.length_take, List.length_drop, List.length_cons]
  omega
theorem insT_form {p y r : List α} {e : α} {t : Nat} (ht : t < y.length) : insT p y e r (t + 1) = (p ++ y.take t) ++ y[t] :: ([] ++ e :: (y.drop (t + 1) ++ r)) := by
  unfold insT
  rw [List.take_succ_eq_append_getElem ht]
  simp only [List.append_assoc, List.cons_append, List.nil_append]
theorem insT_step {p y r : List α} {e : α} {t i j : Nat} (ht : t < y.length) (hi : i = p.length + t) (hj : j = p.length + t + 1) : ((insT p y e r (t + 1)).set j y[t]).set i e = insT p y e r t := by
  rw [insT_form ht, swap_at']
  · unfold insT
    rw [List.drop_eq_getElem_cons ht]
    simp only [List.append_assoc, List.cons_append, List.nil_append]
  · simp; omega
  · simp; omega
theorem insT_get1 {p y r : List α} {e : α} {t j : Nat} (ht : t ≤ y.length) (hj : j = p.length + t) (h : j < (insT p y e r t).length) : (insT p y e r t)[j] = e := by
  have e1 : insT p y e r t = (p ++ y.take t) ++ e :: (y.drop t ++ r) := rfl
  rw [List.getElem_of_eq e1]
  exact get_at (by simp; omega) _
theorem insT_get2 {p y r : List α} {e : α} {t i : Nat} (ht : t < y.length) (hi : i = p.length + t) (h : i < (insT p y e r (t + 1)).length) : (insT p y e r (t + 1))[i] = y[t] := by
  rw [List.getElem_of_eq (insT_form ht)]
  exact get_at (by simp; omega) _
/-- Where the element stops it has its place in the merge. -/
theorem insT_end {lt : α → α → Bool} (ho : Ord lt) {p y r : List α} {e : α} {t : Nat} (hs : srt lt y) (ht : t ≤ y.length) (h1 : ∀ u ∈ y.drop t, lt e u = true) (h2 : ∀ s (hs : s < y.length), t = s + 1 → lt e y[s] = false) : insT p y e r t = p ++ (mrg lt y [e] ++ r) := by
  have key : ∀ u ∈ y.take t, lt e u = false := by
    cases t with
    | zero => simp
    | succ s =>
      have hsl : s < y.length := by omega
      have h3 := h2 s hsl rfl
      intro u hu
      obtain ⟨i, hi, rfl⟩ := List.getElem_of_mem hu
      rw [List.length_take] at hi
      rw [List.getElem_take]
      refine ho.ntr _ _ _ h3 ?_
      rcases Nat.lt_or_ge i s with q | q
      · exact List.pairwise_iff_getElem.1 hs i s (by omega) hsl q
      · have : i = s := by omega
        subst this
        exact ord_irr ho _
  have := mrg_last lt e (y.take t) (y.drop t) h1 key
  rw [List.take_append_drop] at this
  rw [this]
  simp [insT]
end
end Go.Proofs.Ytacfckmhnnhllaa
