/- Chapter 41: the symmetric merge, plain. -/
import Derived.Test.YtacfckmhnnhllaaQ2
namespace Go.Proofs.Ytacfckmhnnhllaa
open Go.AL

section
variable {α : Type}
theorem insT_up {p y r : List α} {e : α} {t i j : Nat} (ht : t < y.length) (hi : i = p.length + t) (hj : j = p.length + t + 1) : ((insT p y e r t).set i y[t]).set j e = insT p y e r (t + 1) := by
  rw [insT_form ht]
  have e1 : insT p y e r t = (p ++ y.take t) ++ e :: ([] ++ y[t] :: (y.drop (t + 1) ++ r)) := by
    unfold insT
    rw [List.drop_eq_getElem_cons ht]
    simp only [List.append_assoc, List.cons_append, List.nil_append]
  rw [e1, swap_at]
  · simp; omega
  · simp; omega
theorem insT_get3 {p y r : List α} {e : α} {t j : Nat} (ht : t < y.length) (hj : j = p.length + t + 1) (h : j < (insT p y e r t).length) : (insT p y e r t)[j] = y[t] := by
  have e1 : insT p y e r t = ((p ++ y.take t) ++ [e]) ++ y[t] :: (y.drop (t + 1) ++ r) := by
    unfold insT
    rw [List.drop_eq_getElem_cons ht]
    simp only [List.append_assoc, List.cons_append, List.nil_append]
  rw [List.getElem_of_eq e1]
  exact get_at (by simp; omega) _
theorem part_get1 {p x y q l : List α} (hl : l = p ++ (x ++ (y ++ q))) {c i : Nat} (hc : c < x.length) (hi : i = p.length + c) (h : i < l.length) : l[i] = x[c] := by
  subst hl hi
  rw [List.getElem_append_right (by omega)]
  simp only [Nat.add_sub_cancel_left]
  rw [List.getElem_append_left hc]
theorem part_get2 {p x y q l : List α} (hl : l = p ++ (x ++ (y ++ q))) {c i : Nat} (hc : c < y.length) (hi : i = p.length + x.length + c) (h : i < l.length) : l[i] = y[c] := by
  subst hl hi
  rw [List.getElem_append_right (by omega), List.getElem_append_right (by omega)]
  have : p.length + x.length + c - p.length - x.length = c := by omega
  simp only [this]
  rw [List.getElem_append_left hc]
theorem srt_get {lt : α → α → Bool} (ho : Ord lt) {y : List α} (hs : srt lt y) {c d : Nat} (hd : d < y.length) (hcd : c ≤ d) : lt y[d] (y[c]'(by omega)) = false := by
  rcases Nat.lt_or_ge c d with h | h
  · exact List.pairwise_iff_getElem.1 hs c d (by omega) hd h
  · have : c = d := by omega
    subst this
    exact ord_irr ho _
/-- What a step of the search below tells: all ahead of the place. -/
theorem one_lt {lt : α → α → Bool} (ho : Ord lt) {y : List α} (hs : srt lt y) {e : α} {h c : Nat} (hh : h < y.length) (hc : c ≤ h) (g : lt y[h] e = true) : lt (y[c]'(by omega)) e = true := by
  cases k : lt (y[c]'(by omega)) e
  · have := ho.ntr _ _ _ (srt_get ho hs hh hc) k
    rw [g] at this; cases this
  · rfl
theorem one_ge {lt : α → α → Bool} (ho : Ord lt) {y : List α} (hs : srt lt y) {e : α} {h c : Nat} (hc : c < y.length) (hhc : h ≤ c) (g : lt (y[h]'(by omega)) e = false) : lt y[c] e = false := ho.ntr _ _ _ (srt_get ho hs hc hhc) g
theorem last_le {lt : α → α → Bool} (ho : Ord lt) {x : List α} (hs : srt lt x) {e : α} {h c : Nat} (hh : h < x.length) (hc : c ≤ h) (g : lt e x[h] = false) : lt e (x[c]'(by omega)) = false := ho.ntr _ _ _ g (srt_get ho hs hh hc)
theorem last_gt {lt : α → α → Bool} (ho : Ord lt) {x : List α} (hs : srt lt x) {e : α} {h c : Nat} (hc : c < x.length) (hhc : h ≤ c) (g : lt e (x[h]'(by omega)) = true) : lt e x[c] = true := by
  cases k : lt e x[c]
  · have := ho.ntr _ _ _ k (srt_get ho hs hc hhc)
    rw [g] at this; cases this
  · rfl
theorem mem_take_get {y : List α} {s : Nat} {v : α} (h : v ∈ y.take s) : ∃ c, ∃ hc : c < y.length, c < s ∧ y[c] = v := by
  obtain ⟨i, hi, rfl⟩ := List.getElem_of_mem h
  rw [List.length_take] at hi
  exact ⟨i, by omega, by omega, by rw [List.getElem_take]⟩
theorem mem_drop_get {y : List α} {s : Nat} {v : α} (h : v ∈ y.drop s) : ∃ c, ∃ hc : c < y.length, s ≤ c ∧ y[c] = v := by
  obtain ⟨i, hi, rfl⟩ := List.getElem_of_mem h
  rw [List.length_drop] at hi
  exact ⟨s + i, by omega, by omega, by rw [List.getElem_drop]⟩
/-- The search's place divides a sorted list by one element. -/
theorem one_place {lt : α → α → Bool} {y : List α} {e : α} {s : Nat} (h1 : ∀ c (hc : c < y.length), c < s → lt y[c] e = true) (h2 : ∀ c (hc : c < y.length), s ≤ c → lt y[c] e = false) : mrg lt [e] y = y.take s ++ e :: y.drop s := by
  have := mrg_one lt e (y.take s) (y.drop s) (fun v hv => by obtain ⟨c, hc, q, rfl⟩ := mem_take_get hv; exact h1 c hc q) (fun v hv => by obtain ⟨c, hc, q, rfl⟩ := mem_drop_get hv; exact h2 c hc q)
  rwa [List.take_append_drop] at this
theorem last_place {lt : α → α → Bool} {x : List α} {e : α} {s : Nat} (h1 : ∀ c (hc : c < x.length), c < s → lt e x[c] = false) (h2 : ∀ c (hc : c < x.length), s ≤ c → lt e x[c] = true) : mrg lt x [e] = x.take s ++ e :: x.drop s := by
  have := mrg_last lt e (x.take s) (x.drop s) (fun v hv => by obtain ⟨c, hc, q, rfl⟩ := mem_drop_get hv; exact h2 c hc q) (fun v hv => by obtain ⟨c, hc, q, rfl⟩ := mem_take_get hv; exact h1 c hc q)
  rwa [List.take_append_drop] at this
/-- The two places of the symmetric search divide the merge. -/
theorem sym_parts {lt : α → α → Bool} (ho : Ord lt) {x y : List α} (hx : srt lt x) (hy : srt lt y) {s t : Nat}
    (h1 : s < x.length → 0 < t → ∃ hs : s < x.length, ∃ ht : t - 1 < y.length, lt y[t - 1] x[s] = true)
    (h2 : 0 < s → t < y.length → ∃ hs : s - 1 < x.length, ∃ ht : t < y.length, lt y[t] x[s - 1] = false) :
    mrg lt x y = mrg lt (x.take s) (y.take t) ++ mrg lt (x.drop s) (y.drop t) := by
  have := mrg_parts lt (x.drop s) (y.drop t) (x.take s) (y.take t) (fun u hu v hv => by
    obtain ⟨c, hc, q, rfl⟩ := mem_drop_get hu
    obtain ⟨d, hd, r, rfl⟩ := mem_take_get hv
    obtain ⟨hs, ht, g⟩ := h1 (by omega) (by omega)
    exact last_gt ho hx hc q (one_lt ho hy ht (by omega) g)) (fun u hu v hv => by
    obtain ⟨c, hc, q, rfl⟩ := mem_take_get hu
    obtain ⟨d, hd, r, rfl⟩ := mem_drop_get hv
    obtain ⟨hs, ht, g⟩ := h2 (by omega) (by omega)
    exact last_le ho hx hs (by omega) (one_ge ho hy hd r g))
  rwa [List.take_append_drop, List.take_append_drop] at this
theorem mrg_take_le {lt : α → α → Bool} {x y : List α} (h : x = [] ∨ y = []) : mrg lt x y = x ++ y := by
  rcases h with rfl | rfl
  · rw [mrg_nil_left]; rfl
  · rw [mrg_nil_right, List.append_nil]
end
end Go.Proofs.Ytacfckmhnnhllaa
