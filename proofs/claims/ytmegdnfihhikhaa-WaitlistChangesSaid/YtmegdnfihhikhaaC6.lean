/- Chapter 23: plain laws of lists: what a valid queue is, and what comes of it. No program in sight. -/
import Derived.Test.YtmegdnfihhikhaaC4
namespace Go.Proofs.Ytmegdnfihhikhaa
open Go.AL

theorem chkGo_zero : ∀ (l done : List Int), chkGo done l = 0 ↔ (∀ x ∈ l, ¬ (x < 0 ∨ x > 1000000000000)) ∧ l.Nodup ∧ ∀ x ∈ l, x ∉ done
  | [], done => by simp [chkGo]
  | x :: r, done => by
    rw [chkGo]
    split
    · rename_i hx
      exact ⟨fun h => absurd h (by decide), fun h => absurd hx (h.1 x (by simp))⟩
    · rename_i hx
      split
      · rename_i hm
        simp [hm]
      · rename_i hm
        rw [chkGo_zero r (done ++ [x])]
        rw [List.nodup_cons]
        constructor
        · rintro ⟨h1, h2, h3⟩
          refine ⟨?_, ⟨fun hx2 => ?_, h2⟩, ?_⟩
          · intro y hy
            rcases List.mem_cons.1 hy with rfl | hy
            · exact hx
            · exact h1 y hy
          · have := h3 x hx2
            simp at this
          · intro y hy
            rcases List.mem_cons.1 hy with rfl | hy
            · exact hm
            · intro hd; exact h3 y hy (by simp [hd])
        · rintro ⟨h1, ⟨h2, h3⟩, h4⟩
          refine ⟨fun y hy => h1 y (by simp [hy]), h3, fun y hy hd => ?_⟩
          rcases List.mem_append.1 hd with hd | hd
          · exact h4 y (by simp [hy]) hd
          · have : y = x := by simpa using hd
            subst this
            exact h2 hy

theorem chk_zero (l : List Int) : chk l = 0 ↔ l.length ≤ 300 ∧ (∀ x ∈ l, ¬ (x < 0 ∨ x > 1000000000000)) ∧ l.Nodup := by
  unfold chk
  split
  · simp; omega
  · rw [chkGo_zero]; simp; omega

theorem waitE_zero (l : List Int) (p : Int) : waitE l p = 0 ↔ chk l = 0 ∧ ¬ (p < 0 ∨ p > 1000000000000) ∧ p ∉ l ∧ l.length < 300 := by
  unfold waitE
  by_cases h1 : chk l = 0
  · rw [if_pos h1]
    by_cases h2 : p < 0 ∨ p > 1000000000000
    · rw [if_pos h2]; simp [h2]
    · rw [if_neg h2]
      by_cases h3 : p ∈ l
      · rw [if_pos h3]; simp [h3]
      · rw [if_neg h3]
        by_cases h4 : l.length ≥ 300
        · rw [if_pos h4]; simp; omega
        · rw [if_neg h4]; simp only [h1, h2, h3, not_false_eq_true, true_and, true_iff]; omega
  · rw [if_neg h1]; simp [h1]

theorem chk_wait {l : List Int} {p : Int} (h : waitE l p = 0) : chk (l ++ [p]) = 0 := by
  obtain ⟨h1, h2, h3, h4⟩ := (waitE_zero l p).1 h
  obtain ⟨_, h5, h6⟩ := (chk_zero l).1 h1
  refine (chk_zero _).2 ⟨by simp; omega, ?_, ?_⟩
  · intro x hx
    rcases List.mem_append.1 hx with hx | hx
    · exact h5 x hx
    · have : x = p := by simpa using hx
      subst this; exact h2
  · rw [List.nodup_append]
    refine ⟨h6, by simp, fun a ha b hb e => ?_⟩
    have : b = p := by simpa using hb
    subst this; subst e; exact h3 ha

theorem idx_last {l : List Int} {p : Int} (h : p ∉ l) : (l ++ [p]).idxOf p = l.length := by
  rw [List.idxOf_append, if_neg h]; simp

theorem place_new {l : List Int} {p : Int} (h : waitE l p = 0) : place (l ++ [p]) p = l.length := by
  have hp := ((waitE_zero l p).1 h).2.2.1
  rw [place, if_pos (chk_wait h), idxOf, if_pos (by simp), idx_last hp]

theorem place_old {l : List Int} {p : Int} (h : waitE l p = 0) : place l p = -1 := by
  obtain ⟨h1, _, hp, _⟩ := (waitE_zero l p).1 h
  rw [place, if_pos h1, idxOf, if_neg hp]

theorem place_other {l : List Int} {p o : Int} (h : waitE l p = 0) (ho : ¬ o = p) : place (l ++ [p]) o = place l o := by
  obtain ⟨h1, _, hp, _⟩ := (waitE_zero l p).1 h
  rw [place, place, if_pos (chk_wait h), if_pos h1, idxOf, idxOf]
  by_cases hm : o ∈ l
  · rw [if_pos hm, if_pos (by simp [hm]), List.idxOf_append, if_pos hm]
  · rw [if_neg hm, if_neg (by simp [hm, ho])]

theorem leave_new {l : List Int} {p : Int} (h : waitE l p = 0) : leave (l ++ [p]) p = l := by
  have hp := ((waitE_zero l p).1 h).2.2.1
  rw [leave, if_pos (chk_wait h), if_pos (by simp), idx_last hp, List.eraseIdx_eq_take_drop_succ]
  simp

theorem place_left {m : List Int} (hm : chk m = 0) (o : Int) : place (leave m o) o = -1 := by
  obtain ⟨_, _, hn⟩ := (chk_zero m).1 hm
  rw [place]
  split
  · rw [idxOf, if_neg]
    rw [leave, if_pos hm]
    split
    · rw [← List.erase_eq_eraseIdx_of_idxOf rfl]
      exact fun h => (hn.mem_erase_iff.1 h).1 rfl
    · assumption
  · rfl

theorem sig_chk {l : List Int} (h : chk l = 0) (k : Nat) : chk (l.take k) = 0 ∧ chk (l.drop k) = 0 := by
  obtain ⟨h1, h2, h3⟩ := (chk_zero l).1 h
  refine ⟨(chk_zero _).2 ⟨by simp; omega, fun x hx => h2 x (List.mem_of_mem_take hx), h3.sublist (List.take_sublist _ _)⟩, (chk_zero _).2 ⟨by simp; omega, fun x hx => h2 x (List.mem_of_mem_drop hx), h3.sublist (List.drop_sublist _ _)⟩⟩
end Go.Proofs.Ytmegdnfihhikhaa
