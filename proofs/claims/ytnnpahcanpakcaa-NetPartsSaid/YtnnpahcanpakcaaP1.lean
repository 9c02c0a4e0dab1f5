/- Chapter 35: networks, plain: the order on the links; what stays is valid. No program in sight. -/
import Derived.Test.YtnnpahcanpakcaaN9
namespace Go.Proofs.Ytnnpahcanpakcaa
open Go.AL

/-- On each link the messages arrive in the order in which they lie. -/
def Ord (l : List TMsg) : Prop := ∀ p, (l.filter fun m => decide (lk m = p)).Pairwise fun a b => a.fArrive ≤ b.fArrive
theorem Ord_nil : Ord [] := fun _ => by simp
theorem Ord_cons {m : TMsg} {l : List TMsg} : Ord (m :: l) ↔ (∀ x ∈ l, lk x = lk m → m.fArrive ≤ x.fArrive) ∧ Ord l := by
  constructor
  · intro h
    refine ⟨fun x hx e => ?_, fun p => ?_⟩
    · have := h (lk m)
      rw [List.filter_cons, if_pos (by simp), List.pairwise_cons] at this
      exact this.1 x (List.mem_filter.2 ⟨hx, by simp [e]⟩)
    · have := h p
      rw [List.filter_cons] at this
      split at this
      · exact (List.pairwise_cons.1 this).2
      · exact this
  · rintro ⟨h1, h2⟩ p
    rw [List.filter_cons]
    split
    · rename_i hp
      refine List.pairwise_cons.2 ⟨fun x hx => ?_, h2 p⟩
      obtain ⟨hx1, hx2⟩ := List.mem_filter.1 hx
      simp only [decide_eq_true_eq] at hx2 hp
      exact h1 x hx1 (hx2.trans hp.symm)
    · exact h2 p
theorem chk_iff : ∀ (l : List TMsg) (f : Int × Int → Int), chk f l = 0 ↔ (∀ m ∈ l, msgB m = true ∧ f (lk m) ≤ m.fArrive) ∧ Ord l
  | [], f => by simp [chk, Ord_nil]
  | m :: l, f => by
    rw [chk_cons, Ord_cons]
    by_cases h1 : msgB m = true
    case neg =>
      rw [if_neg h1]
      refine ⟨fun h => by omega, fun h => (h1 (h.1 m (by simp)).1).elim⟩
    rw [if_pos h1]
    by_cases h2 : m.fArrive < f (lk m)
    · rw [if_pos h2]
      refine ⟨fun h => by omega, fun h => ?_⟩
      have := (h.1 m (by simp)).2
      omega
    rw [if_neg h2, chk_iff l]
    constructor
    · rintro ⟨h3, h4⟩
      refine ⟨fun x hx => ?_, fun x hx e => ?_, h4⟩
      · rcases List.mem_cons.1 hx with rfl | hx
        · exact ⟨h1, by omega⟩
        · have g := (h3 x hx).2
          unfold upd at g
          refine ⟨(h3 x hx).1, ?_⟩
          split at g
          · rename_i e; rw [e]; omega
          · exact g
      · have g := (h3 x hx).2
        unfold upd at g
        rwa [if_pos e] at g
    · rintro ⟨h3, h4, h5⟩
      refine ⟨fun x hx => ⟨(h3 x (by simp [hx])).1, ?_⟩, h5⟩
      unfold upd
      split
      · rename_i e; exact h4 x hx e
      · exact (h3 x (by simp [hx])).2
theorem msgB_arr {m : TMsg} (h : msgB m = true) : 0 ≤ m.fArrive := by
  unfold msgB at h
  rw [Bool.and_eq_true] at h
  exact (wiB_iff.1 h.2).1
theorem chk0_iff {l : List TMsg} : chk (fun _ => 0) l = 0 ↔ (∀ m ∈ l, msgB m = true) ∧ Ord l := by
  rw [chk_iff]
  exact ⟨fun h => ⟨fun m hm => (h.1 m hm).1, h.2⟩, fun h => ⟨fun m hm => ⟨h.1 m hm, msgB_arr (h.1 m hm)⟩, h.2⟩⟩
theorem netE_iff {n : TNet} : netE n = 0 ↔ dlyE n.fDelays = 0 ∧ wiB n.fUsed 1000000000000 = true ∧ (∀ m ∈ n.fMsgs, msgB m = true) ∧ Ord n.fMsgs := by
  constructor
  · intro h
    obtain ⟨h1, h2, h3⟩ := netE_zero h
    exact ⟨h1, h2, chk0_iff.1 h3⟩
  · rintro ⟨h1, h2, h3⟩
    unfold netE
    rw [if_neg (by simp [h1]), if_pos h2]
    exact chk0_iff.2 h3

theorem Ord.filter {l : List TMsg} (h : Ord l) (q : TMsg → Bool) : Ord (l.filter q) := by
  intro p
  rw [List.filter_filter]
  have : (l.filter fun a => decide (lk a = p) && q a) = (l.filter fun m => decide (lk m = p)).filter q := by
    rw [List.filter_filter]
    exact List.filter_congr fun x _ => Bool.and_comm _ _
  rw [this]
  exact (h p).filter _
theorem Ord.snoc {l : List TMsg} {m : TMsg} (h : Ord l) (hm : ∀ x ∈ l, lk x = lk m → x.fArrive ≤ m.fArrive) : Ord (l ++ [m]) := by
  intro p
  rw [List.filter_append]
  refine List.pairwise_append.2 ⟨h p, ?_, ?_⟩
  · by_cases e : lk m = p <;> simp [e]
  · intro a ha b hb
    obtain ⟨ha1, ha2⟩ := List.mem_filter.1 ha
    obtain ⟨hb1, hb2⟩ := List.mem_filter.1 hb
    simp only [List.mem_singleton] at hb1
    subst hb1
    simp only [decide_eq_true_eq] at ha2 hb2
    exact hm a ha1 (ha2.trans hb2.symm)
theorem netE_rest {n : TNet} (h : netE n = 0) (round to : Int) : netE (arrN n round to) = 0 := by
  obtain ⟨h1, h2, h3, h4⟩ := netE_iff.1 h
  unfold arrN
  rw [if_pos h]
  exact netE_iff.2 ⟨h1, h2, fun m hm => h3 m (List.mem_filter.1 hm).1, h4.filter _⟩

/-- The messages on the way come at the earliest when those ahead of them on their links come. -/
theorem arrL_ge (p : Int × Int) : ∀ (l : List TMsg) (a : Int), a ≤ arrL p a l ∧ ∀ x ∈ l, lk x = p → x.fArrive ≤ arrL p a l
  | [], a => by simp [arrL]
  | y :: l, a => by
    rw [arrL_cons]
    obtain ⟨h1, h2⟩ := arrL_ge p l (if lk y = p then max a y.fArrive else a)
    refine ⟨?_, ?_⟩
    · by_cases e : lk y = p
      · rw [if_pos e] at h1 ⊢; omega
      · rw [if_neg e] at h1 ⊢; exact h1
    · intro x hx e
      rcases List.mem_cons.1 hx with rfl | hx
      · rw [if_pos e] at h1 ⊢
        omega
      · exact h2 x hx e
theorem arrL_le (p : Int × Int) {v : Int} : ∀ (l : List TMsg) (a : Int), a ≤ v → (∀ x ∈ l, x.fArrive ≤ v) → arrL p a l ≤ v
  | [], a, h, _ => h
  | y :: l, a, h, hx => by
    rw [arrL_cons]
    refine arrL_le p l _ ?_ fun x h => hx x (by simp [h])
    have := hx y (by simp)
    split <;> omega
theorem sendE_zero {n : TNet} {m : TMsg} {round : Int} {near : Bool} : sendE n m round near = 0 ↔ netE n = 0 ∧ endsB m = true ∧ wiB round 5000 = true ∧ (near = false → n.fUsed < 1000000000000) := by
  unfold sendE
  by_cases h0 : netE n = 0
  case neg => simp [h0]
  by_cases h1 : endsB m = true ∧ wiB round 5000 = true
  case neg =>
    rw [if_neg (by simp [h0]), if_neg h1]
    refine ⟨fun h => by omega, fun h => (h1 ⟨h.2.1, h.2.2.1⟩).elim⟩
  rw [if_neg (by simp [h0]), if_pos h1]
  by_cases h2 : near = false ∧ 1000000000000 ≤ n.fUsed
  · rw [if_pos h2]
    refine ⟨fun h => by omega, fun h => ?_⟩
    have := h.2.2.2 h2.1
    omega
  · rw [if_neg h2]
    refine ⟨fun _ => ⟨h0, h1.1, h1.2, fun e => ?_⟩, fun _ => rfl⟩
    have : ¬ 1000000000000 ≤ n.fUsed := fun g => h2 ⟨e, g⟩
    omega
theorem atR_le {n : TNet} (h : netE n = 0) (round : Int) (near : Bool) : round + 1 ≤ atR n round near ∧ atR n round near ≤ round + 51 := by
  obtain ⟨h1, h2, _⟩ := netE_iff.1 h
  obtain ⟨k1, k2, k3⟩ := dlyE_zero h1
  have g := wiB_iff.1 h2
  unfold atR
  split
  · omega
  · obtain ⟨i, hi⟩ : ∃ i : Nat, n.fUsed.tmod n.fDelays.length = i := ⟨(n.fUsed.tmod n.fDelays.length).toNat, (Int.toNat_of_nonneg (Int.tmod_nonneg _ g.1)).symm⟩
    have hil : i < n.fDelays.length := by have := Int.tmod_lt_of_pos n.fUsed (b := n.fDelays.length) (by omega); omega
    have gd := k3 _ (List.getElem_mem hil)
    have hgd : n.fDelays.getD ((n.fUsed.tmod n.fDelays.length).toNat) 0 = n.fDelays[i] := by rw [hi]; simp [List.getD, hil]
    rw [hgd]
    omega
/-- What Send returns is valid. -/
theorem netE_sent {n : TNet} {m : TMsg} {round : Int} {near : Bool} (h : sendE n m round near = 0) : netE (sendN n m round near) = 0 := by
  unfold sendN
  rw [if_pos h]
  obtain ⟨h0, he, hr, hu⟩ := sendE_zero.1 h
  obtain ⟨h1, h2, h3, h4⟩ := netE_iff.1 h0
  have g2 := wiB_iff.1 h2
  have gr := wiB_iff.1 hr
  have ga := atR_le h0 round near
  obtain ⟨a1, a2⟩ := arrL_ge (lk m) n.fMsgs (atR n round near)
  have hle : ∀ x ∈ n.fMsgs, x.fArrive ≤ 1000000000000 := fun x hx => by
    have := h3 x hx
    unfold msgB at this
    rw [Bool.and_eq_true] at this
    exact (wiB_iff.1 this.2).2
  have a3 := arrL_le (lk m) n.fMsgs (atR n round near) (v := 1000000000000) (by omega) hle
  refine netE_iff.2 ⟨h1, wiB_iff.2 ?_, fun x hx => ?_, ?_⟩
  · unfold sentT
    cases near with
    | true => simpa using g2
    | false => have := hu rfl; simp; omega
  · rcases List.mem_append.1 hx with hx | hx
    · exact h3 x hx
    · rw [List.mem_singleton] at hx
      subst hx
      unfold msgB
      rw [Bool.and_eq_true]
      exact ⟨he, wiB_iff.2 ⟨by show 0 ≤ arrL _ _ _; omega, a3⟩⟩
  · refine h4.snoc fun x hx e => ?_
    exact a2 x hx e
end Go.Proofs.Ytnnpahcanpakcaa
