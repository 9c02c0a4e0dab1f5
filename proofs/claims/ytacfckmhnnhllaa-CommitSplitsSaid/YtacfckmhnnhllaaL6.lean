/- Chapter 41: a log that is divided, and the projections on all sites, plain. -/
import Derived.Test.YtacfckmhnnhllaaL5
namespace Go.Proofs.Ytacfckmhnnhllaa
open Go.AL

theorem cut_app {α : Type} {p : α → Bool} : ∀ {l : List α}, l.Pairwise (fun x y => p y = true → p x = true) → l.filter p ++ l.filter (fun x => !p x) = l
  | [], _ => rfl
  | x :: l, h => by
    obtain ⟨h1, h2⟩ := List.pairwise_cons.1 h
    have ih := cut_app h2
    cases q : p x
    · have h3 : l.filter p = [] := List.filter_eq_nil_iff.2 fun y hy c => by
        have := h1 y hy c
        rw [q] at this
        cases this
      rw [h3, List.nil_append] at ih
      rw [List.filter_cons_of_neg (by simp [q]), List.filter_cons_of_pos (by simp [q]), h3, ih]
      rfl
    · rw [List.filter_cons_of_pos q, List.filter_cons_of_neg (by simp [q]), List.cons_append, ih]
def erlE (t : Int) (e : TEvent) : Bool := decide (e.fTime < t)
def erlR (t : Int) (r : TRec) : Bool := decide (r.fTime < t)
def erl (t : Int) (l : TLog) : TLog := ⟨l.fEvents.filter (erlE t), l.fRecs.filter (erlR t)⟩
def ltr (t : Int) (l : TLog) : TLog := ⟨l.fEvents.filter fun e => !erlE t e, l.fRecs.filter fun e => !erlR t e⟩
theorem erl_good {l : TLog} (t : Int) (h : Good l) : Good (erl t l) := by
  have n1 := List.length_filter_le (erlE t) l.fEvents
  have n2 := List.length_filter_le (erlR t) l.fRecs
  have := h.le
  have := h.lr
  refine ⟨show (l.fEvents.filter (erlE t)).length ≤ _ by omega, show (l.fRecs.filter (erlR t)).length ≤ _ by omega, fun e he => h.ev e (List.mem_filter.1 he).1, List.Pairwise.sublist List.filter_sublist h.es, List.Pairwise.sublist List.filter_sublist h.rs, fun r hr => ?_⟩
  obtain ⟨hr1, hr2⟩ := List.mem_filter.1 hr
  obtain ⟨e, he, q⟩ := List.mem_map.1 (h.rh r hr1)
  refine List.mem_map.2 ⟨e, List.mem_filter.2 ⟨he, ?_⟩, q⟩
  have : e.fTime = r.fTime := (Prod.mk.inj q).1
  simpa [erlE, erlR, this] using hr2
theorem ltr_good {l : TLog} (t : Int) (h : Good l) : Good (ltr t l) := by
  have n1 := List.length_filter_le (fun e => !erlE t e) l.fEvents
  have n2 := List.length_filter_le (fun e => !erlR t e) l.fRecs
  have := h.le
  have := h.lr
  refine ⟨show (l.fEvents.filter fun e => !erlE t e).length ≤ _ by omega, show (l.fRecs.filter fun e => !erlR t e).length ≤ _ by omega, fun e he => h.ev e (List.mem_filter.1 he).1, List.Pairwise.sublist List.filter_sublist h.es, List.Pairwise.sublist List.filter_sublist h.rs, fun r hr => ?_⟩
  obtain ⟨hr1, hr2⟩ := List.mem_filter.1 hr
  obtain ⟨e, he, q⟩ := List.mem_map.1 (h.rh r hr1)
  refine List.mem_map.2 ⟨e, List.mem_filter.2 ⟨he, ?_⟩, q⟩
  have : e.fTime = r.fTime := (Prod.mk.inj q).1
  simpa [erlE, erlR, this] using hr2
theorem cut_cat {l : TLog} (t : Int) (h : Good l) : catL (erl t l) (ltr t l) = l := by
  have h1 : l.fEvents.filter (erlE t) ++ l.fEvents.filter (fun e => !erlE t e) = l.fEvents := cut_app (h.es.imp fun {x y} q c => by
    have := plB_le q
    simp only [erlE, decide_eq_true_eq] at c ⊢
    exact Int.lt_of_le_of_lt this c)
  have h2 : l.fRecs.filter (erlR t) ++ l.fRecs.filter (fun e => !erlR t e) = l.fRecs := cut_app (h.rs.imp fun {x y} q c => by
    have := plB_le q
    simp only [erlR, decide_eq_true_eq] at c ⊢
    exact Int.lt_of_le_of_lt this c)
  unfold catL
  show (⟨l.fEvents.filter (erlE t) ++ l.fEvents.filter (fun e => !erlE t e), l.fRecs.filter (erlR t) ++ l.fRecs.filter (fun e => !erlR t e)⟩ : TLog) = l
  rw [h1, h2]
theorem cut_join {l : TLog} (t : Int) (h : Good l) : joinZ (erl t l) (ltr t l) = (l, 0) := by
  have hl : lateB (erl t l).fEvents (ltr t l).fEvents = false := by
    unfold lateB
    split
    · rename_i q
      have h1 := (List.mem_filter.1 (List.getElem_mem (l := l.fEvents.filter (erlE t)) (n := (erl t l).fEvents.length - 1) (by have := q.1; exact Nat.sub_lt this (by decide)))).2
      have h2 := (List.mem_filter.1 (List.getElem_mem (l := l.fEvents.filter fun e => !erlE t e) (n := 0) q.2)).2
      simp only [erlE, decide_eq_true_eq, Bool.not_eq_true'] at h1 h2
      refine decide_eq_false fun c => of_decide_eq_false h2 (Int.lt_of_le_of_lt c h1)
    · rfl
  have hg : longB l = false := by
    have := h.le
    have := h.lr
    simp only [longB, Bool.or_eq_false_iff, decide_eq_false_iff_not]
    omega
  unfold joinZ
  rw [if_neg (fun q => q (chk_good.2 (erl_good t h))), if_neg (fun q => q (chk_good.2 (ltr_good t h))), if_neg (by simp [hl]), cut_cat t h, if_neg (by simp [hg])]
end Go.Proofs.Ytacfckmhnnhllaa
