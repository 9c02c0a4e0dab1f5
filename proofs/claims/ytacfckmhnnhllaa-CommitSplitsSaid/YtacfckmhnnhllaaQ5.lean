/- Chapter 41: merging logs, plain. -/
import Derived.Test.YtacfckmhnnhllaaE14
import Derived.Test.YtacfckmhnnhllaaE11
import Derived.Test.YtacfckmhnnhllaaE12
import Derived.Test.YtacfckmhnnhllaaE8
namespace Go.Proofs.Ytacfckmhnnhllaa
open Go.AL

theorem ceL_zero : ∀ (o : Option Pl) (l : List TEvent), ceL o l = 0 → (∀ e ∈ l, evtZ e = 0) ∧ srt (ltOf ofE) l ∧ ∀ p, o = some p → ∀ e ∈ l, plB (ofE e) p = false
  | _, [], _ => ⟨by simp, List.Pairwise.nil, by simp⟩
  | o, e :: l, h => by
    rw [ceL] at h
    by_cases h0 : evtZ e = 0
    case neg => rw [if_pos h0] at h; exact absurd h h0
    rw [if_neg (fun q => q h0)] at h
    by_cases ha : anyB o (ofE e) = true
    · rw [if_pos ha] at h; omega
    rw [if_neg ha] at h
    obtain ⟨h1, h2, h3⟩ := ceL_zero _ l h
    have h4 := h3 _ rfl
    refine ⟨fun x hx => ?_, List.pairwise_cons.2 ⟨fun x hx => h4 x hx, h2⟩, fun p hp x hx => ?_⟩
    · rcases List.mem_cons.1 hx with rfl | hx
      · exact h0
      · exact h1 x hx
    · subst hp
      have ha' : plB (ofE e) p = false := by simpa [anyB] using ha
      rcases List.mem_cons.1 hx with rfl | hx
      · exact ha'
      · have := (ord_of (fun q : Pl => q)).ntr (ofE x) (ofE e) p (h4 x hx) ha'
        exact this
theorem ceL_of : ∀ (o : Option Pl) (l : List TEvent), (∀ e ∈ l, evtZ e = 0) → srt (ltOf ofE) l → (∀ p, o = some p → ∀ e ∈ l, plB (ofE e) p = false) → ceL o l = 0
  | _, [], _, _, _ => rfl
  | o, e :: l, h1, h2, h3 => by
    obtain ⟨g1, g2⟩ := List.pairwise_cons.1 h2
    rw [ceL, if_neg (fun q => q (h1 e (List.mem_cons_self ..)))]
    have : ¬ anyB o (ofE e) = true := by
      cases o with
      | none => simp [anyB]
      | some p => simp [anyB, h3 p rfl e (List.mem_cons_self ..)]
    rw [if_neg this]
    exact ceL_of _ l (fun x hx => h1 x (List.mem_cons_of_mem _ hx)) g2 fun p hp x hx => by
      cases hp
      exact g1 x hx
theorem crL_zero (S : List Pl) : ∀ (o : Option Pl) (l : List TRec), crL S o l = 0 → (∀ r ∈ l, hapB S (atR r) = true) ∧ srt (ltOf atR) l ∧ ∀ p, o = some p → ∀ e ∈ l, plB (atR e) p = false
  | _, [], _ => ⟨by simp, List.Pairwise.nil, by simp⟩
  | o, e :: l, h => by
    rw [crL] at h
    by_cases ha : anyB o (atR e) = true
    · rw [if_pos ha] at h; omega
    rw [if_neg ha] at h
    by_cases hh : hapB S (atR e) = false
    · rw [if_pos hh] at h; omega
    rw [if_neg hh] at h
    obtain ⟨h1, h2, h3⟩ := crL_zero S _ l h
    have h4 := h3 _ rfl
    refine ⟨fun x hx => ?_, List.pairwise_cons.2 ⟨fun x hx => h4 x hx, h2⟩, fun p hp x hx => ?_⟩
    · rcases List.mem_cons.1 hx with rfl | hx
      · simpa using hh
      · exact h1 x hx
    · subst hp
      have ha' : plB (atR e) p = false := by simpa [anyB] using ha
      rcases List.mem_cons.1 hx with rfl | hx
      · exact ha'
      · exact (ord_of (fun q : Pl => q)).ntr (atR x) (atR e) p (h4 x hx) ha'
theorem crL_of (S : List Pl) : ∀ (o : Option Pl) (l : List TRec), (∀ r ∈ l, hapB S (atR r) = true) → srt (ltOf atR) l → (∀ p, o = some p → ∀ e ∈ l, plB (atR e) p = false) → crL S o l = 0
  | _, [], _, _, _ => rfl
  | o, e :: l, h1, h2, h3 => by
    obtain ⟨g1, g2⟩ := List.pairwise_cons.1 h2
    have : ¬ anyB o (atR e) = true := by
      cases o with
      | none => simp [anyB]
      | some p => simp [anyB, h3 p rfl e (List.mem_cons_self ..)]
    rw [crL, if_neg this, if_neg (by rw [h1 e (List.mem_cons_self ..)]; decide)]
    exact crL_of S _ l (fun x hx => h1 x (List.mem_cons_of_mem _ hx)) g2 fun p hp x hx => by
      cases hp
      exact g1 x hx
/-- A log that is accepted. -/
structure Good (l : TLog) : Prop where
  le : l.fEvents.length ≤ 5000
  lr : l.fRecs.length ≤ 50000
  ev : ∀ e ∈ l.fEvents, evtZ e = 0
  es : srt (ltOf ofE) l.fEvents
  rs : srt (ltOf atR) l.fRecs
  rh : ∀ r ∈ l.fRecs, atR r ∈ l.fEvents.map ofE
theorem chk_good {l : TLog} : chkZ l = 0 ↔ Good l := by
  unfold chkZ
  constructor
  · intro h
    by_cases hl : longB l = true
    · rw [if_pos hl] at h; omega
    rw [if_neg hl] at h
    by_cases hc : ceL none l.fEvents = 0
    case neg => rw [if_pos hc] at h; exact absurd h hc
    rw [if_neg (fun q => q hc)] at h
    obtain ⟨a1, a2, _⟩ := ceL_zero _ _ hc
    obtain ⟨b1, b2, _⟩ := crL_zero _ _ _ h
    simp only [longB, Bool.or_eq_true, decide_eq_true_eq] at hl
    exact ⟨by omega, by omega, a1, a2, b2, fun r hr => of_decide_eq_true (b1 r hr)⟩
  · rintro ⟨h1, h2, h3, h4, h5, h6⟩
    have hl : ¬ longB l = true := by simp only [longB, Bool.or_eq_true, decide_eq_true_eq]; omega
    have hc := ceL_of none l.fEvents h3 h4 (by simp)
    rw [if_neg hl, if_neg (fun q => q hc)]
    exact crL_of _ none l.fRecs (fun r hr => decide_eq_true (h6 r hr)) h5 (by simp)
/-- A projection of a log that is accepted. -/
theorem prj_good {l : TLog} (h : Good l) (s : Int) : Good (prjL l s) := by
  have e1 : (prjL l s).fEvents = prjE s l.fEvents := rfl
  have e2 : (prjL l s).fRecs = prjR s l.fRecs := rfl
  refine ⟨?_, ?_, ?_, ?_, ?_, ?_⟩
  · rw [e1]; have := prjE_len s l.fEvents; have := h.le; omega
  · rw [e2]; have := prjR_len s l.fRecs; have := h.lr; omega
  · rw [e1]; intro e he; exact h.ev e (List.mem_filter.1 he).1
  · rw [e1]; exact List.Pairwise.sublist List.filter_sublist h.es
  · rw [e2]; exact List.Pairwise.sublist List.filter_sublist h.rs
  · rw [e1, e2]
    intro r hr
    obtain ⟨hr1, hr2⟩ := List.mem_filter.1 hr
    obtain ⟨e, he, q⟩ := List.mem_map.1 (h.rh r hr1)
    refine List.mem_map.2 ⟨e, List.mem_filter.2 ⟨he, ?_⟩, q⟩
    have : e.fSite = r.fSite := (Prod.mk.inj q).2
    simpa [this] using hr2
end Go.Proofs.Ytacfckmhnnhllaa
