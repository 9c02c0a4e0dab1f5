/- Chapter 41: stable merging and sorting of lists, plain. -/
import Derived.Test.YtacfckmhnnhllaaTy
namespace Go.Proofs.Ytacfckmhnnhllaa
open Go.AL

section
variable {α : Type}
/-- An order by a strict test: total, transitive. -/
structure Ord (lt : α → α → Bool) : Prop where
  asym : ∀ a b, lt a b = true → lt b a = false
  ntr : ∀ a b c, lt a b = false → lt b c = false → lt a c = false
def leB (lt : α → α → Bool) (a b : α) : Bool := !lt b a
def mrg (lt : α → α → Bool) (x y : List α) : List α := x.merge y (leB lt)
theorem mrg_nil_left (lt : α → α → Bool) (y : List α) : mrg lt [] y = y := by simp [mrg]
theorem mrg_nil_right (lt : α → α → Bool) (x : List α) : mrg lt x [] = x := by simp [mrg]
theorem mrg_cons (lt : α → α → Bool) (a b : α) (x y : List α) : mrg lt (a :: x) (b :: y) = if lt b a = true then b :: mrg lt (a :: x) y else a :: mrg lt x (b :: y) := by
  unfold mrg leB
  rw [List.cons_merge_cons]
  cases lt b a <;> simp
theorem mrg_len (lt : α → α → Bool) (x y : List α) : (mrg lt x y).length = x.length + y.length := by unfold mrg; rw [List.length_merge]
/-- A merge in two parts. -/
theorem mrg_parts (lt : α → α → Bool) (x2 y2 : List α) : ∀ (x1 y1 : List α), (∀ u ∈ x2, ∀ v ∈ y1, lt v u = true) → (∀ u ∈ x1, ∀ v ∈ y2, lt v u = false) → mrg lt (x1 ++ x2) (y1 ++ y2) = mrg lt x1 y1 ++ mrg lt x2 y2
  | [], [], _, _ => by simp [mrg_nil_left]
  | [], v :: y1, h1, h2 => by
    have ih := mrg_parts lt x2 y2 [] y1 (fun u hu w hw => h1 u hu w (List.mem_cons_of_mem _ hw)) h2
    simp only [List.nil_append, mrg_nil_left, List.cons_append] at ih ⊢
    cases x2 with
    | nil => rw [mrg_nil_left, mrg_nil_left]
    | cons u x2 => rw [mrg_cons, if_pos (h1 u (List.mem_cons_self ..) v (List.mem_cons_self ..)), ih]
  | u :: x1, [], h1, h2 => by
    have ih := mrg_parts lt x2 y2 x1 [] h1 (fun u hu w hw => h2 u (List.mem_cons_of_mem _ hu) w hw)
    simp only [List.nil_append, mrg_nil_right, List.cons_append] at ih ⊢
    cases y2 with
    | nil => rw [mrg_nil_right, mrg_nil_right]
    | cons w y2 =>
      have := h2 u (List.mem_cons_self ..) w (List.mem_cons_self ..)
      rw [mrg_cons, if_neg (by rw [this]; decide), ih]
  | u :: x1, v :: y1, h1, h2 => by
    have ih1 := mrg_parts lt x2 y2 (u :: x1) y1 (fun u hu w hw => h1 u hu w (List.mem_cons_of_mem _ hw)) h2
    have ih2 := mrg_parts lt x2 y2 x1 (v :: y1) h1 (fun u hu w hw => h2 u (List.mem_cons_of_mem _ hu) w hw)
    simp only [List.cons_append] at ih1 ih2 ⊢
    rw [mrg_cons, mrg_cons, ih1, ih2]
    split <;> rfl
theorem mrg_one (lt : α → α → Bool) (a : α) (y1 y2 : List α) (h1 : ∀ v ∈ y1, lt v a = true) (h2 : ∀ v ∈ y2, lt v a = false) : mrg lt [a] (y1 ++ y2) = y1 ++ a :: y2 := by
  have e1 := mrg_parts lt [a] y2 [] y1 (by simpa using h1) (by simp)
  have e2 := mrg_parts lt [] y2 [a] [] (by simp) (by simpa using h2)
  simp only [List.nil_append, List.append_nil, mrg_nil_left, mrg_nil_right, List.cons_append] at e1 e2
  rw [e1, e2]
theorem mrg_last (lt : α → α → Bool) (b : α) (x1 x2 : List α) (h1 : ∀ u ∈ x2, lt b u = true) (h2 : ∀ u ∈ x1, lt b u = false) : mrg lt (x1 ++ x2) [b] = x1 ++ b :: x2 := by
  have e1 := mrg_parts lt x2 [b] x1 [] (by simp) (by simpa using h2)
  have e2 := mrg_parts lt x2 [] [] [b] (by simpa using h1) (by simp)
  simp only [List.nil_append, List.append_nil, mrg_nil_left, mrg_nil_right, List.cons_append] at e1 e2
  rw [e1, e2]
/-- Sorted, by the test. -/
abbrev srt (lt : α → α → Bool) (l : List α) : Prop := l.Pairwise fun a b => lt b a = false
/-- Of one rank. -/
def eqk (lt : α → α → Bool) (z u : α) : Bool := !lt z u && !lt u z
/-- l' is l, sorted, those of one rank in their order. -/
def SS (lt : α → α → Bool) (l l' : List α) : Prop := srt lt l' ∧ ∀ z, l'.filter (eqk lt z) = l.filter (eqk lt z)
theorem mrg_mem {lt : α → α → Bool} {x y : List α} {a : α} : a ∈ mrg lt x y ↔ a ∈ x ∨ a ∈ y := List.mem_merge
theorem mrg_srt {lt : α → α → Bool} (ho : Ord lt) : ∀ (x y : List α), srt lt x → srt lt y → srt lt (mrg lt x y)
  | [], y, _, hy => by rw [mrg_nil_left]; exact hy
  | a :: x, [], hx, _ => by rw [mrg_nil_right]; exact hx
  | a :: x, b :: y, hx, hy => by
    have h1 := mrg_srt ho (a :: x) y hx (List.pairwise_cons.1 hy).2
    have h2 := mrg_srt ho x (b :: y) (List.pairwise_cons.1 hx).2 hy
    obtain ⟨hx1, hx2⟩ := List.pairwise_cons.1 hx
    obtain ⟨hy1, hy2⟩ := List.pairwise_cons.1 hy
    rw [mrg_cons]
    split
    · rename_i q
      refine List.pairwise_cons.2 ⟨fun c hc => ?_, h1⟩
      rcases mrg_mem.1 hc with hc | hc
      · rcases List.mem_cons.1 hc with rfl | hc
        · exact ho.asym _ _ q
        · exact ho.ntr _ _ _ (hx1 c hc) (ho.asym _ _ q)
      · exact hy1 c hc
    · rename_i q
      have q : lt b a = false := by simpa using q
      refine List.pairwise_cons.2 ⟨fun c hc => ?_, h2⟩
      rcases mrg_mem.1 hc with hc | hc
      · exact hx1 c hc
      · rcases List.mem_cons.1 hc with rfl | hc
        · exact q
        · exact ho.ntr _ _ _ (hy1 c hc) q
theorem mrg_filter {lt : α → α → Bool} (ho : Ord lt) (z : α) : ∀ (x y : List α), srt lt x → srt lt y → (mrg lt x y).filter (eqk lt z) = x.filter (eqk lt z) ++ y.filter (eqk lt z)
  | [], y, _, hy => by rw [mrg_nil_left]; rfl
  | a :: x, [], hx, _ => by rw [mrg_nil_right]; simp
  | a :: x, b :: y, hx, hy => by
    have h1 := mrg_filter ho z (a :: x) y hx (List.pairwise_cons.1 hy).2
    have h2 := mrg_filter ho z x (b :: y) (List.pairwise_cons.1 hx).2 hy
    obtain ⟨hx1, hx2⟩ := List.pairwise_cons.1 hx
    rw [mrg_cons]
    split
    · rename_i q
      cases e : eqk lt z b
      · rw [List.filter_cons_of_neg (by rw [e]; decide), h1, List.filter_cons_of_neg (a := b) (by rw [e]; decide)]
      · rw [List.filter_cons_of_pos e, h1, List.filter_cons_of_pos (a := b) e]
        simp only [eqk, Bool.and_eq_true, Bool.not_eq_true'] at e
        have hn : (a :: x).filter (eqk lt z) = [] := by
          refine List.filter_eq_nil_iff.2 fun c hc => ?_
          have hac : lt c a = false := by
            rcases List.mem_cons.1 hc with rfl | hc
            · cases g : lt c c
              · rfl
              · have := ho.asym _ _ g; rw [g] at this; cases this
            · exact hx1 c hc
          intro g
          simp only [eqk, Bool.and_eq_true, Bool.not_eq_true'] at g
          have h3 : lt z a = false := by
            cases k : lt z a
            · rfl
            · have := ho.ntr _ _ _ g.1 hac; rw [k] at this; cases this
          have h4 := ho.ntr _ _ _ e.2 h3
          rw [q] at h4
          cases h4
        rw [hn]; rfl
    · cases e : eqk lt z a
      · rw [List.filter_cons_of_neg (by rw [e]; decide), h2, List.filter_cons_of_neg (a := a) (by rw [e]; decide)]
      · rw [List.filter_cons_of_pos e, h2, List.filter_cons_of_pos (a := a) e]; rfl
theorem SS_mrg {lt : α → α → Bool} (ho : Ord lt) {a b x y : List α} (h1 : SS lt a x) (h2 : SS lt b y) : SS lt (a ++ b) (mrg lt x y) :=
  ⟨mrg_srt ho x y h1.1 h2.1, fun z => by rw [mrg_filter ho z x y h1.1 h2.1, h1.2, h2.2, List.filter_append]⟩
theorem SS_self {lt : α → α → Bool} {a : List α} (h : srt lt a) : SS lt a a := ⟨h, fun _ => rfl⟩
theorem SS_nil (lt : α → α → Bool) : SS lt [] [] := SS_self List.Pairwise.nil
theorem ord_irr {lt : α → α → Bool} (ho : Ord lt) (c : α) : lt c c = false := by
  cases g : lt c c
  · rfl
  · have := ho.asym _ _ g; rw [g] at this; cases this
theorem SS_unique {lt : α → α → Bool} (ho : Ord lt) : ∀ {x y : List α}, srt lt x → srt lt y → (∀ z, x.filter (eqk lt z) = y.filter (eqk lt z)) → x = y
  | [], [], _, _, _ => rfl
  | [], b :: y, _, _, h => by
    have := h b
    rw [List.filter_cons_of_pos (by simp [eqk, ord_irr ho])] at this
    cases this
  | a :: x, [], _, _, h => by
    have := h a
    rw [List.filter_cons_of_pos (by simp [eqk, ord_irr ho])] at this
    cases this
  | a :: x, b :: y, hx, hy, h => by
    obtain ⟨hx1, hx2⟩ := List.pairwise_cons.1 hx
    obtain ⟨hy1, hy2⟩ := List.pairwise_cons.1 hy
    have haa : eqk lt a a = true := by simp [eqk, ord_irr ho]
    have hbb : eqk lt b b = true := by simp [eqk, ord_irr ho]
    have hab : a = b := by
      have ha := h a
      have hb := h b
      rw [List.filter_cons_of_pos haa] at ha
      rw [List.filter_cons_of_pos hbb] at hb
      have ma : a ∈ b :: y := (List.mem_filter.1 (by rw [← ha]; exact List.mem_cons_self ..)).1
      have mb : b ∈ a :: x := (List.mem_filter.1 (by rw [hb]; exact List.mem_cons_self ..)).1
      have h1 : lt a b = false := by
        rcases List.mem_cons.1 ma with rfl | q
        · exact ord_irr ho _
        · exact hy1 a q
      have h2 : lt b a = false := by
        rcases List.mem_cons.1 mb with rfl | q
        · exact ord_irr ho _
        · exact hx1 b q
      rw [List.filter_cons_of_pos (by simp [eqk, h1, h2])] at ha
      exact (List.cons.inj ha).1
    subst hab
    rw [SS_unique ho hx2 hy2 fun z => ?_]
    have := h z
    cases e : eqk lt z a
    · rwa [List.filter_cons_of_neg (by rw [e]; decide), List.filter_cons_of_neg (by rw [e]; decide)] at this
    · rw [List.filter_cons_of_pos e, List.filter_cons_of_pos e] at this
      exact (List.cons.inj this).2
/-- The stable sort of a list, by insertion. -/
def isrt (lt : α → α → Bool) (l : List α) : List α := l.foldl (fun a e => mrg lt a [e]) []
theorem isrt_snoc (lt : α → α → Bool) (l : List α) (e : α) : isrt lt (l ++ [e]) = mrg lt (isrt lt l) [e] := by
  unfold isrt
  rw [List.foldl_append]
  rfl
theorem isrt_len (lt : α → α → Bool) (l : List α) : (isrt lt l).length = l.length := by
  have key : ∀ (l a : List α), (l.foldl (fun a e => mrg lt a [e]) a).length = a.length + l.length := by
    intro l
    induction l with
    | nil => intro a; rfl
    | cons e l ih => intro a; rw [List.foldl_cons, ih, mrg_len]; simp only [List.length_cons, List.length_nil]; omega
  have := key l []
  unfold isrt
  rw [this]
  simp
theorem isrt_SS {lt : α → α → Bool} (ho : Ord lt) (l : List α) : SS lt l (isrt lt l) := by
  have key : ∀ (l a b : List α), SS lt a b → SS lt (a ++ l) (l.foldl (fun a e => mrg lt a [e]) b) := by
    intro l
    induction l with
    | nil => intro a b h; simpa using h
    | cons e l ih =>
      intro a b h
      have := ih (a ++ [e]) (mrg lt b [e]) (SS_mrg ho h (SS_self (by simp)))
      simpa using this
  have := key l [] [] (SS_nil lt)
  simpa [isrt] using this
theorem isrt_of {lt : α → α → Bool} (ho : Ord lt) {l x : List α} (h : SS lt l x) : isrt lt l = x :=
  SS_unique ho (isrt_SS ho l).1 h.1 fun z => ((isrt_SS ho l).2 z).trans (h.2 z).symm
theorem isrt_app {lt : α → α → Bool} (ho : Ord lt) (a b : List α) : isrt lt (a ++ b) = mrg lt (isrt lt a) (isrt lt b) := isrt_of ho (SS_mrg ho (isrt_SS ho a) (isrt_SS ho b))
theorem isrt_srt {lt : α → α → Bool} (ho : Ord lt) {a : List α} (h : srt lt a) : isrt lt a = a := isrt_of ho (SS_self h)
end
end Go.Proofs.Ytacfckmhnnhllaa
