/- Chapter 41: the orders by which events and records are sorted, over any program that has the text. -/
import Derived.Test.YtacfckmhnnhllaaS5
namespace Go.Proofs.Ytacfckmhnnhllaa
open Go.AL
variable {P : Program} [h : Facts P]

/-- Elements by their places. -/
def czOf {α : Type} (f : α → Pl) (x y : α) : Int := cmpP (f x) (f y)
def ltOf {α : Type} (f : α → Pl) (x y : α) : Bool := plB (f x) (f y)
theorem ltZ_of {α : Type} (f : α → Pl) : ltZ (czOf f) = ltOf f := by
  funext x y
  exact cmpP_less (f x) (f y)
theorem ord_of {α : Type} (f : α → Pl) : Ord (ltOf f) where
  asym a b q := by
    unfold ltOf plB at *
    simp only [Bool.or_eq_true, Bool.and_eq_true, decide_eq_true_eq, Bool.or_eq_false_iff, Bool.and_eq_false_iff, decide_eq_false_iff_not] at *
    omega
  ntr a b c q r := by
    unfold ltOf plB at *
    simp only [Bool.or_eq_false_iff, Bool.and_eq_false_iff, decide_eq_false_iff_not] at *
    omega
theorem c_cmpR (x y : TRec) : FCall P 42 [.agg x.cells, .agg y.cells] (fun r => r = .int .i64 (czOf atR x y)) := by
  refine fcall_ofB [1] h.f42 rfl (by decide) h.mo (by kernel_rfl) fun X hX => ?_
  simp
  refine awp_quiet [0, 2, 1, 3, 4, 5] _ h.mo (by kernel_rfl) (by decide) (by kernel_rfl) (by rfl) ?_
  simp
  refine ⟨_, c_at x, _, c_at y, ?_⟩
  simp [plA]
  refine ⟨_, c_compare (atR x) (atR y), ?_⟩
  simp [czOf]
theorem c_cmpN (x y : Tentry) : FCall P 60 [.agg x.cells, .agg y.cells] (fun r => r = .int .i64 (czOf (fun z => ofE z.fEvent) x y)) := by
  refine fcall_ofB [1] h.f60 rfl (by decide) h.mo (by kernel_rfl) fun X hX => ?_
  simp
  refine awp_quiet [0, 1, 2, 3, 4, 5, 7, 8, 9, 10, 11, 12, 6, 13, 14, 15, 16] _ h.mo (by kernel_rfl) (by decide) (by kernel_rfl) (by rfl) ?_
  simp
  refine ⟨_, c_Compare _ _, _, c_Compare _ _, ?_⟩
  simp
  refine ⟨_, c_Or [_, _] (by simp), ?_⟩
  simp [czOf, cmpP, ofE]
theorem mrg_map {α β : Type} {lt : α → α → Bool} {lt' : β → β → Bool} (g : α → β) (hg : ∀ a b, lt' (g a) (g b) = lt a b) : ∀ x y : List α, mrg lt' (x.map g) (y.map g) = (mrg lt x y).map g
  | [], y => by simp [mrg_nil_left]
  | a :: x, [] => by simp [mrg_nil_right]
  | a :: x, b :: y => by
    have h1 := mrg_map g hg (a :: x) y
    have h2 := mrg_map g hg x (b :: y)
    simp only [List.map_cons] at h1 h2 ⊢
    rw [mrg_cons, mrg_cons, hg, h1, h2]
    split <;> rfl
theorem isrt_map {α β : Type} {lt : α → α → Bool} {lt' : β → β → Bool} (g : α → β) (hg : ∀ a b, lt' (g a) (g b) = lt a b) (l : List α) : isrt lt' (l.map g) = (isrt lt l).map g := by
  have key : ∀ (l a : List α), (l.map g).foldl (fun z e => mrg lt' z [e]) (a.map g) = (l.foldl (fun z e => mrg lt z [e]) a).map g := by
    intro l
    induction l with
    | nil => intro a; rfl
    | cons e l ih =>
      intro a
      have := mrg_map (lt := lt) (lt' := lt') g hg a [e]
      simp only [List.map_cons, List.map_nil] at this
      rw [List.map_cons, List.foldl_cons, List.foldl_cons, this, ih]
  exact key l []
theorem leL_app {ids : List Nat} : ∀ {a b c d : List A}, leL ids a b → leL ids c d → leL ids (a ++ c) (b ++ d)
  | [], [], _, _, _, h2 => h2
  | x :: a, y :: b, _, _, h1, h2 => by
    simp only [leL, List.cons_append] at h1 ⊢
    exact ⟨h1.1, leL_app h1.2 h2⟩
  | [], _ :: _, _, _, h1, _ => by simp [leL] at h1
  | _ :: _, [], _, _, h1, _ => by simp [leL] at h1
end Go.Proofs.Ytacfckmhnnhllaa
