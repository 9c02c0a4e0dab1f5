/- Chapter 41: Same of events, over any program that has the text. -/
import Derived.Test.YtacfckmhnnhllaaE2
import Derived.Test.YtacfckmhnnhllaaE3
namespace Go.Proofs.Ytacfckmhnnhllaa
open Go.AL
variable {P : Program} [h : Facts P]

/-- Two events are one. -/
def evB (x y : TEvent) : Bool := decide (x.fTime = y.fTime ∧ x.fPrio = y.fPrio ∧ x.fFrom = y.fFrom ∧ x.fSeq = y.fSeq ∧ x.fSite = y.fSite ∧ x.fKind = y.fKind ∧ x.fA = y.fA ∧ x.fB = y.fB ∧ x.fArgs = y.fArgs)
theorem evB_eq (x y : TEvent) : evB x y = true ↔ x = y := by
  unfold evB
  rw [decide_eq_true_iff]
  obtain ⟨⟩ := x
  obtain ⟨⟩ := y
  simp

theorem c_Same (x y : TEvent) (hl : x.fArgs.length ≤ 9223372036854775807) : FCall P 35 [.agg x.cells, .agg y.cells] (fun r => r = .bool (evB x y)) := by
  refine fcall_of h.f35 rfl (by decide) h.mo (by kernel_rfl) fun X hX => ?_
  simp
  refine xcall_fn (c_order x y) (by simp) ?_
  simp
  have go : ∀ {p : Prop}, (¬ p) → (evB x y = true → p) → evB x y = false := fun hn hp => by
    cases hh : evB x y with
    | false => rfl
    | true => exact absurd (hp hh) hn
  have all : evB x y = true → x = y := (evB_eq x y).1
  refine ⟨fun h0 => ⟨fun h1 => ⟨fun h2 => ⟨fun h3 => ⟨fun h4 => ?_, fun hn => go hn fun e => by rw [all e]⟩, fun hn => go hn fun e => by rw [all e]⟩, fun hn => go hn fun e => by rw [all e]⟩, fun hn => go hn fun e => by rw [all e]⟩, fun hn => go hn fun e => by rw [all e, ordZ_zero]; simp⟩
  refine xcall_fn (c_EqInts x.fArgs y.fArgs hl) (by simp) ?_
  obtain ⟨g1, g2, g3, g4⟩ := (ordZ_zero x y).1 h0
  simp [evB, g1, g2, g3, g4, h1, h2, h3, h4]
end Go.Proofs.Ytacfckmhnnhllaa
