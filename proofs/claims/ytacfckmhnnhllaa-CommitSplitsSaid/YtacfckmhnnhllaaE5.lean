/- Chapter 41: the reference's Same of events, over any program that has the text. -/
import Derived.Test.YtacfckmhnnhllaaE4
namespace Go.Proofs.Ytacfckmhnnhllaa
open Go.AL
variable {P : Program} [h : Facts P]

set_option maxHeartbeats 1000000 in
set_option maxRecDepth 10000 in
theorem c_RSame (x y : TEvent) (hl : x.fArgs.length ≤ 9223372036854775807) : FCall P 36 [.agg x.cells, .agg y.cells] (fun r => r = .bool (evB x y)) := by
  refine fcall_of h.f36 rfl (by decide) h.mo (by kernel_rfl) fun X hX => ?_
  simp (config := {maxSteps := 2000000})
  have go : ∀ {p : Prop}, (¬ p) → (evB x y = true → p) → evB x y = false := fun hn hp => by
    cases hh : evB x y with
    | false => rfl
    | true => exact absurd (hp hh) hn
  have all : evB x y = true → x = y := (evB_eq x y).1
  refine ⟨fun h1 => ⟨fun h2 => ⟨fun h3 => ⟨fun h4 => ⟨fun h5 => ⟨fun h6 => ⟨fun h7 => ⟨fun h8 => ?_, fun hn => go hn fun e => by rw [all e]⟩, fun hn => go hn fun e => by rw [all e]⟩, fun hn => go hn fun e => by rw [all e]⟩, fun hn => go hn fun e => by rw [all e]⟩, fun hn => go hn fun e => by rw [all e]⟩, fun hn => go hn fun e => by rw [all e]⟩, fun hn => go hn fun e => by rw [all e]⟩, fun hn => go hn fun e => by rw [all e]⟩
  refine xcall_fn (c_Ints x.fArgs y.fArgs hl) (by simp) ?_
  simp [evB, h1, h2, h3, h4, h5, h6, h7, h8]
end Go.Proofs.Ytacfckmhnnhllaa
