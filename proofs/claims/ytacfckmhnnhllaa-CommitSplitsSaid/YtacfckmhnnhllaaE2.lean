/- Chapter 41: the order of events, over any program that has the text. -/
import Derived.Test.YtacfckmhnnhllaaE1
namespace Go.Proofs.Ytacfckmhnnhllaa
open Go.AL
variable {P : Program} [h : Facts P]

def ordZ (x y : TEvent) : Int := orZ [cmpZ x.fTime y.fTime, cmpZ x.fPrio y.fPrio, cmpZ x.fFrom y.fFrom, cmpZ x.fSeq y.fSeq]
theorem cmpZ_self (x : Int) : cmpZ x x = 0 := by simp [cmpZ]
theorem cmpZ_ne {x y : Int} (h : x ≠ y) : cmpZ x y ≠ 0 ∧ (cmpZ x y < 0 ↔ x < y) := by unfold cmpZ; split <;> (try split) <;> omega
theorem cmpZ_zero {x y : Int} : cmpZ x y = 0 ↔ x = y := ⟨fun e => Classical.byContradiction fun hn => (cmpZ_ne hn).1 e, fun e => by rw [e, cmpZ_self]⟩
theorem ordZ_zero (x y : TEvent) : ordZ x y = 0 ↔ x.fTime = y.fTime ∧ x.fPrio = y.fPrio ∧ x.fFrom = y.fFrom ∧ x.fSeq = y.fSeq := by
  unfold ordZ
  simp only [orZ]
  rw [← cmpZ_zero (x := x.fTime), ← cmpZ_zero (x := x.fPrio), ← cmpZ_zero (x := x.fFrom), ← cmpZ_zero (x := x.fSeq)]
  split
  · rename_i h1; exact ⟨fun e => absurd e h1, fun e => e.1⟩
  · split
    · rename_i h2; exact ⟨fun e => absurd e h2, fun e => e.2.1⟩
    · split
      · rename_i h3; exact ⟨fun e => absurd e h3, fun e => e.2.2.1⟩
      · split
        · rename_i h4; exact ⟨fun e => absurd e h4, fun e => e.2.2.2⟩
        · simp_all

theorem c_order (x y : TEvent) : FCall P 53 [.agg x.cells, .agg y.cells] (fun r => r = .int .i64 (ordZ x y)) := by
  refine fcall_of h.f53 rfl (by decide) h.mo (by kernel_rfl) fun X hX => ?_
  simp
  refine awp_quiet [0, 1, 2, 3, 5, 6, 7, 8, 10, 11, 12, 13, 15, 16, 17, 18, 4, 9, 14, 19, 20, 21, 22] _ h.mo (by kernel_rfl) (by decide) (by kernel_rfl) (by rfl) ?_
  simp
  refine ⟨_, c_Compare _ _, _, c_Compare _ _, _, c_Compare _ _, _, c_Compare _ _, ?_⟩
  simp
  refine ⟨_, c_Or [_, _, _, _] (by simp), ?_⟩
  simp [ordZ]
end Go.Proofs.Ytacfckmhnnhllaa
