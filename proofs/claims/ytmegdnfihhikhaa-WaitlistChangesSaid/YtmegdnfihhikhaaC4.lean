/- Chapter 23: the examples of the chapter, over any program that has their text. -/
import Derived.Test.YtmegdnfihhikhaaC3
namespace Go.Proofs.Ytmegdnfihhikhaa
open Go.AL
variable {P : Program} (h : Facts P)
include h
theorem c_awake : FCall P 8 [] (fun r => r = .bool true) := by
  refine fcall_of h.f8 rfl (by decide) h.mo (by kernel_rfl) fun X => ?_
  simp [h]
  refine xcall_frz (args' := [.sl false true ([4, 2].map (A.int .i64)), .int .i64 7]) (c_Wait h false true [4, 2] 7 (by decide)) (by simp) ?_
  have w1 : waitE [4, 2] 7 = 0 := by decide
  intro r hr
  simp only [isWait, w1, if_true] at hr
  obtain ⟨full, rfl⟩ := hr
  simp [h]
  refine xcall_frz (args' := [.sl false true ([4, 2].map (A.int .i64)), .int .i64 4]) (c_Wait h false true [4, 2] 4 (by decide)) (by simp) ?_
  have w2 : waitE [4, 2] 4 = 4 := by decide
  intro r hr
  simp only [isWait, w2] at hr
  simp at hr
  subst hr
  simp
  refine xcall_frz (args' := [.sl false full ([4, 2, 7].map (A.int .i64)), .int .i64 2]) (c_Signal h false full [4, 2, 7] 2 (by decide)) (by simp) ?_
  have w3 : sig [4, 2, 7] 2 = ([4, 2], [7]) := by decide
  intro r hr
  simp only [isSig, w3] at hr
  obtain ⟨nl1, f1, nl2, f2, rfl⟩ := hr
  simp [h]
  refine xcall_scal (args' := [.sl false full ([4, 2, 7].map (A.int .i64)), .sl false true ([4, 2, 7].map (A.int .i64))]) (c_Same h false full false true [4, 2, 7] [4, 2, 7] (by decide)) (by simp) ?_
  rintro _ rfl
  simp [h]
  refine xcall_scal (args' := [.sl nl1 f1 ([4, 2].map (A.int .i64)), .sl false true ([4, 2].map (A.int .i64))]) (c_Same h nl1 f1 false true [4, 2] [4, 2] (by decide)) (by simp) ?_
  rintro _ rfl
  simp [h]
  refine xcall_scal (args' := [.sl nl2 f2 ([7].map (A.int .i64)), .sl false true ([7].map (A.int .i64))]) (c_Same h nl2 f2 false true [7] [7] (by decide)) (by simp) ?_
  rintro _ rfl
  simp
  have p1 : place [4, 2, 7] 7 = 2 := by decide
  have p2 : place [4, 2, 7] 5 = -1 := by decide
  refine xcall_scal (args' := [.sl false full ([4, 2, 7].map (A.int .i64)), .int .i64 7]) (c_Place h false full [4, 2, 7] 7 (by decide)) (by simp) ?_
  rintro _ rfl
  simp [p1]
  refine xcall_scal (args' := [.sl false full ([4, 2, 7].map (A.int .i64)), .int .i64 5]) (c_Place h false full [4, 2, 7] 5 (by decide)) (by simp) ?_
  rintro _ rfl
  simp [p2]
  refine xcall_frz (args' := [.sl false full ([4, 2, 7].map (A.int .i64)), .int .i64 2]) (c_Leave h false full [4, 2, 7] 2 (by decide)) (by simp) ?_
  have w4 : leave [4, 2, 7] 2 = [4, 7] := by decide
  rw [w4]
  rintro _ ⟨nl3, f3, rfl⟩
  simp [h]
  refine xcall_scal (args' := [.sl nl3 f3 ([4, 7].map (A.int .i64)), .sl false true ([4, 7].map (A.int .i64))]) (c_Same h nl3 f3 false true [4, 7] [4, 7] (by decide)) (by simp) ?_
  rintro _ rfl
  simp [h]
  refine xcall_scal (args' := [.sl false true ([4, 2, 4].map (A.int .i64))]) (c_Check h false true [4, 2, 4] (by decide)) (by simp) ?_
  have w5 : chk [4, 2, 4] = 4 := by decide
  rintro _ rfl
  simp [h, w5]
  refine xcall_scal (args' := [.sl false true ([-1].map (A.int .i64))]) (c_Check h false true [-1] (by decide)) (by simp) ?_
  have w6 : chk [-1] = 2 := by decide
  rintro _ rfl
  simp [w6]
end Go.Proofs.Ytmegdnfihhikhaa
