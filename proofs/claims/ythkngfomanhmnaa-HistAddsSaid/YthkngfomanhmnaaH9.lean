/- Chapter 29: histograms: the examples, over any program that has the text. -/
import Derived.Test.YthkngfomanhmnaaH8
namespace Go.Proofs.Ythkngfomanhmnaa
open Go.AL
variable {P : Program} [h : Facts P]

def ex0 : THist := ⟨0, 10, [0, 0, 0], 0, 0⟩
def ex1 : THist := ⟨0, 10, [1, 2, 0], 0, 1⟩
def ex2 : THist := ⟨0, 5, [0, 0, 0], 0, 0⟩

set_option maxHeartbeats 2000000 in
set_option maxRecDepth 20000 in
theorem c_awake : FCall P 11 [] (fun r => r = .bool true) := by
  refine fcall_of h.f11 rfl (by decide) h.mo (by kernel_rfl) fun X hX => ?_
  have o1 := c_New (P := P) 0 10 3
  rw [show newH 0 10 3 = ex0 by rfl, show newE 0 10 3 = 0 by rfl] at o1
  have o2 := c_filled (P := P) ex0 [3, 12, 15, 99] (by decide) (by decide)
  rw [show fillH ex0 [3, 12, 15, 99] = ex1 by decide, show (fill ex0 [3, 12, 15, 99]).isSome = true by decide] at o2
  have o3 := c_Quantile (P := P) ex1 1 2 (by decide)
  rw [show quV ex1 1 2 = 20 by decide, show quF ex1 1 2 = true by decide] at o3
  have o4 := c_Quantile (P := P) ex1 1 4 (by decide)
  rw [show quV ex1 1 4 = 10 by decide, show quF ex1 1 4 = true by decide] at o4
  have o5 := c_Quantile (P := P) ex1 1 1 (by decide)
  rw [show quV ex1 1 1 = 0 by decide, show quF ex1 1 1 = false by decide] at o5
  have o6 := c_Add (P := P) ex1 1000000000001 (by decide)
  rw [show addH ex1 1000000000001 = zeroH by decide, show addE ex1 1000000000001 = 2 by decide] at o6
  have o7 := c_New (P := P) 0 5 3
  rw [show newH 0 5 3 = ex2 by rfl, show newE 0 5 3 = 0 by rfl] at o7
  have o8 := c_Merge (P := P) ex1 ex2 (by decide) (by decide)
  rw [show mrgH ex1 ex2 = zeroH by decide, show mrgE ex1 ex2 = 8 by decide] at o8
  have o9 := c_SameH (P := P) ex1 ex1 (by decide)
  have o10 := c_Count (P := P) ex1 (by decide)
  rw [show countV ex1 = 4 by decide] at o10
  have o11 := c_Check (P := P) ex1 (by decide)
  rw [show hck ex1 = 0 by decide] at o11
  have o12 := c_Check (P := P) zeroH (by decide)
  rw [show hck zeroH = 2 by decide] at o12
  simp
  refine xcall_fn o1 (by simp) ?_
  simp
  refine xcall_fn o2 (by simp) ?_
  simp
  refine xcall_fn o3 (by simp) ?_
  simp
  refine xcall_fn o4 (by simp) ?_
  simp
  refine xcall_fn o5 (by simp) ?_
  simp
  refine xcall_fn o6 (by simp) ?_
  simp
  refine xcall_fn o7 (by simp) ?_
  simp
  refine xcall_fn o8 (by simp) ?_
  simp
  refine xcall_fn o9 (by simp [ex1]) ?_
  simp
  refine xcall_fn o10 (by simp) ?_
  simp
  refine xcall_fn o11 (by simp) ?_
  simp
  refine xcall_fn o12 (by simp [zeroH]) ?_
  simp
end Go.Proofs.Ythkngfomanhmnaa
