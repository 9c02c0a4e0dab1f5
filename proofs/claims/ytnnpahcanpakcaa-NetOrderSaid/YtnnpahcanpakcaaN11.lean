/- Chapter 35: networks: the examples, over any program that has the text. -/
import Derived.Test.YtnnpahcanpakcaaN10
namespace Go.Proofs.Ytnnpahcanpakcaa
open Go.AL
variable {P : Program} [h : Facts P]

def exM (f t a time : Int) : TMsg := ⟨f, t, a, ⟨time, 0, 0, 0, 0, 0, 0, 0, []⟩, false, false, 0⟩
def exN0 : TNet := ⟨[3, 0], 0, []⟩
def exN1 : TNet := ⟨[3, 0], 1, [exM 1 2 9 8]⟩
def exN2 : TNet := ⟨[3, 0], 2, [exM 1 2 9 8, exM 1 2 9 7]⟩
def exN3 : TNet := ⟨[3, 0], 2, [exM 1 2 9 8, exM 1 2 9 7, exM 2 1 7 9]⟩
def exN4 : TNet := ⟨[3, 0], 2, [exM 1 2 9 8, exM 1 2 9 7]⟩

set_option maxHeartbeats 2000000 in
set_option maxRecDepth 20000 in
theorem c_awake : FCall P 9 [] (fun r => r = .bool true) := by
  refine fcall_of h.f9 rfl (by decide) h.mo (by kernel_rfl) fun X hX => ?_
  have o1 := c_New (P := P) [3, 0] (by decide)
  rw [show newN [3, 0] = exN0 by decide, show dlyE [3, 0] = 0 by decide] at o1
  have o2 := c_New (P := P) [] (by decide)
  rw [show newN [] = zeroN by decide, show dlyE [] = 7 by decide] at o2
  have o3 := c_Send (P := P) exN0 (exM 1 2 0 8) 5 false (by simp [fitN, exN0])
  rw [show sendN exN0 (exM 1 2 0 8) 5 false = exN1 by decide, show sendE exN0 (exM 1 2 0 8) 5 false = 0 by decide] at o3
  have o4 := c_Send (P := P) exN1 (exM 1 2 0 7) 6 false (by simp [fitN, exN1, exM])
  rw [show sendN exN1 (exM 1 2 0 7) 6 false = exN2 by decide, show sendE exN1 (exM 1 2 0 7) 6 false = 0 by decide] at o4
  have o5 := c_Send (P := P) exN2 (exM 2 1 0 9) 6 true (by simp [fitN, exN2, exM])
  rw [show sendN exN2 (exM 2 1 0 9) 6 true = exN3 by decide, show sendE exN2 (exM 2 1 0 9) 6 true = 0 by decide] at o5
  have hf3 : fitN exN3 := by simp [fitN, exN3, exM]
  have o6 := c_Arrive (P := P) exN3 8 1 hf3
  rw [show arrH exN3 8 1 = [exM 2 1 7 9] by decide, show arrN exN3 8 1 = exN4 by decide] at o6
  have o7 := c_Arrive (P := P) exN3 8 2 hf3
  rw [show arrH exN3 8 2 = [] by decide, show arrN exN3 8 2 = exN3 by decide] at o7
  have o8 := c_Least (P := P) exN3 hf3
  rw [show leastP exN3 = (7, true) by decide] at o8
  have o9 := c_Idle (P := P) exN0 (by simp [fitN, exN0])
  rw [show idleB exN0 = true by decide] at o9
  have o10 := c_Idle (P := P) exN3 hf3
  rw [show idleB exN3 = false by decide] at o10
  have o11 := c_Check (P := P) exN3 (by decide) (by decide)
  rw [show netE exN3 = 0 by decide] at o11
  simp
  refine xcall_fn o1 (by simp) ?_
  simp
  refine xcall_fn o2 (by simp) ?_
  simp
  refine xcall_fn o3 (by simp [exN0, exM]) ?_
  simp [exN1]
  refine xcall_fn o4 (by simp [exN1, exM]) ?_
  simp [exN2]
  refine xcall_fn o5 (by simp [exN2, exM]) ?_
  simp [exN3]
  refine xcall_fn o6 (by simp [exN3, exM]) ?_
  simp
  refine xcall_fn o7 (by simp [exN3, exM]) ?_
  simp
  refine xcall_fn o8 (by simp [exN3, exM]) ?_
  simp (config := {maxSteps := 4000000}) [exN3, exN4, exN0, exM]
  refine xcall_fn o9 (by simp [exN0, exM]) ?_
  simp
  refine xcall_fn o10 (by simp [exN3, exM]) ?_
  simp
  refine xcall_fn o11 (by simp [exN3, exM]) ?_
  simp
end Go.Proofs.Ytnnpahcanpakcaa
