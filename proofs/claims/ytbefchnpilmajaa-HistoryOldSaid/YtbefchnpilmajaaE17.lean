/- Chapter 37: the examples, over any program that has the text. -/
import Derived.Test.YtbefchnpilmajaaE9
import Derived.Test.YtbefchnpilmajaaE12
import Derived.Test.YtbefchnpilmajaaE14
namespace Go.Proofs.Ytbefchnpilmajaa
open Go.AL
variable {P : Program} [h : Facts P]

def ex4 : List TPast := [atT 3 0, atT 5 1, atT 5 2, atT 8 3]
def ex3 : List TPast := [atT 10 1, atT 12 5, atT 15 2]
def exE : TEvent := ⟨12, 0, 0, 4, 0, 0, 0, 0, []⟩

set_option maxHeartbeats 2000000 in
theorem c_awake : FCall P 10 [] (fun r => r = .bool true) := by
  refine fcall_of h.f10 rfl (by decide) h.mo (by kernel_rfl) fun X hX => ?_
  have f4 : fitL ex4 := by simp [fitL, ex4, atT]
  have f3 : fitL ex3 := by simp [fitL, ex3, atT]
  have o1 := c_Old (P := P) ex4 5 f4
  rw [show ex4.findIdx (fun x => decide (5 ≤ x.fEvent.fTime)) = 1 by decide] at o1
  have o2 := c_Cut (P := P) ex3 exE f3
  rw [show ex3.findIdx (fun x => laterB x exE) = 1 by decide] at o2
  have o3 := c_Push (P := P) ex4 (atT 4 4) (by decide)
  rw [show pushL ex4 (atT 4 4) = [] by rfl, show pushE ex4 (atT 4 4) = 12 by decide] at o3
  have o4 := c_Push (P := P) ex4 (atT 8 4) (by decide)
  rw [show pushL ex4 (atT 8 4) = ex4 ++ [atT 8 4] by rfl, show pushE ex4 (atT 8 4) = 0 by decide] at o4
  have o5 := c_Find (P := P) ex4 (atT 5 2).fEvent f4
  rw [show idxZ (fun x => evB x.fEvent (atT 5 2).fEvent) ex4 = 2 by decide] at o5
  have o6 := c_Find (P := P) ex4 (atT 5 4).fEvent f4
  rw [show idxZ (fun x => evB x.fEvent (atT 5 4).fEvent) ex4 = -1 by decide] at o6
  have o7 := c_HCheck (P := P) ex4 (by decide)
  rw [show hchk ex4 = 0 by decide] at o7
  simp
  refine xcall_fn (c_at 3 0) (by simp) ?_
  simp
  refine xcall_fn (c_at 5 1) (by simp) ?_
  simp
  refine xcall_fn (c_at 5 2) (by simp) ?_
  simp
  refine xcall_fn (c_at 8 3) (by simp) ?_
  simp
  refine xcall_fn o1 (by simp [ex4]) ?_
  simp [ex4]
  refine xcall_fn (c_at 10 1) (by simp) ?_
  simp
  refine xcall_fn (c_at 12 5) (by simp) ?_
  simp
  refine xcall_fn (c_at 15 2) (by simp) ?_
  simp
  refine xcall_fn o2 (by simp [ex3, exE]) ?_
  simp [ex3]
  refine xcall_fn (c_at 4 4) (by simp) ?_
  simp
  refine xcall_fn o3 (by simp [ex4]) ?_
  simp
  refine xcall_fn (c_at 8 4) (by simp) ?_
  simp
  refine xcall_fn o4 (by simp [ex4]) ?_
  simp [ex4]
  refine xcall_fn (c_at 5 2) (by simp) ?_
  simp
  refine xcall_fn o5 (by simp [ex4]) ?_
  simp
  refine xcall_fn (c_at 5 4) (by simp) ?_
  simp
  refine xcall_fn o6 (by simp [ex4]) ?_
  simp
  refine xcall_fn o7 (by simp [ex4]) ?_
  simp
end Go.Proofs.Ytbefchnpilmajaa
