/- Chapter 23: the law WaitlistChecks, over any program that has its text. -/
import Derived.Test.YtmegdnfihhikhaaC4
namespace Go.Proofs.Ytmegdnfihhikhaa
open Go.AL
variable {P : Program} (h : Facts P)
include h
theorem c_WaitlistChecks (nl full : Bool) (l : List Int) (p : Int) (hl : l.length ≤ 9223372036854775807) : FCall P 3 [.sl nl full (l.map (A.int .i64)), .int .i64 p] (fun r => r = .bool true) := by
  refine fcall_of h.f3 rfl (by decide) h.mo (by kernel_rfl) fun X => ?_
  simp [h]
  refine ⟨fun _ => ?_, fun hlen => ?_⟩
  · refine xcall_scal (c_awake h) (by simp) ?_
    rintro _ rfl
    simp
  have hl' : l.length ≤ 4000000000000000000 := by omega
  refine xcall_scal (c_Check h nl full l hl') (by simp) ?_
  rintro _ rfl
  simp [h]
  refine xcall_scal (c_RCheck h nl full l hl') (by simp) ?_
  rintro _ rfl
  simp [h]
  refine xcall_scal (c_Place h nl full l p hl') (by simp) ?_
  rintro _ rfl
  simp [h]
  refine xcall_scal (c_RPlace h nl full l p hl') (by simp) ?_
  rintro _ rfl
  simp [h]
  refine xcall_scal (c_awake h) (by simp) ?_
  rintro _ rfl
  simp
end Go.Proofs.Ytmegdnfihhikhaa
