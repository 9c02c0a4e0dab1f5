/- Chapter 10: the laws Checks, Same and Names, over any program that has the text, given the library's sort. -/
import Derived.Test.YtadllkhmihbfhaaL2
import Derived.Test.YtadllkhmihbfhaaS3
namespace Go.Proofs.Ytadllkhmihbfhaa
open Go.AL
variable {P : Program} [h : Facts P]

set_option maxHeartbeats 2000000 in
theorem c_StmtChecks (hso : SortAt P 33) (l : List TStmt) (hl : l.length ≤ 9223372036854775807) (hok : ∀ s ∈ l, s.ok) : FCall P 3 [Ls false l] (fun r => r = .bool true) := by
  refine fcall_of h.f3 rfl (by decide) h.mo (by kernel_rfl) fun X hX => ?_
  simp
  refine xcall_fn (c_small l hl hok) (by simp) ?_
  cases smallS l
  · simp
    refine xcall_fn (c_awake hso) (by simp) ?_
    simp
  · simp
    refine xcall_fn (c_SCheck l hl hok) (by simp) ?_
    simp
    refine xcall_fn (c_SRCheck l hl hok) (by simp) ?_
    simp
    refine xcall_fn (c_Count l hl hok) (by simp) ?_
    simp
    refine xcall_fn (c_RCount l hl hok) (by simp) ?_
    simp
    refine xcall_fn (c_SDepth l hl hok) (by simp) ?_
    simp
    refine xcall_fn (c_SRDepth l hl hok) (by simp) ?_
    simp
    refine xcall_fn (c_awake hso) (by simp) ?_
    simp
set_option maxHeartbeats 2000000 in
theorem c_StmtSame (hso : SortAt P 33) (a b : List TStmt) (hl : a.length ≤ 9223372036854775807) (hok : ∀ s ∈ a, s.ok) (hl2 : b.length ≤ 9223372036854775807) (hok2 : ∀ s ∈ b, s.ok) : FCall P 5 [Ls false a, Ls false b] (fun r => r = .bool true) := by
  refine fcall_of h.f5 rfl (by decide) h.mo (by kernel_rfl) fun X hX => ?_
  simp
  refine xcall_fn (c_small a hl hok) (by simp) ?_
  cases smallS a
  · simp
    refine xcall_fn (c_awake hso) (by simp) ?_
    simp
  simp
  refine xcall_fn (c_small b hl2 hok2) (by simp) ?_
  cases smallS b
  · simp
    refine xcall_fn (c_awake hso) (by simp) ?_
    simp
  simp
  refine xcall_fn (c_SSame a hl hok b) (by simp) ?_
  simp
  refine xcall_fn (c_SRSame a hl hok b) (by simp) ?_
  simp
  refine xcall_fn (c_SSame b hl2 hok2 a) (by simp) ?_
  simp
  refine xcall_fn (c_SSame a hl hok b) (by simp) ?_
  rw [eqB_symm b a]
  simp
  refine xcall_fn (c_SSame a hl hok a) (by simp) ?_
  rw [eqB_yes rfl]
  simp
  refine xcall_fn (c_awake hso) (by simp) ?_
  simp
end Go.Proofs.Ytadllkhmihbfhaa
