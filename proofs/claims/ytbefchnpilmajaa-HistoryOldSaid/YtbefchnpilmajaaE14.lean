/- Chapter 37: Push, over any program that has its text. -/
import Derived.Test.YtbefchnpilmajaaE2
import Derived.Test.YtbefchnpilmajaaAlNew
namespace Go.Proofs.Ytbefchnpilmajaa
open Go.AL
variable {P : Program} [h : Facts P]

def pushE (l : List TPast) (x : TPast) : Int := if hchk l ≠ 0 then hchk l else if 5000 ≤ l.length then 13 else if hchk (l ++ [x]) ≠ 0 then 12 else 0
def pushL (l : List TPast) (x : TPast) : List TPast := if pushE l x = 0 then l ++ [x] else []

theorem c_Clone (l : List TPast) (hl : l.length ≤ 40000000000) (H : List Row) : XCall P 28 [Ls false l] H (fun r H' => r = B (H.length + 1) l ∧ H' = H ++ [dead0] ++ [RF 40 l 0]) := by
  refine xcall_new 40 l (xcall_of h.f28 rfl (by decide) h.mo (by kernel_rfl) fun X hX => ?_)
  cases l with
  | nil =>
    simp [Fresh]
  | cons x l =>
    simp [Fresh]
    simp at hl
    omega

theorem c_Push (l : List TPast) (x : TPast) (hl : l.length ≤ 9223372036854775807) : FCall P 11 [Ls false l, .agg x.cells] (fun r => r = .tup [Ls false (pushL l x), .int .i64 (pushE l x)]) := by
  refine fcall_of h.f11 rfl (by decide) h.mo (by kernel_rfl) fun X hX => ?_
  simp
  refine xcall_fn (c_HCheck l hl) (by simp) ?_
  simp
  refine ⟨fun h1 => by simp [pushL, pushE, h1], fun h1 => ⟨fun h2 => by have h3 : 5000 ≤ l.length := by omega
                                                                        simp [pushL, pushE, h1, h3], fun h2 => ?_⟩⟩
  have h3 : ¬ 5000 ≤ l.length := by omega
  refine awp_tree (.take 0 (.alt 1 (.alt 2 (.alt 3 (.alt 4 (.take 5 .done) .stop) .stop) .stop) (.alt 2 (.alt 1 (.alt 3 (.alt 4 (.take 5 .done) .stop) .stop) (.alt 3 (.alt 1 (.alt 4 (.take 5 .done) .stop) .stop) .stop)) .stop))) _ h.mo (by kernel_rfl) (by decide) (by kernel_rfl) (by rfl) ?_
  simp
  refine ⟨?_, ?_, ?_⟩
  all_goals (refine xcall_mono (c_Clone l (by omega) _) ?_)
  all_goals rintro _ _ ⟨rfl, rfl⟩
  all_goals simp
  all_goals refine ⟨⟨by omega, by omega⟩, ?_⟩
  all_goals refine xcall_fn (c_HCheck (l ++ [x]) (by simp; omega)) (by simp) ?_
  all_goals simp
  all_goals exact ⟨fun h4 => by simp [pushL, pushE, h1, h3, h4], fun h4 => by simp [pushL, pushE, h1, h3, h4]⟩
end Go.Proofs.Ytbefchnpilmajaa
