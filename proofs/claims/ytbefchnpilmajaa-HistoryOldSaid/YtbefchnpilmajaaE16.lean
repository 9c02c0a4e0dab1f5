/- Chapter 37: the reference's Push, over any program that has its text. -/
import Derived.Test.YtbefchnpilmajaaE14
namespace Go.Proofs.Ytbefchnpilmajaa
open Go.AL
variable {P : Program} [h : Facts P]

theorem c_RPush (l : List TPast) (x : TPast) (hl : l.length ≤ 9223372036854775807) : FCall P 12 [Ls false l, .agg x.cells] (fun r => r = .tup [Ls false (pushL l x), .int .i64 (pushE l x)]) := by
  refine fcall_of h.f12 rfl (by decide) h.mo (by kernel_rfl) fun X hX => ?_
  simp
  refine xcall_fn (c_RCheck l hl) (by simp) ?_
  simp
  refine ⟨fun h1 => by simp [pushL, pushE, h1], fun h1 => ⟨fun h2 => by have h3 : 5000 ≤ l.length := by omega
                                                                        simp [pushL, pushE, h1, h3], fun h2 => ?_⟩⟩
  have h3 : ¬ 5000 ≤ l.length := by
    have : l.length ≤ 5000 := by
      unfold hchk at h1
      split at h1
      · cases h1
      · omega
    omega
  refine awp_tree (.take 1 (.alt 0 (.alt 2 (.alt 3 (.alt 4 (.alt 5 (.take 6 .done) .stop) .stop) .stop) (.alt 3 (.alt 2 (.alt 4 (.alt 5 (.take 6 .done) .stop) .stop) (.alt 4 (.alt 2 (.alt 5 (.take 6 .done) .stop) .stop) .stop)) .stop)) (.alt 3 (.alt 0 (.alt 2 (.alt 4 (.alt 5 (.take 6 .done) .stop) .stop) (.alt 4 (.alt 2 (.alt 5 (.take 6 .done) .stop) .stop) .stop)) (.alt 4 (.alt 0 (.alt 2 (.alt 5 (.take 6 .done) .stop) .stop) .stop) .stop)) .stop))) _ h.mo (by kernel_rfl) (by decide) (by kernel_rfl) (by rfl) ?_
  simp
  repeat' (with_reducible apply And.intro)
  all_goals (try omega)
  all_goals refine xcall_fn (c_RCheck (l ++ [x]) (by simp; omega)) (by simp) ?_
  all_goals simp
  all_goals exact ⟨fun h4 => by simp [pushL, pushE, h1, h3, h4], fun h4 => by simp [pushL, pushE, h1, h3, h4]⟩
end Go.Proofs.Ytbefchnpilmajaa
