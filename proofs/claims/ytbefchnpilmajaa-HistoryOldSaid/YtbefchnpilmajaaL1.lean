/- Chapter 37: the law HistoryPushes, over any program that has its text. -/
import Derived.Test.YtbefchnpilmajaaE13
import Derived.Test.YtbefchnpilmajaaE16
import Derived.Test.YtbefchnpilmajaaE17
import Derived.Test.YtbefchnpilmajaaS3
namespace Go.Proofs.Ytbefchnpilmajaa
open Go.AL
variable {P : Program} [h : Facts P]

theorem pushL_ok {l : List TPast} {x : TPast} (hl : ∀ y ∈ l, y.ok) (hx : x.ok) : ∀ y ∈ pushL l x, y.ok := by
  unfold pushL
  split
  · intro y hy
    rcases List.mem_append.1 hy with h1 | h1
    · exact hl y h1
    · rw [List.mem_singleton.1 h1]; exact hx
  · simp
theorem pushL_len {l : List TPast} {x : TPast} : (pushL l x).length ≤ l.length + 1 := by
  unfold pushL
  split <;> simp
theorem pushL_chk {l : List TPast} {x : TPast} (h0 : pushE l x = 0) : hchk (pushL l x) = 0 := by
  have h1 := h0
  unfold pushE at h1
  unfold pushL
  rw [if_pos h0]
  split at h1
  · rename_i g; exact absurd h1 g
  · split at h1
    · cases h1
    · split at h1
      · cases h1
      · rename_i g; exact Classical.not_not.1 g

theorem c_HistoryPushes (l : List TPast) (x : TPast) (hl : l.length ≤ 9223372036854775807) (hok : ∀ y ∈ l, y.ok) (hx : x.ok) : FCall P 3 [Ls false l, .agg x.cells] (fun r => r = .bool true) := by
  refine fcall_of h.f3 rfl (by decide) h.mo (by kernel_rfl) fun X hX => ?_
  simp
  refine xcall_fr (c_light l hl) (by simp) ?_
  rintro _ ⟨b, rfl, hb⟩
  cases b with
  | false =>
    simp
    refine xcall_fn c_awake (by simp) ?_
    simp
  | true =>
    simp
    refine xcall_fr (c_light [x] (by simp)) (by simp) ?_
    rintro _ ⟨c, rfl, _⟩
    cases c with
    | false =>
      simp
      refine xcall_fn c_awake (by simp) ?_
      simp
    | true =>
      simp
      refine xcall_fn (c_Push l x hl) (by simp) ?_
      simp
      refine xcall_fn (c_RPush l x hl) (by simp) ?_
      simp
      refine xcall_fn (c_HCheck l hl) (by simp) ?_
      simp
      refine xcall_fn (c_RCheck l hl) (by simp) ?_
      simp
      have hlen := pushL_len (l := l) (x := x)
      have h40 := (hb rfl).1
      refine xcall_fn (c_R37Same (pushL l x) (by omega) (pushL_ok hok hx)) (by simp) ?_
      simp
      refine ⟨fun h0 => ?_, fun h0 => ?_⟩
      · refine xcall_fn (c_HCheck (pushL l x) (by omega)) (by simp) ?_
        simp [pushL_chk h0]
        refine xcall_fn c_awake (by simp) ?_
        simp
      · refine xcall_fn c_awake (by simp) ?_
        simp
end Go.Proofs.Ytbefchnpilmajaa
