/- Chapter 37: the law HistoryParts, over any program that has its text. -/
import Derived.Test.YtbefchnpilmajaaE11
import Derived.Test.YtbefchnpilmajaaE15
import Derived.Test.YtbefchnpilmajaaL1
import Derived.Test.YtbefchnpilmajaaAlBlk
namespace Go.Proofs.Ytbefchnpilmajaa
open Go.AL
variable {P : Program} [h : Facts P]

theorem evs_len {l : List TPast} : (∀ j (hj : j < l.length), l[j].fSends.length ≤ 60) → (evsOf l).length ≤ 60 * l.length := by
  induction l with
  | nil => intro _; simp
  | cons x l ih =>
    intro h
    have h0 := h 0 (by simp)
    have h1 := ih fun j hj => h (j + 1) (by simpa using hj)
    simp only [evsOf, List.flatMap_cons, List.length_append, List.length_cons] at *
    simp at h0
    omega
theorem evs_ok {l : List TPast} (hok : ∀ y ∈ l, y.ok) : ∀ x ∈ evsOf l, x.fArgs.length ≤ 9223372036854775807 := by
  intro x hx
  obtain ⟨y, hy, hxy⟩ := List.mem_flatMap.1 hx
  exact ((hok y hy).2.2.1.2 x hxy).2.2.2.2.2.2.2.2.1

set_option maxHeartbeats 2000000 in
set_option maxRecDepth 20000 in
theorem c_HistoryParts (l : List TPast) (e : TEvent) (t : Int) (hl : l.length ≤ 9223372036854775807) (hok : ∀ y ∈ l, y.ok) : FCall P 7 [Ls false l, .agg e.cells, .int .i64 t] (fun r => r = .bool true) := by
  refine fcall_ofB [5] h.f7 rfl (by decide) h.mo (by kernel_rfl) fun X hX => ?_
  simp
  refine xcall_fr (c_light l hl) (by simp) ?_
  rintro _ ⟨b, rfl, hb⟩
  cases b with
  | false =>
    simp
    refine xcall_fn c_awake (by simp) ?_
    simp
  | true =>
    have hfit : fitL l := ⟨hl, fun x hx => (hok x hx).1.2.2.2.2.2.2.2.2.1⟩
    obtain ⟨h40, h60⟩ := hb rfl
    have hev := evs_len h60
    have hfs : fitS l := ⟨hl, by omega⟩
    have hso := evs_ok hok
    have hT : ∀ n, (l.take n).length ≤ 9223372036854775807 ∧ ∀ y ∈ l.take n, y.ok := fun n => ⟨by simp; omega, fun y hy => hok y (List.mem_of_mem_take hy)⟩
    have hD : ∀ n, (l.drop n).length ≤ 9223372036854775807 ∧ ∀ y ∈ l.drop n, y.ok := fun n => ⟨by simp; omega, fun y hy => hok y (List.mem_of_mem_drop hy)⟩
    simp
    refine xcall_fn (c_Cut l e hfit) (by simp) ?_
    simp
    refine xcall_fn (c_RCut l e hfit) (by simp) ?_
    generalize l.findIdx (fun x => laterB x e) = n
    simp
    refine awp_quiet [0, 1, 2, 3, 4, 5, 6, 7, 8, 9, 10, 11, 12, 14, 15, 13, 16, 17, 18, 19, 20, 22, 21, 23, 24, 25, 26] _ h.mo (by kernel_rfl) (by decide) (by kernel_rfl) (by rfl) ?_
    simp
    refine ⟨_, c_R37Same _ (hT n).1 (hT n).2, ?_⟩
    simp
    refine ⟨_, c_R37Same _ (hD n).1 (hD n).2, ?_⟩
    simp
    refine ⟨_, c_Find l e hfit, ?_⟩
    simp
    refine ⟨_, c_RFind l e hfit, ?_⟩
    simp
    refine ⟨_, c_Sends l hfs, ?_⟩
    simp
    refine ⟨_, c_RSends l hfs, ?_⟩
    simp
    refine ⟨_, c_SameAll _ (by omega) hso, ?_⟩
    simp
    refine xcall_fn (c_Old l t hfit) (by simp) ?_
    simp
    refine xcall_fn (c_ROld l t hfit) (by simp) ?_
    generalize l.findIdx (fun x => decide (t ≤ x.fEvent.fTime)) = m
    simp
    refine xcall_fn (c_R37Same _ (hT m).1 (hT m).2) (by simp) ?_
    simp
    refine xcall_fn (c_R37Same _ (hD m).1 (hD m).2) (by simp) ?_
    simp
    refine xcall_fn c_awake (by simp) ?_
    simp
end Go.Proofs.Ytbefchnpilmajaa
