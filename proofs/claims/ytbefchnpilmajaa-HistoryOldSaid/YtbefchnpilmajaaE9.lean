/- Chapter 37: Cut, Find, Old, over any program that has the text. -/
import Derived.Test.YtbefchnpilmajaaE8
namespace Go.Proofs.Ytbefchnpilmajaa
open Go.AL
variable {P : Program} [h : Facts P]

def fitL (l : List TPast) : Prop := l.length ≤ 9223372036854775807 ∧ ∀ x ∈ l, x.fEvent.fArgs.length ≤ 9223372036854775807

theorem c_Find (l : List TPast) (e : TEvent) (hl : fitL l) : FCall P 18 [Ls false l, .agg e.cells] (fun r => r = .int .i64 (idxZ (fun x => evB x.fEvent e) l)) := by
  refine fcall_of h.f18 rfl (by decide) h.mo (by kernel_rfl) fun X hX => ?_
  simp
  refine xcall_fn (c_IndexFunc (fun x => evB x.fEvent e) _ [.ptr (.agg e.cells)] l hl.1 (by simp) fun x hx => c_FindF x e (hl.2 x hx)) (by simp) ?_
  simp

theorem c_split (l : List TPast) (p : TPast → Bool) (hl : l.length ≤ 9223372036854775807) : FCall P 31 [Ls false l, .int .i64 (idxZ p l)] (fun r => r = .tup [Ls false (l.take (l.findIdx p)), Ls false (l.drop (l.findIdx p))]) := by
  refine fcall_of h.f31 rfl (by decide) h.mo (by kernel_rfl) fun X hX => ?_
  obtain ⟨k, hk⟩ : ∃ k, l.findIdx p = k := ⟨_, rfl⟩
  have hle : k ≤ l.length := by rw [← hk]; exact List.findIdx_le_length
  unfold idxZ
  rw [hk]
  rcases Nat.lt_or_ge k l.length with hlt | hge
  · have h0 : ¬ ((k : Int) < 0) := by omega
    have e : (l.drop k).take (l.length - k) = l.drop k := List.take_of_length_le (by simp)
    simp [hlt, h0, e]
    try omega
  · have e : k = l.length := by omega
    simp [e]

theorem c_Cut (l : List TPast) (e : TEvent) (hl : fitL l) : FCall P 16 [Ls false l, .agg e.cells] (fun r => r = .tup [Ls false (l.take (l.findIdx fun x => laterB x e)), Ls false (l.drop (l.findIdx fun x => laterB x e))]) := by
  refine fcall_of h.f16 rfl (by decide) h.mo (by kernel_rfl) fun X hX => ?_
  simp
  refine xcall_fn (c_IndexFunc (fun x => laterB x e) _ [.ptr (.agg e.cells)] l hl.1 (by simp) fun x hx => c_CutF x e) (by simp) ?_
  simp
  refine xcall_fn (c_split l (fun x => laterB x e) hl.1) (by simp) ?_
  simp

theorem c_Old (l : List TPast) (t : Int) (hl : fitL l) : FCall P 26 [Ls false l, .int .i64 t] (fun r => r = .tup [Ls false (l.take (l.findIdx fun x => decide (t ≤ x.fEvent.fTime))), Ls false (l.drop (l.findIdx fun x => decide (t ≤ x.fEvent.fTime)))]) := by
  refine fcall_of h.f26 rfl (by decide) h.mo (by kernel_rfl) fun X hX => ?_
  simp
  refine xcall_fn (c_IndexFunc (fun x => decide (t ≤ x.fEvent.fTime)) _ [.ptr (.int .i64 t)] l hl.1 (by simp) fun x hx => c_OldF x t) (by simp) ?_
  simp
  refine xcall_fn (c_split l (fun x => decide (t ≤ x.fEvent.fTime)) hl.1) (by simp) ?_
  simp
end Go.Proofs.Ytbefchnpilmajaa
