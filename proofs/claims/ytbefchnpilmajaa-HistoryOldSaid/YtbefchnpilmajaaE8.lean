/- Chapter 37: the closures, and the search by one, over any program that has the text. -/
import Derived.Test.YtbefchnpilmajaaE6
namespace Go.Proofs.Ytbefchnpilmajaa
open Go.AL
variable {P : Program} [h : Facts P]

theorem c_FindF (x : TPast) (e : TEvent) (hl : x.fEvent.fArgs.length ≤ 9223372036854775807) : FCall P 35 [.agg x.cells, .ptr (.agg e.cells)] (fun r => r = .bool (evB x.fEvent e)) := by
  refine fcall_of h.f35 rfl (by decide) h.mo (by kernel_rfl) fun X hX => ?_
  simp
  refine xcall_fn (c_Same x.fEvent e hl) (by simp) ?_
  simp

theorem c_OldF (x : TPast) (t : Int) : FCall P 39 [.agg x.cells, .ptr (.int .i64 t)] (fun r => r = .bool (decide (t ≤ x.fEvent.fTime))) := by
  refine fcall_of h.f39 rfl (by decide) h.mo (by kernel_rfl) fun X hX => ?_
  simp

/-- Is the executed event later than the event? -/
def laterB (x : TPast) (e : TEvent) : Bool := decide (e.fTime < x.fEvent.fTime) || (decide (x.fEvent.fTime = e.fTime) && lessB e x.fEvent)
theorem c_CutF (x : TPast) (e : TEvent) : FCall P 33 [.agg x.cells, .ptr (.agg e.cells)] (fun r => r = .bool (laterB x e)) := by
  refine fcall_of h.f33 rfl (by decide) h.mo (by kernel_rfl) fun X hX => ?_
  simp
  refine ⟨fun h1 => ⟨fun h2 => ?_, fun h2 => by unfold laterB; rw [decide_eq_false h2, decide_eq_false (by omega)]; rfl⟩, fun h1 => by simp [laterB, h1]⟩
  refine xcall_fn (c_Less e x.fEvent) (by simp) ?_
  simp [laterB, h2]

theorem leL_noid {ids : List Nat} : ∀ {xs : List A}, noidL xs = true → leL ids xs xs := by
  intro xs
  have one : ∀ x : A, x.noid = true → leA ids x x := by
    intro x
    refine A.rec (motive_1 := fun x => x.noid = true → leA ids x x) (motive_2 := fun xs => noidL xs = true → leL ids xs xs) ?_ ?_ ?_ ?_ ?_ ?_ ?_ ?_ ?_ ?_ ?_ ?_ ?_ ?_ ?_ ?_ x
    all_goals (intros; simp_all [leA, leL, A.noid, noidL])
  induction xs with
  | nil => intro _; simp [leL]
  | cons x xs ih => intro h; simp [noidL] at h; simp [leL, one x h.1, ih h.2]

def idxZ (p : TPast → Bool) (l : List TPast) : Int := if l.findIdx p < l.length then (l.findIdx p : Int) else -1
theorem c_IndexFunc (p : TPast → Bool) (fid : FuncId) (caps : List A) (l : List TPast) (hl : l.length ≤ 9223372036854775807) (hn : noidL caps = true) (hp : ∀ x ∈ l, FCall P fid (.agg x.cells :: caps) (fun r => r = .bool (p x))) :
    FCall P 32 [Ls false l, .fn fid caps] (fun r => r = .int .i64 (idxZ p l)) := by
  refine fcall_of h.f32 rfl (by decide) h.mo (by kernel_rfl) fun X hX => ?_
  simp
  refine awp_loop (σ := Nat) (fun k => (⟨[Ls false l, .fn fid caps, .any, .any, .any, .any, Ls false l, .int .i64 l.length, .int .i64 k, .any, .any, .any, .any, .any, .any, .any, .any, .any, .any], []⟩ : S)) (fun k => k ≤ l.length ∧ ∀ j (hj : j < l.length), j < k → p l[j] = false) (fun k => l.length - k) 0 (Wk.slots (by simp)) ⟨by omega, by simp⟩ ?_
  rintro k ⟨hk, hinv⟩
  refine vc_sound h.mo _ _ _ (by kernel_rfl) ?_
  rcases Nat.lt_or_ge k l.length with hlt | hge
  · have hk1 : IntKind.i64.wrap ((k : Int) + 1) = ((k + 1 : Nat) : Int) := by rw [i64_id (by omega) (by omega)]; omega
    simp [hlt]
    refine xcall_noid (hp _ (List.getElem_mem hlt)) (by simp [hn]) ?_
    rintro _ rfl
    simp
    refine ⟨fun g => ?_, fun g => ⟨k + 1, Wk.ren 0 [] hX rfl (by decide) (by simp [hk1, leL_noid hn]) (by simp [hasRL_noid hn]) (by simp) (by simp), ⟨by omega, fun j hj hjk => ?_⟩, by omega⟩⟩
    · have : l.findIdx p = k := (List.findIdx_eq hlt).2 ⟨g, fun j hj => hinv j (by omega) hj⟩
      simp [idxZ, this, hlt]
    · rcases Nat.lt_or_ge j k with hlk | hgk
      · exact hinv j hj hlk
      · have : j = k := by omega
        subst this; exact g
  · simp [hge]
    have : l.findIdx p = l.length := List.findIdx_eq_length.2 fun x hx => by
      obtain ⟨j, hj, rfl⟩ := List.mem_iff_getElem.1 hx
      exact hinv j hj (by omega)
    simp [idxZ, this]
end Go.Proofs.Ytbefchnpilmajaa
