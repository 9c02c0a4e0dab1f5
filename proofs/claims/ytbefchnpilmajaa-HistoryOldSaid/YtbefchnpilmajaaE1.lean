/- Chapter 37: what Check computes, over any program that has its text. -/
import Derived.Test.YtbefchnpilmajaaTy
namespace Go.Proofs.Ytbefchnpilmajaa
open Go.AL
variable {P : Program} [h : Facts P]

theorem wrap_succ {k n : Nat} (h : k < n) (hn : n ≤ 9223372036854775807) : IntKind.i64.wrap ((k : Int) + 1) = ((k + 1 : Nat) : Int) := by
  rw [i64_id (by omega) (by omega)]; omega

theorem wrap_pred {k n : Nat} (h : k < n) (hn : n ≤ 9223372036854775807) : IntKind.i64.wrap ((k : Int) - 1) = (k : Int) - 1 := i64_id (by omega) (by omega)

/-- Is the element in order with the one ahead of it? -/
def goodB (l : List TPast) (i : Nat) : Bool :=
  match l[i]? with
  | some x => decide (x.fBefore.fNow ≤ x.fEvent.fTime) && (i == 0 || match l[i - 1]? with | some y => decide (y.fEvent.fTime ≤ x.fEvent.fTime) | none => true)
  | none => true
def okTo (l : List TPast) (k : Nat) : Bool := (List.range k).all (goodB l)
def hchk (l : List TPast) : Int := if l.length > 5000 then 6 else if okTo l l.length then 0 else 12

theorem okTo_succ (l : List TPast) (k : Nat) : okTo l (k + 1) = (okTo l k && goodB l k) := by
  simp [okTo, List.range_succ]
theorem okTo_not {l : List TPast} {k : Nat} (hk : k < l.length) (hb : goodB l k = false) : okTo l l.length = false := by
  rw [Bool.eq_false_iff]
  intro hh
  have := List.all_eq_true.1 hh k (List.mem_range.2 hk)
  rw [hb] at this; cases this

theorem goodB_zero {l : List TPast} (hlt : 0 < l.length) : goodB l 0 = decide (l[0].fBefore.fNow ≤ l[0].fEvent.fTime) := by
  simp [goodB, List.getElem?_eq_getElem hlt]
theorem goodB_pos {l : List TPast} {k : Nat} {x y : TPast} (hp : 0 < k) (hx : l[k]? = some x) (hy : l[k - 1]? = some y) : goodB l k = (decide (x.fBefore.fNow ≤ x.fEvent.fTime) && decide (y.fEvent.fTime ≤ x.fEvent.fTime)) := by
  have : (k == 0) = false := by simp; omega
  simp [goodB, hx, hy, this]

theorem wrap_nat {k n : Nat} (h : k < n) (hn : n ≤ 9223372036854775807) : IntKind.i64.wrap (k : Int) = (k : Int) := i64_id (by omega) (by omega)

theorem hchk_bad {l : List TPast} {k : Nat} (e : l.length ≤ 5000) (hk : k < l.length) (hb : goodB l k = false) : hchk l = 12 := by
  unfold hchk
  rw [if_neg (by omega), okTo_not hk hb]
  rfl

theorem c_HCheck (l : List TPast) (hl : l.length ≤ 9223372036854775807) : FCall P 13 [Ls false l] (fun r => r = .int .i64 (hchk l)) := by
  refine fcall_of h.f13 rfl (by decide) h.mo (by kernel_rfl) fun X hX => ?_
  simp
  refine ⟨fun e => by unfold hchk; rw [if_pos (by omega)], fun e => ?_⟩
  refine awp_loop (σ := Nat) (fun k => (⟨[Ls false l, .any, .any, .any, .any, .any, .any, .any, Ls false l, .int .i64 l.length, .int .i64 k, .any, .any, .any, .any, .any, .any, .any, .any, .any, .any, .any, .any, .any, .any, .any, .any, .any, .any, .any, .any, .any, .any, .any, .any, .any, .any, .any, .any, .any], []⟩ : S)) (fun k => k ≤ l.length ∧ okTo l k = true) (fun k => l.length - k) 0 (Wk.slots (by simp)) ⟨by omega, by simp [okTo]⟩ ?_
  rintro k ⟨hk, hinv⟩
  refine vc_sound h.mo _ _ _ (by kernel_rfl) ?_
  rcases Nat.lt_or_ge k l.length with hlt | hge
  · have e5 : l.length ≤ 5000 := by omega
    have fin : goodB l k = true → okTo l (k + 1) = true := fun hg => by rw [okTo_succ, hinv, hg]; rfl
    have hk1 := wrap_succ hlt (by omega)
    rcases Nat.eq_zero_or_pos k with rfl | hpos
    · have g := goodB_zero hlt
      simp [hlt]
      refine ⟨fun h1 => ⟨1, Wk.ren 0 [] hX rfl (by decide) (by simp) (by simp) (by simp) (by simp), ⟨by omega, fin (by rw [g]; simpa using h1)⟩, by omega⟩, fun h1 => ?_⟩
      exact (hchk_bad e5 hlt (by rw [g]; simp; omega)).symm
    · have hk2 := wrap_pred hlt (by omega)
      have hj : k - 1 < l.length := by omega
      have h1k : (1 : Int) ≤ k := by omega
      obtain ⟨x, hx⟩ : ∃ x, l[k] = x := ⟨_, rfl⟩
      obtain ⟨y, hy⟩ : ∃ y, l[k - 1] = y := ⟨_, rfl⟩
      have g := goodB_pos (l := l) hpos (by simp [hlt, hx]; rfl) (by simp [hj, hy]; rfl)
      simp [hlt, hpos, hj, hk2, h1k, hx, hy]
      refine ⟨fun h1 => ⟨fun h2 => (hchk_bad e5 hlt (by rw [g]; simp; omega)).symm, fun h2 => ⟨k + 1, Wk.ren 0 [] hX rfl (by decide) (by simp [hk1]) (by simp) (by simp) (by simp), ⟨by omega, fin (by rw [g]; simp; omega)⟩, by omega⟩⟩, fun h1 => (hchk_bad e5 hlt (by rw [g]; simp; omega)).symm⟩
  · simp [hge]
    have : k = l.length := by omega
    subst this
    simp [hchk, hinv]; omega
end Go.Proofs.Ytbefchnpilmajaa
