/- Chapter 23: what Signal, Clone, Delete and Leave compute, over any program that has their text. -/
import Derived.Test.YtmegdnfihhikhaaC2
namespace Go.Proofs.Ytmegdnfihhikhaa
open Go.AL
variable {P : Program} (h : Facts P)

def sigK (l : List Int) (n : Int) : Nat := (max 0 (min n l.length)).toNat
def sig (l : List Int) (n : Int) : List Int × List Int := if chk l = 0 then (l.take (sigK l n), l.drop (sigK l n)) else ([], l)
def isSig (l : List Int) (n : Int) (r : A) : Prop := ∃ nl f nl' f', r = .tup [.sl nl f ((sig l n).1.map (A.int .i64)), .sl nl' f' ((sig l n).2.map (A.int .i64))]

include h
theorem c_Signal (nl full : Bool) (l : List Int) (n : Int) (hl : l.length ≤ 4000000000000000000) : FCall P 15 [.sl nl full (l.map (A.int .i64)), .int .i64 n] (isSig l n) := by
  refine fcall_of h.f15 rfl (by decide) h.mo (by kernel_rfl) fun X => ?_
  simp
  refine xcall_scal (c_Check h nl full l hl) (by simp) ?_
  rintro _ rfl
  have hs : max 0 (min n l.length) = ((sigK l n : Nat) : Int) := by unfold sigK; omega
  have hle : sigK l n ≤ l.length := by unfold sigK; omega
  by_cases hc : chk l = 0
  · simp [h, hc, hs, hle]
    refine ⟨_, e_Clip h _ _ _, ?_⟩
    refine ⟨nl, true, nl, full, ?_⟩
    rw [sig, if_pos hc, List.map_take, List.map_drop, List.take_of_length_le (l := List.drop _ _) (by simp)]
  · simp [h, hc, isSig, sig]

theorem c_Clone (full : Bool) (l : List Int) (hp : 0 < l.length) (hl : l.length ≤ 4000000000000) : XCall P 25 [.sl false full (l.map (A.int .i64))] [] (fun r H => r = .own 1 0 l.length l.length false ∧ H = [⟨3, 1, [], 0, true⟩, ⟨3, 1, l.map (A.int .i64), 0, true⟩]) := by
  refine xcall_of h.f25 rfl (by decide) h.mo (by kernel_rfl) fun X => ?_
  have hne : l ≠ [] := by rintro rfl; simp at hp
  simp [h, hne]
  omega

theorem c_Delete (l : List Int) (k : Nat) (r0 : Row) (hk : k < l.length) (hl : l.length ≤ 4000000000000) : XCall P 24 [.own 1 0 l.length l.length false, .int .i64 k, .int .i64 (k + 1)] [r0, ⟨3, 1, l.map (A.int .i64), 0, true⟩] (fun r H => r = .own 1 0 (l.length - 1) l.length false ∧ ∃ es, H = [r0, ⟨3, 1, es, 0, true⟩] ∧ es.length = l.length ∧ es.take (l.length - 1) = (l.eraseIdx k).map (A.int .i64)) := by
  refine xcall_of h.f24 rfl (by decide) h.mo (by kernel_rfl) fun X => ?_
  have hk1 : l.length ≤ 4000000000000 := hl
  have hk2 : (k : Int) ≤ k + 1 := by omega
  have hk3 : (k : Int) < l.length := by omega
  have hk4 : (k : Int) + 1 ≤ l.length := by omega
  have hk5 : (0 : Int) ≤ (k : Int) + 1 := by omega
  have hk6 : k + 1 ≤ l.length := by omega
  simp [h, hk, hk5, hk6]
  refine ⟨fun e => by omega, fun _ => ?_⟩
  refine awp_draw_tail 6 h.mo (by kernel_rfl) rfl rfl ?_
  have hk7 : k ≤ l.length := by omega
  have hq : k + (l.length - (k + 1)) = l.length - 1 := by omega
  have hq2 : ((l.length - 1 : Nat) : Int) = (l.length : Int) - 1 := by omega
  have hq3 : l.length - 1 ≤ l.length := by omega
  rcases Nat.lt_or_ge (k + 1) l.length with hlt | hge
  · have hq4 : l.length - 1 < l.length := by omega
    have hq5 : l.length - (l.length - 1) = 1 := by omega
    have hq6 : l.length - 1 + 1 = l.length := by omega
    simp [h, hk5, hk6, hk7, hlt, hq, hq3, hq4, hq5, hq6]
    refine ⟨⟨by omega, by omega⟩, by omega, by omega, ?_⟩
    rw [List.take_append_of_le_length (by simp; omega), List.take_take, Nat.min_self]
    rw [List.take_of_length_le (l := List.drop (k + 1) _) (by simp), ← List.append_assoc, List.take_left' (by simp; omega)]
    rw [List.eraseIdx_eq_take_drop_succ]
    simp [List.map_take, List.map_drop]
  · have hnl : ¬ k + 1 < l.length := by omega
    have hke : k = l.length - 1 := by omega
    have hd : l.length - k = 1 := by omega
    simp [h, hk, hk5, hk6, hk7, hnl, hd]
    refine ⟨by omega, hke, by omega, ?_⟩
    rw [List.eraseIdx_eq_take_drop_succ, List.drop_eq_nil_of_le hge, ← hke]
    rw [List.take_append_of_le_length (by simp; omega), List.take_take, Nat.min_self]
    simp [List.map_take]

omit h in
theorem fcall_nl {f : FuncId} {nl full : Bool} {es : List A} {rest : List A} {R : A → Prop} (hc : callable P f = true) (H : (nl = true → es = []) → FCall P f (.sl nl full es :: rest) R) : FCall P f (.sl nl full es :: rest) R := by
  refine ⟨hc, fun w F0 vs hb hl => (H ?_).2 w F0 vs hb hl⟩
  intro e
  subst e
  cases vs with
  | nil => exact hl.elim
  | cons v vs =>
    have := hl.1
    cases this
    rfl

omit h in
theorem xcall_mono {f : FuncId} {args : List A} {H : List Row} {R K : A → List Row → Prop} (hx : XCall P f args H R) (hK : ∀ r H', R r H' → K r H') : XCall P f args H K :=
  ⟨hx.1, fun w F0 μ vs hs hl => (hx.2 w F0 μ vs hs hl).mono fun _ _ ⟨v, r, H', he, hR, hres⟩ => ⟨v, r, H', he, hK r H' hR, hres⟩⟩

def leave (l : List Int) (p : Int) : List Int := if chk l = 0 then (if p ∈ l then l.eraseIdx (l.idxOf p) else l) else l

theorem c_Leave (nl full : Bool) (l : List Int) (p : Int) (hl : l.length ≤ 4000000000000) : FCall P 18 [.sl nl full (l.map (A.int .i64)), .int .i64 p] (fun r => isL r (leave l p)) := by
  refine fcall_nl (by simp [callable, h.f18]; decide) fun hnl => ?_
  refine fcall_of h.f18 rfl (by decide) h.mo (by kernel_rfl) fun X => ?_
  simp
  refine xcall_scal (c_Place h nl full l p (by omega)) (by simp) ?_
  rintro _ rfl
  by_cases hc : chk l = 0 ∧ p ∈ l
  · obtain ⟨hc, hp⟩ := hc
    have hi : l.idxOf p < l.length := List.idxOf_lt_length_iff.2 hp
    have hpl : place l p = (l.idxOf p : Int) := by simp [place, hc, idxOf, hp]
    have hnl' : nl = false := by
      cases nl with
      | false => rfl
      | true => have := hnl rfl; simp at this; subst this; simp at hp
    subst hnl'
    simp [hpl]
    refine ⟨fun e => by omega, ?_⟩
    refine xcall_mono (c_Clone h full l (by omega) hl) ?_
    rintro _ _ ⟨rfl, rfl⟩
    have hw : IntKind.i64.wrap ((l.idxOf p : Int) + 1) = (l.idxOf p : Int) + 1 := i64_id (by omega) (by omega)
    simp [hw]
    refine xcall_mono (c_Delete h l (l.idxOf p) _ hi hl) ?_
    rintro _ _ ⟨rfl, es, rfl, he1, he2⟩
    simp [he1, he2, leave, hc, hp]
    exact ⟨_, _, rfl⟩
  · have hpl : place l p = -1 := by
      unfold place idxOf
      split
      · rename_i h1
        rw [if_neg (fun h2 => hc ⟨h1, h2⟩)]
      · rfl
    have hlv : leave l p = l := by
      unfold leave
      split
      · rename_i h1
        rw [if_neg (fun h2 => hc ⟨h1, h2⟩)]
      · rfl
    simp [hpl, hlv]
    exact ⟨_, _, rfl⟩
end Go.Proofs.Ytmegdnfihhikhaa
