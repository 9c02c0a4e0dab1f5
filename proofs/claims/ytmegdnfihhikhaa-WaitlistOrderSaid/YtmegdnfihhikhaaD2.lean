/- Chapter 23: what Wait, Signal and Leave compute, over any program that has their text. -/
import Derived.Test.YtmegdnfihhikhaaD1
namespace Go.Proofs.Ytmegdnfihhikhaa
open Go.AL
variable {P : Program} [h : Facts P]

def waitE (l : List Int) (p : Int) : Int :=
  if chk l = 0 then (if p < 0 ∨ p > 1000000000000 then 2 else if p ∈ l then 4 else if l.length ≥ 300 then 13 else 0) else chk l

theorem c_Wait (l : List Int) (p : Int) (hl : l.length ≤ 4000000000000000000) : FCall P 13 [Ls false l, .int .i64 p] (fun r => r = .tup [Ls false (if waitE l p = 0 then l ++ [p] else []), .int .i64 (waitE l p)]) := by
  refine fcall_of h.f13 rfl (by decide) h.mo (by kernel_rfl) fun X hX => ?_
  simp
  refine xcall_fn (c_Check l hl) (by simp) ?_
  by_cases hc : chk l = 0
  · simp [hc]
    refine ⟨fun h0 => ⟨fun h1 => by simp [waitE, hc, h1], fun h1 => ?_⟩, fun h0 => by simp [waitE, hc, h0]⟩
    refine xcall_fn (c_Contains l p hl) (by simp) ?_
    have hr : ¬ (p < 0 ∨ p > 1000000000000) := by omega
    simp
    refine ⟨fun h2 => by simp [waitE, hc, hr, h2], fun h2 => ⟨fun h3 => by simp [waitE, hc, hr, h2, show 300 ≤ l.length by omega], fun h3 => ?_⟩⟩
    have hw : waitE l p = 0 := by simp [waitE, hc, hr, h2]; omega
    refine xcall_e (e_Clip false l) (by simp) ?_
    simp [hw]
    omega
  · simp [hc, waitE]

def sigK (l : List Int) (n : Int) : Nat := (max 0 (min n l.length)).toNat
def sig (l : List Int) (n : Int) : List Int × List Int := if chk l = 0 then (l.take (sigK l n), l.drop (sigK l n)) else ([], l)

theorem c_Signal (l : List Int) (n : Int) (hl : l.length ≤ 4000000000000000000) : FCall P 15 [Ls false l, .int .i64 n] (fun r => r = .tup [Ls false (sig l n).1, Ls false (sig l n).2]) := by
  refine fcall_of h.f15 rfl (by decide) h.mo (by kernel_rfl) fun X hX => ?_
  simp
  refine xcall_fn (c_Check l hl) (by simp) ?_
  have hs : max 0 (min n l.length) = ((sigK l n : Nat) : Int) := by unfold sigK; omega
  have hle : sigK l n ≤ l.length := by unfold sigK; omega
  by_cases hc : chk l = 0
  · simp [hc, hs, hle]
    refine ⟨_, e_Clip _ _, ?_⟩
    simp [sig, hc, List.take_of_length_le]
  · simp [hc, sig]

theorem c_Clone (l : List Int) (hl : l.length ≤ 4000000000000) (H : List Row) : XCall P 25 [Ls false l] H (fun r H' => (l = [] ∧ r = .sl true [] ∧ H' = H) ∨ (l = [] ∧ r = .own H.length 0 0 0 true ∧ H' = H ++ [⟨3, 1, [], 0, true⟩]) ∨ (r = .own (H.length + 1) 0 l.length l.length false ∧ l ≠ [] ∧ H' = H.concat dead0 ++ [⟨3, 1, l.map Enc.enc, 0, true⟩])) := by
  refine xcall_of h.f25 rfl (by decide) h.mo (by kernel_rfl) fun X hX => ?_
  cases l with
  | nil =>
    simp
  | cons x l =>
    simp
    simp at hl
    omega

def leave (l : List Int) (p : Int) : List Int := if chk l = 0 then l.erase p else l

theorem c_Delete (l : List Int) (k : Nat) (hk : k < l.length) (hl : l.length ≤ 4000000000000) (id : Nat) (H : List Row) (hr : H[id]? = some ⟨3, 1, l.map Enc.enc, 0, true⟩) : XCall P 24 [.own id 0 l.length l.length false, .int .i64 k, .int .i64 (k + 1)] H (fun r H' => r = .own id 0 (l.length - 1) l.length false ∧ ∃ es, H' = H.set id ⟨3, 1, es, 0, true⟩ ∧ es.length = l.length ∧ es.take (l.length - 1) = (l.eraseIdx k).map Enc.enc) := by
  refine xcall_of h.f24 rfl (by decide) h.mo (by kernel_rfl) fun X hX => ?_
  have hk2 : (k : Int) ≤ k + 1 := by omega
  have hk3 : (k : Int) < l.length := by omega
  have hk4 : (k : Int) + 1 ≤ l.length := by omega
  have hk5 : (0 : Int) ≤ (k : Int) + 1 := by omega
  have hk6 : k + 1 ≤ l.length := by omega
  simp [hk5, hk6, hr]
  refine ⟨fun e => by omega, fun _ => ?_⟩
  refine awp_draw_tail 6 h.mo (by kernel_rfl) rfl rfl ?_
  have hk7 : k ≤ l.length := by omega
  have hq : k + (l.length - (k + 1)) = l.length - 1 := by omega
  have hq2 : ((l.length - 1 : Nat) : Int) = (l.length : Int) - 1 := by omega
  have hq3 : l.length - 1 ≤ l.length := by omega
  have hidl := (List.getElem?_eq_some_iff.1 hr).1
  have hidr := (List.getElem?_eq_some_iff.1 hr).2
  rcases Nat.lt_or_ge (k + 1) l.length with hlt | hge
  · have hq5 : l.length - (l.length - 1) = 1 := by omega
    have hq6 : l.length - 1 + 1 = l.length := by omega
    have hn1 : ¬ l.length - (k + 1) = 0 := by omega
    have hn2 : ¬ l.length ≤ k + 1 := by omega
    simp [hk5, hk6, hk7, hq, hq3, hq5, hq6, hn1, hn2, hidl, hidr, cut_eq]
    refine ⟨⟨by omega, by omega⟩, by omega, _, rfl, by simp; omega, ?_⟩
    rw [List.take_append_of_le_length (by simp; omega), List.take_take, Nat.min_self]
    rw [List.take_of_length_le (l := List.drop (k + 1) _) (by simp), ← List.append_assoc, List.take_left' (by simp; omega)]
    rw [List.eraseIdx_eq_take_drop_succ]
    simp [List.map_take, List.map_drop]
  · have hnl : ¬ k + 1 < l.length := by omega
    have hke : k = l.length - 1 := by omega
    have hd : l.length - k = 1 := by omega
    have hn1 : l.length - (k + 1) = 0 := by omega
    simp [hk5, hk6, hk7, hd, hn1, hidl, hidr, cut_eq]
    refine ⟨by omega, hke, _, rfl, by simp; omega, ?_⟩
    rw [List.eraseIdx_eq_take_drop_succ, List.drop_eq_nil_of_le hge, ← hke]
    rw [List.take_append_of_le_length (by simp; omega), List.take_take, Nat.min_self]
    simp [List.map_take]

theorem idxOf_of_mem {l : List Int} {p : Int} (hp : p ∈ l) : idxOf l p = (l.idxOf p : Int) ∧ l.idxOf p < l.length := ⟨by simp [idxOf, hp], List.idxOf_lt_length_iff.2 hp⟩

theorem c_Leave (l : List Int) (p : Int) (hl : l.length ≤ 4000000000000) : FCall P 18 [Ls false l, .int .i64 p] (fun r => r = Ls false (leave l p)) := by
  refine fcall_of h.f18 rfl (by decide) h.mo (by kernel_rfl) fun X hX => ?_
  simp
  refine xcall_fn (c_Place l p (by omega)) (by simp) ?_
  by_cases hc : chk l = 0 ∧ p ∈ l
  · obtain ⟨hc, hp⟩ := hc
    obtain ⟨hi, hlt⟩ := idxOf_of_mem hp
    have hpl : place l p = (l.idxOf p : Int) := by simp [place, hc, hi]
    simp [hpl]
    refine ⟨fun e => by omega, ?_⟩
    refine xcall_mono (c_Clone l hl _) ?_
    have hne : l ≠ [] := by rintro rfl; simp at hp
    rintro _ _ (⟨rfl, _⟩ | ⟨rfl, _⟩ | ⟨rfl, _, rfl⟩)
    · exact (hne rfl).elim
    · exact (hne rfl).elim
    have hw : IntKind.i64.wrap ((l.idxOf p : Int) + 1) = (l.idxOf p : Int) + 1 := i64_id (by omega) (by omega)
    simp [hw]
    refine xcall_mono (c_Delete l (l.idxOf p) hlt hl 1 _ rfl) ?_
    rintro _ _ ⟨rfl, es, rfl, he1, he2⟩
    simp [he1, he2, leave, hc, cut_eq, List.erase_eq_eraseIdx_of_idxOf rfl]
  · have hpl : place l p = -1 := by
      unfold place idxOf
      split
      · rename_i h1
        rw [if_neg (fun h2 => hc ⟨h1, h2⟩)]
      · rfl
    have hlv : leave l p = l := by
      unfold leave
      split
      · rename_i h1
        exact List.erase_of_not_mem (fun h2 => hc ⟨h1, h2⟩)
      · rfl
    simp [hpl, hlv]
end Go.Proofs.Ytmegdnfihhikhaa
