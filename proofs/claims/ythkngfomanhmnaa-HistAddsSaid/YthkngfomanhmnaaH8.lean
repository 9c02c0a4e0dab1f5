/- Chapter 29: histograms: the laws' helpers, over any program that has the text. -/
import Derived.Test.YthkngfomanhmnaaH5
import Derived.Test.YthkngfomanhmnaaH7
namespace Go.Proofs.Ythkngfomanhmnaa
open Go.AL
variable {P : Program} [h : Facts P]

theorem c_small (x : THist) : FCall P 10 [.agg x.cells] (fun r => r = .bool (decide (x.fBins.length ≤ 200))) := by
  refine fcall_of h.f10 rfl (by decide) h.mo (by kernel_rfl) fun X hX => ?_
  simp
  omega

def inR (lo hi n : Int) : Bool := decide (lo ≤ n) && decide (n < hi)
def btw (l : List Int) (lo hi : Int) : Int := (l.countP (inR lo hi) : Int)
theorem btw_succ {l : List Int} {lo hi : Int} {k : Nat} (hk : k < l.length) : btw (l.take (k + 1)) lo hi = btw (l.take k) lo hi + if inR lo hi l[k] = true then 1 else 0 := by
  unfold btw
  rw [List.take_succ_eq_append_getElem hk, List.countP_append, List.countP_singleton]
  split <;> simp
theorem btw_le (l : List Int) (lo hi : Int) : 0 ≤ btw l lo hi ∧ btw l lo hi ≤ l.length := by
  unfold btw
  have := List.countP_le_length (p := inR lo hi) (l := l)
  omega

theorem c_between (l : List Int) (lo hi : Int) (hl : l.length ≤ 9223372036854775807) : FCall P 27 [Ls false l, .int .i64 lo, .int .i64 hi] (fun r => r = .int .i64 (btw l lo hi)) := by
  refine fcall_of h.f27 rfl (by decide) h.mo (by kernel_rfl) fun X hX => ?_
  simp
  refine awp_loop (σ := Nat) (fun k => (⟨[Ls false l, .int .i64 lo, .int .i64 hi, .any, .any, .any, .any, .int .i64 (btw (l.take k) lo hi), .int .i64 k, .any, .any, .any, .any, .any, .any, .any, .any, .any, .any, .any, .any, .any, .any, .any, .any, .any, .any, .any, .any, .any, .any, .any], []⟩ : S)) (fun k => k ≤ l.length) (fun k => l.length - k) 0 (Wk.slots (by simp [btw])) (by omega) ?_
  rintro k hk
  refine vc_sound h.mo _ _ _ (by kernel_rfl) ?_
  rcases Nat.lt_or_ge k l.length with hlt | hge
  · have hk1 := wrap_succ hlt hl
    have hb := btw_succ (lo := lo) (hi := hi) hlt
    have hq := btw_le (l.take k) lo hi
    have hr : ((l.take k).length : Int) = k := by simp; omega
    have hw : IntKind.i64.wrap (btw (l.take k) lo hi + 1) = btw (l.take k) lo hi + 1 := i64_id (by omega) (by omega)
    by_cases q1 : lo ≤ l[k]
    · by_cases q2 : l[k] < hi
      · rw [show inR lo hi l[k] = true by simp [inR, q1, q2], if_pos rfl] at hb
        simp [hlt, q1, q2]
        exact ⟨k + 1, Wk.ren 0 [] hX rfl (by decide) (by simp [hk1, hw, hb]) (by simp) (by simp) (by simp), by omega, by omega⟩
      · rw [show inR lo hi l[k] = false by simp [inR, q2]] at hb
        simp [hlt, q1, q2]
        exact ⟨k + 1, Wk.ren 0 [] hX rfl (by decide) (by simp [hk1, hb]) (by simp) (by simp) (by simp), by omega, by omega⟩
    · rw [show inR lo hi l[k] = false by simp [inR, q1]] at hb
      simp [hlt, q1]
      exact ⟨k + 1, Wk.ren 0 [] hX rfl (by decide) (by simp [hk1, hb]) (by simp) (by simp) (by simp), by omega, by omega⟩
  · have hge2 : ¬ k < l.length := by omega
    have : k = l.length := by omega
    simp [hge2, this]

theorem c_few (l : List Int) (hl : l.length ≤ 9223372036854775807) : FCall P 25 [Ls false l] (fun r => r = .bool (decide (l.length ≤ 200) && l.all inB)) := by
  refine fcall_of h.f25 rfl (by decide) h.mo (by kernel_rfl) fun X hX => ?_
  by_cases h0 : l.length ≤ 200
  case neg =>
    have h1 : (200 : Int) < l.length := by omega
    simp [h0, h1]
  have h1 : ¬ (200 : Int) < l.length := by omega
  simp [h0, h1]
  refine awp_loop (σ := Nat) (fun k => (⟨[Ls false l, .any, .any, .int .i64 k, .any, .any, .any, .any, .any, .any, .any, .any, .any, .any, .any, .any, .any, .any, .any, .any, .any, .any, .any, .any, .any], []⟩ : S)) (fun k => k ≤ l.length ∧ ∀ j (hj : j < l.length), j < k → inB l[j] = true) (fun k => l.length - k) 0 (Wk.slots (by simp)) ⟨by omega, by simp⟩ ?_
  rintro k ⟨hk, hinv⟩
  refine vc_sound h.mo _ _ _ (by kernel_rfl) ?_
  rcases Nat.lt_or_ge k l.length with hlt | hge
  · have hk1 := wrap_succ hlt hl
    by_cases q1 : 1000000000000 < l[k]
    · have q3 : ∃ x, x ∈ l ∧ inB x = false := ⟨_, List.getElem_mem hlt, by rw [Bool.eq_false_iff]; intro hh; have := inB_iff.1 hh; omega⟩
      simp [hlt, q1, q3]
    · by_cases q2 : l[k] < -1000000000000
      · have q3 : ∃ x, x ∈ l ∧ inB x = false := ⟨_, List.getElem_mem hlt, by rw [Bool.eq_false_iff]; intro hh; have := inB_iff.1 hh; omega⟩
        simp [hlt, q1, q2, q3]
      · simp [hlt, q1, q2]
        exact ⟨k + 1, Wk.ren 0 [] hX rfl (by decide) (by simp [hk1]) (by simp) (by simp) (by simp), ⟨by omega, step_all hinv hlt (inB_iff.2 ⟨by omega, by omega⟩)⟩, by omega⟩
  · have hge2 : ¬ k < l.length := by omega
    have q3 : ∀ x ∈ l, inB x = true := List.all_eq_true.1 (all_yes fun j hj => hinv j hj (by omega))
    simp [hge2]
    exact q3

def fill : THist → List Int → Option THist
  | x, [] => some x
  | x, n :: l => if addE x n = 0 then fill (addH x n) l else none
def fillH (x : THist) (l : List Int) : THist := (fill x l).getD zeroH
theorem addH_len {x : THist} {n : Int} : (addH x n).fBins.length ≤ x.fBins.length := by
  unfold addH
  split
  · unfold addT
    split
    · simp
    · split <;> simp
  · simp [zeroH]

theorem c_filled (x : THist) (l : List Int) (hl : l.length ≤ 9223372036854775807) (hx : x.fBins.length ≤ 4000000000) : FCall P 26 [.agg x.cells, Ls false l] (fun r => r = .tup [.agg (fillH x l).cells, .bool (fill x l).isSome]) := by
  refine fcall_ofB [4] h.f26 rfl (by decide) h.mo (by kernel_rfl) fun X hX => ?_
  simp
  refine awp_loop (σ := Nat × THist) (fun s => (⟨[.any, Ls false l, .pto 0 5 0 0, .any, .pto 1 5 0 0, .any, .int .i64 s.1, .any, .any, .any, .any, .any, .any, .any, .any, .any, .any, .any, .any, .any, .any, .any, .any, .any, .any, .any, .any, .any, .any], [⟨24, 5, [.agg s.2.cells], 0, true⟩, ⟨24, 5, [.agg zeroH.cells], 0, true⟩]⟩ : S)) (fun s => s.1 ≤ l.length ∧ fill x l = fill s.2 (l.drop s.1) ∧ s.2.fBins.length ≤ 4000000000) (fun s => l.length - s.1) (0, x) (Wk.ren 0 [0, 1] hX rfl (by decide) (by simp) (by simp) (by simp) (by simp [zeroH])) ⟨by simp, by simp, hx⟩ ?_
  rintro ⟨k, y⟩ ⟨hk, hinv, hy⟩
  simp only at hk hinv hy
  refine vcB_sound [4] h.mo _ _ _ (by kernel_rfl) ?_
  rcases Nat.lt_or_ge k l.length with hlt | hge
  · have hk1 := wrap_succ hlt hl
    rw [List.drop_eq_getElem_cons hlt, fill] at hinv
    simp [hlt]
    refine awp_tree (.take 1 (.take 2 (.take 3 (.take 4 (.alt 0 (.alt 5 (.take 6 (.take 7 (.take 8 (.alt 9 (.alt 10 (.take 11 .done) .stop) .stop)))) (.alt 9 (.alt 5 (.take 6 (.take 7 (.take 8 (.alt 10 (.take 11 .done) .stop)))) .stop) .stop)) (.alt 9 (.alt 0 (.alt 5 (.take 6 (.take 7 (.take 8 (.alt 10 (.take 11 .done) .stop)))) .stop) .stop) .stop)))))) _ h.mo (by kernel_rfl) (by decide) (by kernel_rfl) (by rfl) ?_
    simp [hlt]
    repeat' (with_reducible apply And.intro)
    all_goals
      refine xcall_fn (c_Add y l[k] hy) (by simp) ?_
      simp
      refine ⟨fun e => ?_, fun e => ?_⟩
      · rw [if_neg e] at hinv
        simp [fillH, hinv, zeroH]
      · rw [if_pos e] at hinv
        exact ⟨k + 1, addH y l[k], Wk.ren 0 [0, 1] hX rfl (by decide) (by simp [hk1]) (by simp) (by simp) (by simp), ⟨by omega, hinv, Nat.le_trans addH_len hy⟩, by omega⟩
  · have hge2 : ¬ k < l.length := by omega
    rw [List.drop_of_length_le hge, fill] at hinv
    simp [hge2, fillH, hinv]
end Go.Proofs.Ythkngfomanhmnaa
