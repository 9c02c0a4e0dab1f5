/- Chapter 35: networks: the reference's Send, over any program that has the text. -/
import Derived.Test.YtnnpahcanpakcaaN6
namespace Go.Proofs.Ytnnpahcanpakcaa
open Go.AL
variable {P : Program} [h : Facts P]

theorem arrL_max {p : Int × Int} : ∀ (l : List TMsg) {a : Int}, 0 ≤ a → arrL p a l = max a (arrL p 0 l)
  | [], a, ha => by simp [arrL]; omega
  | x :: l, a, ha => by
    simp only [arrL]
    split
    · rw [arrL_max l (a := max a x.fArrive) (by omega), arrL_max l (a := max 0 x.fArrive) (by omega)]; omega
    · exact arrL_max l ha
theorem arrL_cons (p : Int × Int) (a : Int) (x : TMsg) (l : List TMsg) : arrL p a (x :: l) = arrL p (if lk x = p then max a x.fArrive else a) l := rfl

theorem c_last (l : List TMsg) (f t : Int) (hl : l.length ≤ 9223372036854775807) : FCall P 33 [Ls false l, .int .i64 f, .int .i64 t] (fun r => r = .int .i64 (arrL (f, t) 0 l)) := by
  refine fcall_of h.f33 rfl (by decide) h.mo (by kernel_rfl) fun X hX => ?_
  simp
  refine awp_loop (σ := Nat) (fun k => (⟨[Ls false l, .int .i64 f, .int .i64 t, .any, .any, .any, .any, .int .i64 (arrL (f, t) 0 (l.take k)), .int .i64 k, .any, .any, .any, .any, .any, .any, .any, .any, .any, .any, .any, .any, .any, .any, .any, .any, .any, .any, .any, .any, .any, .any, .any, .any, .any, .any, .any, .any, .any, .any], []⟩ : S)) (fun k => k ≤ l.length) (fun k => l.length - k) 0 (Wk.slots (by simp [arrL])) (by omega) ?_
  rintro k hk
  refine vc_sound h.mo _ _ _ (by kernel_rfl) ?_
  rcases Nat.lt_or_ge k l.length with hlt | hge
  · have hk1 := wrap_succ hlt hl
    have har := arrL_take (p := (f, t)) (a := 0) hlt
    by_cases q1 : l[k].fFrom = f
    · by_cases q2 : l[k].fTo = t
      · rw [if_pos (by simp [lk, q1, q2])] at har
        simp [hlt, q1, q2]
        exact ⟨k + 1, Wk.ren 0 [] hX rfl (by decide) (by simp [hk1, har]) (by simp) (by simp) (by simp), by omega, by omega⟩
      · rw [if_neg (by simp [lk, q2])] at har
        simp [hlt, q1, q2]
        exact ⟨k + 1, Wk.ren 0 [] hX rfl (by decide) (by simp [hk1, har]) (by simp) (by simp) (by simp), by omega, by omega⟩
    · rw [if_neg (by simp [lk, q1])] at har
      simp [hlt, q1]
      exact ⟨k + 1, Wk.ren 0 [] hX rfl (by decide) (by simp [hk1, har]) (by simp) (by simp) (by simp), by omega, by omega⟩
  · have hge2 : ¬ k < l.length := by omega
    have : k = l.length := by omega
    simp [hge2, this]

set_option maxRecDepth 20000 in
set_option maxHeartbeats 2000000 in
theorem c_RSend (n : TNet) (m : TMsg) (round : Int) (near : Bool) (hn : fitN n) : FCall P 16 [.agg n.cells, .agg m.cells, .int .i64 round, .bool near] (fun r => r = .tup [.agg (sendN n m round near).cells, .int .i64 (sendE n m round near)]) := by
  refine fcall_ofB [12] h.f16 rfl (by decide) h.mo (by kernel_rfl) fun X hX => ?_
  obtain ⟨d1, d2, d3⟩ := hn
  simp
  refine xcall_fn (c_RCheck n (by omega) (by omega)) (by simp) ?_
  by_cases h0 : netE n = 0
  case neg => simp [h0, sendN, sendE, zeroN]
  simp [h0]
  refine xcall_fn (c_site m.fFrom) (by simp) ?_
  by_cases h11 : wiB m.fFrom 15 = true
  case neg => simp [h0, endsB, h11, sendN, sendE, zeroN]
  simp [h11]
  refine xcall_fn (c_site m.fTo) (by simp) ?_
  by_cases h12 : wiB m.fTo 15 = true
  case neg => simp [h0, endsB, h12, sendN, sendE, zeroN]
  have h1 : endsB m = true := by simp [endsB, h11, h12]
  by_cases h2 : wiB round 5000 = true
  case neg =>
    have hS : ∀ b, sendE n m round b = 2 := fun b => by simp [sendE, h0, h1, h2]
    by_cases q1 : round < 0
    · have q1' : ¬ 0 ≤ round := by omega
      simp [h12, q1, q1', hS, sendN, zeroN]
    · have q2 : 5000 < round := Classical.byContradiction fun q => h2 (wiB_iff.2 ⟨by omega, by omega⟩)
      have q1' : 0 ≤ round := by omega
      have q2' : ¬ round ≤ 5000 := by omega
      simp [h12, q1, q1', q2, q2', hS, sendN, zeroN]
  have g2 := wiB_iff.1 h2
  have q1 : ¬ round < 0 := by omega
  have q2 : ¬ 5000 < round := by omega
  have w1 : IntKind.i64.wrap (round + 1) = round + 1 := i64_id (by omega) (by omega)
  obtain ⟨e1, e2, e3⟩ := netE_zero h0
  obtain ⟨k1, k2, k3⟩ := dlyE_zero e1
  have g3 := wiB_iff.1 e2
  obtain ⟨dl, us, l⟩ := n
  simp only at d1 d2 d3 e1 e2 e3 k1 k2 k3 g3
  cases near with
  | true =>
    have hS : sendE ⟨dl, us, l⟩ m round true = 0 := by simp [sendE, h0, h1, h2]
    have hM : arrL (lk m) (round + 1) l = max (round + 1) (arrL (m.fFrom, m.fTo) 0 l) := arrL_max l (by omega)
    simp [h12, g2.1, g2.2, q1, q2, w1]
    refine ⟨⟨by omega, by omega⟩, ?_⟩
    refine xcall_fn (c_last l m.fFrom m.fTo (by omega)) (by simp) ?_
    simp [sendN, hS, sentT, arrM, atR, hM]
    omega
  | false =>
    by_cases q : 1000000000000 ≤ us
    · have hS : sendE ⟨dl, us, l⟩ m round false = 13 := by simp [sendE, h0, h1, h2, q]
      have q5 : us = 1000000000000 := by omega
      simp [h12, g2.1, g2.2, q1, q2, q5] at hS ⊢
      simp [hS, sendN, zeroN]
    have hS : sendE ⟨dl, us, l⟩ m round false = 0 := by simp [sendE, h0, h1, h2]; omega
    have q' : ¬ us = 1000000000000 := by omega
    simp [h12, g2.1, g2.2, q1, q2, w1, q']
    refine ⟨⟨by omega, by omega⟩, ?_⟩
    have hlz : ¬ (dl.length : Int) = 0 := by omega
    obtain ⟨i, hi⟩ : ∃ i : Nat, us.tmod dl.length = i := ⟨(us.tmod dl.length).toNat, (Int.toNat_of_nonneg (Int.tmod_nonneg _ g3.1)).symm⟩
    have hil : i < dl.length := by have := Int.tmod_lt_of_pos us (b := dl.length) (by omega); omega
    have gd := k3 _ (List.getElem_mem hil)
    have w2 : IntKind.i64.wrap (round + 1 + dl[i]) = round + 1 + dl[i] := i64_id (by omega) (by omega)
    have w3 : IntKind.i64.wrap (us + 1) = us + 1 := i64_id (by omega) (by omega)
    have hdne : dl ≠ [] := by intro e; rw [e] at k1; exact k1 rfl
    have hM : arrL (lk m) (round + 1 + dl[i]) l = max (round + 1 + dl[i]) (arrL (m.fFrom, m.fTo) 0 l) := arrL_max l (by omega)
    refine awp_draw_tail 12 h.mo (by kernel_rfl) (by simp) (by simp) ?_
    simp [hdne, hi, hil, w2, w3]
    refine xcall_fn (c_last l m.fFrom m.fTo (by omega)) (by simp) ?_
    simp [sendN, hS, sentT, arrM, atR, hi, hil, hM]
    omega
end Go.Proofs.Ytnnpahcanpakcaa
