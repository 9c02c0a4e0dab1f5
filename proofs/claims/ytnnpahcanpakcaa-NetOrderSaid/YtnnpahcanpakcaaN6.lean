/- Chapter 35: networks: Send, over any program that has the text. -/
import Derived.Test.YtnnpahcanpakcaaN5
namespace Go.Proofs.Ytnnpahcanpakcaa
open Go.AL
variable {P : Program} [h : Facts P]

def sendE (n : TNet) (m : TMsg) (round : Int) (near : Bool) : Int := if netE n ≠ 0 then netE n else if endsB m = true ∧ wiB round 5000 = true then (if near = false ∧ 1000000000000 ≤ n.fUsed then 13 else 0) else 2
def atR (n : TNet) (round : Int) (near : Bool) : Int := if near = true then round + 1 else round + 1 + n.fDelays.getD (n.fUsed.tmod n.fDelays.length).toNat 0
/-- When the message arrives, after those of a list on its link. -/
def arrL (p : Int × Int) (a : Int) : List TMsg → Int
  | [] => a
  | x :: l => arrL p (if lk x = p then max a x.fArrive else a) l
def arrM (m : TMsg) (v : Int) : TMsg := ⟨m.fFrom, m.fTo, v, m.fEvent, m.fAnti, m.fNull, m.fBound⟩
def sentT (n : TNet) (m : TMsg) (round : Int) (near : Bool) : TNet := ⟨n.fDelays, if near = true then n.fUsed else n.fUsed + 1, n.fMsgs ++ [arrM m (arrL (lk m) (atR n round near) n.fMsgs)]⟩
def sendN (n : TNet) (m : TMsg) (round : Int) (near : Bool) : TNet := if sendE n m round near = 0 then sentT n m round near else zeroN

theorem e_Clip (l : List TMsg) (f : Bool) : ECall P 32 [Ls f l] (Ls true l) := by
  refine ecall_line h.f32 rfl (by decide) rfl ?_
  simp

theorem arrL_take {p : Int × Int} {a : Int} {l : List TMsg} {k : Nat} (hk : k < l.length) : arrL p a (l.take (k + 1)) = if lk l[k] = p then max (arrL p a (l.take k)) l[k].fArrive else arrL p a (l.take k) := by
  have key : ∀ (l1 : List TMsg) (x : TMsg) (a : Int), arrL p a (l1 ++ [x]) = if lk x = p then max (arrL p a l1) x.fArrive else arrL p a l1 := by
    intro l1 x
    induction l1 with
    | nil => intro a; rfl
    | cons y l1 ih => intro a; exact ih _
  rw [List.take_succ_eq_append_getElem hk]
  exact key _ _ _

theorem netE_zero {n : TNet} (h : netE n = 0) : dlyE n.fDelays = 0 ∧ wiB n.fUsed 1000000000000 = true ∧ chk (fun _ => 0) n.fMsgs = 0 := by
  unfold netE at h
  split at h
  · rename_i g; exact (g h).elim
  · rename_i g
    split at h
    · rename_i g2; exact ⟨Classical.not_not.1 g, g2, h⟩
    · cases h
theorem dlyE_zero {l : List Int} (h : dlyE l = 0) : l.length ≠ 0 ∧ l.length ≤ 50 ∧ ∀ x ∈ l, 0 ≤ x ∧ x ≤ 50 := by
  unfold dlyE at h
  split at h
  · cases h
  · rename_i g1
    split at h
    · cases h
    · rename_i g2
      split at h
      · rename_i g3; exact ⟨g1, by omega, fun x hx => wiB_iff.1 (List.all_eq_true.1 g3 x hx)⟩
      · cases h

set_option maxRecDepth 20000 in
set_option maxHeartbeats 2000000 in
theorem c_Send (n : TNet) (m : TMsg) (round : Int) (near : Bool) (hn : fitN n) : FCall P 15 [.agg n.cells, .agg m.cells, .int .i64 round, .bool near] (fun r => r = .tup [.agg (sendN n m round near).cells, .int .i64 (sendE n m round near)]) := by
  refine fcall_ofB [10, 15, 18] h.f15 rfl (by decide) h.mo (by kernel_rfl) fun X hX => ?_
  obtain ⟨d1, d2, d3⟩ := hn
  simp
  refine xcall_fn (c_Check n (by omega) (by omega)) (by simp) ?_
  by_cases h0 : netE n = 0
  case neg => simp [h0, sendN, sendE, zeroN]
  simp [h0]
  refine xcall_fn (c_ends m) (by simp) ?_
  by_cases h1 : endsB m = true
  case neg => simp [h0, h1, sendN, sendE, zeroN]
  simp [h1]
  refine xcall_fn (c_within round 5000) (by simp) ?_
  by_cases h2 : wiB round 5000 = true
  case neg => simp [h0, h1, h2, sendN, sendE, zeroN]
  have g2 := wiB_iff.1 h2
  have w1 : IntKind.i64.wrap (round + 1) = round + 1 := i64_id (by omega) (by omega)
  obtain ⟨e1, e2, e3⟩ := netE_zero h0
  obtain ⟨k1, k2, k3⟩ := dlyE_zero e1
  have g3 := wiB_iff.1 e2
  obtain ⟨dl, us, l⟩ := n
  simp only at d1 d2 d3 e1 e2 e3 k1 k2 k3 g3
  cases near with
  | true =>
    have hS : sendE ⟨dl, us, l⟩ m round true = 0 := by simp [sendE, h0, h1, h2]
    simp [h2, w1, hS]
    refine awp_loop (σ := Nat) (fun k => (⟨[.any, .any, .any, .any, .pto 0 3 0 0, .pto 1 15 0 0, .any, .any, .pto 2 3 0 0, .any, .any, .any, .any, .any, .any, .any, .any, .any, .any, .any, .any, .any, .any, .any, .any, .any, .any, .any, .any, .any, .any, .any, .any, .any, .any, .any, .any, .any, .any, .any, .any, .any, .any, .any, .any, .any, .any, .any, .any, .any, .any, .any, .any, .any, .any, .any, .any, .any, .any, .any, Ls false l, .int .i64 l.length, .int .i64 k, .any, .any, .any, .any, .any, .any, .any, .any, .any, .any, .any, .any, .any, .any, .any, .any, .any, .any, .any, .any, .any, .any, .any], [⟨25, 3, [.agg [Ls false dl, .int .i64 (us), Ls false l]], 0, true⟩, ⟨38, 15, [.agg (arrM m (arrL (lk m) (round + 1) (l.take k))).cells], 0, true⟩, ⟨25, 3, [.agg zeroN.cells], 0, true⟩]⟩ : S)) (fun k => k ≤ l.length) (fun k => l.length - k) 0 (Wk.ren 0 [0, 1, 2] hX rfl (by decide) (by simp) (by simp) (by simp) (by simp [arrM, arrL, zeroN])) (by omega) ?_
    rintro k hk
    refine vcB_sound [10, 15, 18] h.mo _ _ _ (by kernel_rfl) ?_
    rcases Nat.lt_or_ge k l.length with hlt | hge
    · have hk1 := wrap_succ hlt (by omega)
      have har := arrL_take (p := lk m) (a := round + 1) hlt
      obtain ⟨x, hx⟩ : ∃ x, l[k] = x := ⟨_, rfl⟩
      rw [hx] at har
      generalize arrL (lk m) (round + 1) (l.take k) = v at har
      simp [hlt, hx, arrM]
      refine awp_quiet [0, 2, 1, 3, 4] _ h.mo (by kernel_rfl) (by decide) (by kernel_rfl) (by rfl) ?_
      simp
      refine ⟨_, c_of x, ?_⟩
      refine ⟨_, c_of (arrM m v), ?_⟩
      by_cases q1 : x.fFrom = m.fFrom
      · by_cases q2 : x.fTo = m.fTo
        · rw [if_pos (by simp [lk, q1, q2])] at har
          simp [arrM, q1, q2]
          exact ⟨k + 1, Wk.ren 0 [0, 1, 2] hX rfl (by decide) (by simp [hk1]) (by simp) (by simp) (by simp [har]), by omega, by omega⟩
        · rw [if_neg (by simp [lk, q1, q2])] at har
          simp [arrM, q1, q2]
          exact ⟨k + 1, Wk.ren 0 [0, 1, 2] hX rfl (by decide) (by simp [hk1]) (by simp) (by simp) (by simp [har]), by omega, by omega⟩
      · rw [if_neg (by simp [lk, q1])] at har
        simp [arrM, q1]
        exact ⟨k + 1, Wk.ren 0 [0, 1, 2] hX rfl (by decide) (by simp [hk1]) (by simp) (by simp) (by simp [har]), by omega, by omega⟩
    · have hkl : k = l.length := by omega
      subst hkl
      simp [arrM]
      refine awp_tree (.take 0 (.alt 1 (.alt 2 (.alt 3 (.alt 4 (.alt 5 (.take 6 (.alt 7 .done .stop)) .stop) .stop) .stop) (.alt 3 (.alt 2 (.alt 4 (.alt 5 (.take 6 (.alt 7 .done .stop)) .stop) .stop) (.alt 4 (.alt 2 (.alt 5 (.take 6 (.alt 7 .done .stop)) .stop) .stop) .stop)) .stop)) (.alt 3 (.alt 1 (.alt 2 (.alt 4 (.alt 5 (.take 6 (.alt 7 .done .stop)) .stop) .stop) (.alt 4 (.alt 2 (.alt 5 (.take 6 (.alt 7 .done .stop)) .stop) .stop) .stop)) (.alt 4 (.alt 1 (.alt 2 (.alt 5 (.take 6 (.alt 7 .done .stop)) .stop) .stop) .stop) .stop)) .stop))) _ h.mo (by kernel_rfl) (by decide) (by kernel_rfl) (by rfl) ?_
      simp
      repeat' (with_reducible apply And.intro)
      all_goals
        refine xcall_e (e_Clip l false) (by simp) ?_
        simp [sendN, hS, sentT, arrM, atR]
        omega

  | false =>
    by_cases q : 1000000000000 ≤ us
    · have hS : sendE ⟨dl, us, l⟩ m round false = 13 := by simp [sendE, h0, h1, h2, q]
      simp [h2, hS, q, sendN, zeroN]
    have hS : sendE ⟨dl, us, l⟩ m round false = 0 := by simp [sendE, h0, h1, h2]; omega
    have q' : us < 1000000000000 := by omega
    simp [h2, w1, hS, q, q']
    refine awp_draw_tail 13 h.mo (by kernel_rfl) (by simp) (by simp) ?_
    have hlz : ¬ (dl.length : Int) = 0 := by omega
    obtain ⟨i, hi⟩ : ∃ i : Nat, us.tmod dl.length = i := ⟨(us.tmod dl.length).toNat, (Int.toNat_of_nonneg (Int.tmod_nonneg _ g3.1)).symm⟩
    have hil : i < dl.length := by have := Int.tmod_lt_of_pos us (b := dl.length) (by omega); omega
    have gd := k3 _ (List.getElem_mem hil)
    have hgd : dl.getD ((us.tmod dl.length).toNat) 0 = dl[i] := by rw [hi]; simp [List.getD, hil]
    have w2 : IntKind.i64.wrap (round + 1 + dl[i]) = round + 1 + dl[i] := i64_id (by omega) (by omega)
    have w3 : IntKind.i64.wrap (us + 1) = us + 1 := i64_id (by omega) (by omega)
    have hdne : dl ≠ [] := by intro e; rw [e] at k1; exact k1 rfl
    simp [hdne, hi, hil, w2, w3]
    refine awp_loop (σ := Nat) (fun k => (⟨[.any, .any, .any, .any, .pto 0 3 0 0, .pto 1 15 0 0, .any, .any, .pto 2 3 0 0, .any, .any, .any, .any, .any, .any, .any, .any, .any, .any, .any, .any, .any, .any, .any, .any, .any, .any, .any, .any, .any, .any, .any, .any, .any, .any, .any, .any, .any, .any, .any, .any, .any, .any, .any, .any, .any, .any, .any, .any, .any, .any, .any, .any, .any, .any, .any, .any, .any, .any, .any, Ls false l, .int .i64 l.length, .int .i64 k, .any, .any, .any, .any, .any, .any, .any, .any, .any, .any, .any, .any, .any, .any, .any, .any, .any, .any, .any, .any, .any, .any, .any], [⟨25, 3, [.agg [Ls false dl, .int .i64 (us + 1), Ls false l]], 0, true⟩, ⟨38, 15, [.agg (arrM m (arrL (lk m) (round + 1 + dl[i]) (l.take k))).cells], 0, true⟩, ⟨25, 3, [.agg zeroN.cells], 0, true⟩]⟩ : S)) (fun k => k ≤ l.length) (fun k => l.length - k) 0 (Wk.ren 0 [0, 1, 2] hX rfl (by decide) (by simp) (by simp) (by simp) (by simp [arrM, arrL, zeroN])) (by omega) ?_
    rintro k hk
    refine vcB_sound [10, 15, 18] h.mo _ _ _ (by kernel_rfl) ?_
    rcases Nat.lt_or_ge k l.length with hlt | hge
    · have hk1 := wrap_succ hlt (by omega)
      have har := arrL_take (p := lk m) (a := round + 1 + dl[i]) hlt
      obtain ⟨x, hx⟩ : ∃ x, l[k] = x := ⟨_, rfl⟩
      rw [hx] at har
      generalize arrL (lk m) (round + 1 + dl[i]) (l.take k) = v at har
      simp [hlt, hx, arrM]
      refine awp_quiet [0, 2, 1, 3, 4] _ h.mo (by kernel_rfl) (by decide) (by kernel_rfl) (by rfl) ?_
      simp
      refine ⟨_, c_of x, ?_⟩
      refine ⟨_, c_of (arrM m v), ?_⟩
      by_cases q1 : x.fFrom = m.fFrom
      · by_cases q2 : x.fTo = m.fTo
        · rw [if_pos (by simp [lk, q1, q2])] at har
          simp [arrM, q1, q2]
          exact ⟨k + 1, Wk.ren 0 [0, 1, 2] hX rfl (by decide) (by simp [hk1]) (by simp) (by simp) (by simp [har]), by omega, by omega⟩
        · rw [if_neg (by simp [lk, q1, q2])] at har
          simp [arrM, q1, q2]
          exact ⟨k + 1, Wk.ren 0 [0, 1, 2] hX rfl (by decide) (by simp [hk1]) (by simp) (by simp) (by simp [har]), by omega, by omega⟩
      · rw [if_neg (by simp [lk, q1])] at har
        simp [arrM, q1]
        exact ⟨k + 1, Wk.ren 0 [0, 1, 2] hX rfl (by decide) (by simp [hk1]) (by simp) (by simp) (by simp [har]), by omega, by omega⟩
    · have hkl : k = l.length := by omega
      subst hkl
      simp [arrM]
      refine awp_tree (.take 0 (.alt 1 (.alt 2 (.alt 3 (.alt 4 (.alt 5 (.take 6 (.alt 7 .done .stop)) .stop) .stop) .stop) (.alt 3 (.alt 2 (.alt 4 (.alt 5 (.take 6 (.alt 7 .done .stop)) .stop) .stop) (.alt 4 (.alt 2 (.alt 5 (.take 6 (.alt 7 .done .stop)) .stop) .stop) .stop)) .stop)) (.alt 3 (.alt 1 (.alt 2 (.alt 4 (.alt 5 (.take 6 (.alt 7 .done .stop)) .stop) .stop) (.alt 4 (.alt 2 (.alt 5 (.take 6 (.alt 7 .done .stop)) .stop) .stop) .stop)) (.alt 4 (.alt 1 (.alt 2 (.alt 5 (.take 6 (.alt 7 .done .stop)) .stop) .stop) .stop) .stop)) .stop))) _ h.mo (by kernel_rfl) (by decide) (by kernel_rfl) (by rfl) ?_
      simp
      repeat' (with_reducible apply And.intro)
      all_goals
        refine xcall_e (e_Clip l false) (by simp) ?_
        simp [sendN, hS, sentT, arrM, atR, hi, hil]
        omega

end Go.Proofs.Ytnnpahcanpakcaa
