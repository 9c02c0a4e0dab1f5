/- Chapter 35: networks: Arrive, over any program that has the text. -/
import Derived.Test.YtnnpahcanpakcaaN7
namespace Go.Proofs.Ytnnpahcanpakcaa
open Go.AL
variable {P : Program} [h : Facts P]

def hereB (round to : Int) (m : TMsg) : Bool := decide (m.fTo = to) && decide (m.fArrive ≤ round)
def arrH (n : TNet) (round to : Int) : List TMsg := if netE n = 0 then n.fMsgs.filter (hereB round to) else []
def arrN (n : TNet) (round to : Int) : TNet := if netE n = 0 then ⟨n.fDelays, n.fUsed, n.fMsgs.filter fun m => !hereB round to m⟩ else n
theorem filter_take {α : Type} (p : α → Bool) {l : List α} {k : Nat} (hk : k < l.length) : (l.take (k + 1)).filter p = if p l[k] = true then (l.take k).filter p ++ [l[k]] else (l.take k).filter p := by
  rw [List.take_succ_eq_append_getElem hk, List.filter_append]
  by_cases h : p l[k] = true
  · simp [h]
  · simp [h]

theorem c_Arrive (n : TNet) (round to : Int) (hn : fitN n) : FCall P 17 [.agg n.cells, .int .i64 round, .int .i64 to] (fun r => r = .tup [Ls false (arrH n round to), .agg (arrN n round to).cells]) := by
  refine fcall_ofB [2, 12] h.f17 rfl (by decide) h.mo (by kernel_rfl) fun X hX => ?_
  obtain ⟨d1, d2, d3⟩ := hn
  simp
  refine xcall_fn (c_Check n (by omega) (by omega)) (by simp) ?_
  by_cases h0 : netE n = 0
  case neg =>
    simp [h0]
    refine awp_tree (.take 1 (.alt 0 (.alt 2 .done .stop) .stop)) _ h.mo (by kernel_rfl) (by decide) (by kernel_rfl) (by rfl) ?_
    simp [arrH, arrN, h0]
  simp [h0]
  obtain ⟨dl, us, l⟩ := n
  simp only at d1 d2 d3
  refine awp_loop (σ := Nat) (fun k => (⟨[.any, .int .i64 round, .int .i64 to, .pto 0 3 0 0, .any, .any, .any, .pto 1 3 0 0, B 2 ((l.take k).filter (hereB round to)), B 3 ((l.take k).filter fun m => !hereB round to m), .any, .any, .any, .any, .any, .any, .any, Ls false l, .int .i64 l.length, .int .i64 k, .any, .any, .any, .any, .any, .any, .any, .any, .any, .any, .any, .any, .any, .any, .any, .any, .any, .any, .any, .any, .any, .any, .any, .any, .any, .any], [⟨25, 3, [.agg (⟨dl, us, l⟩ : TNet).cells], 0, true⟩, ⟨25, 3, [.agg zeroN.cells], 0, true⟩, RF 38 ((l.take k).filter (hereB round to)) 0, RF 38 ((l.take k).filter fun m => !hereB round to m) 0]⟩ : S)) (fun k => k ≤ l.length) (fun k => l.length - k) 0 (Wk.ren 0 [0, 1, 2, 3] hX rfl (by decide) (by simp) (by simp) (by simp) (by simp [zeroN])) (by omega) ?_
  rintro k hk
  refine vcB_sound [2, 12] h.mo _ _ _ (by kernel_rfl) ?_
  rcases Nat.lt_or_ge k l.length with hlt | hge
  · have hk1 := wrap_succ hlt (by omega)
    have f1 := filter_take (hereB round to) hlt
    have f2 := filter_take (fun m => !hereB round to m) hlt
    obtain ⟨m, hm⟩ : ∃ m, l[k] = m := ⟨_, rfl⟩
    rw [hm] at f1 f2
    have l1 : ((l.take k).filter (hereB round to)).length ≤ l.length := Nat.le_trans (List.length_filter_le _ _) (by simp; omega)
    have l2 : ((l.take k).filter fun m => !hereB round to m).length ≤ l.length := Nat.le_trans (List.length_filter_le _ _) (by simp; omega)
    generalize (l.take k).filter (hereB round to) = A1 at f1 l1
    generalize ((l.take k).filter fun m => !hereB round to m) = A2 at f2 l2
    by_cases q1 : m.fTo = to
    · by_cases q2 : m.fArrive ≤ round
      · rw [if_pos (by simp [hereB, q1, q2])] at f1
        rw [if_neg (by simp [hereB, q1, q2])] at f2
        simp [hlt, hm, q1, q2]
        exact ⟨⟨by omega, by omega⟩, k + 1, Wk.ren 0 [0, 1, 6, 3] hX rfl (by decide) (by simp [hk1, f1, f2]) (by simp) (by simp) (by simp [f1, f2, q1]), by omega, by omega⟩
      · rw [if_neg (by simp [hereB, q2])] at f1
        rw [if_pos (by simp [hereB, q2])] at f2
        simp [hlt, hm, q1, q2]
        exact ⟨⟨by omega, by omega⟩, k + 1, Wk.ren 0 [0, 1, 2, 6] hX rfl (by decide) (by simp [hk1, f1, f2]) (by simp) (by simp) (by simp [f1, f2, q1]), by omega, by omega⟩
    · rw [if_neg (by simp [hereB, q1])] at f1
      rw [if_pos (by simp [hereB, q1])] at f2
      simp [hlt, hm, q1]
      exact ⟨⟨by omega, by omega⟩, k + 1, Wk.ren 0 [0, 1, 2, 6] hX rfl (by decide) (by simp [hk1, f1, f2]) (by simp) (by simp) (by simp [f1, f2]), by omega, by omega⟩
  · have hkl : k = l.length := by omega
    subst hkl
    simp
    refine awp_tree (.take 0 (.take 2 (.alt 1 (.alt 3 .done .stop) .stop))) _ h.mo (by kernel_rfl) (by decide) (by kernel_rfl) (by rfl) ?_
    simp [arrH, arrN, h0]

theorem c_RArrive (n : TNet) (round to : Int) (hn : fitN n) : FCall P 18 [.agg n.cells, .int .i64 round, .int .i64 to] (fun r => r = .tup [Ls false (arrH n round to), .agg (arrN n round to).cells]) := by
  refine fcall_ofB [2, 10, 11] h.f18 rfl (by decide) h.mo (by kernel_rfl) fun X hX => ?_
  obtain ⟨d1, d2, d3⟩ := hn
  simp
  refine xcall_fn (c_RCheck n (by omega) (by omega)) (by simp) ?_
  by_cases h0 : netE n = 0
  case neg =>
    simp [h0]
    refine awp_tree (.take 1 (.alt 0 (.alt 2 .done .stop) .stop)) _ h.mo (by kernel_rfl) (by decide) (by kernel_rfl) (by rfl) ?_
    simp [arrH, arrN, h0]
  simp [h0]
  obtain ⟨dl, us, l⟩ := n
  simp only at d1 d2 d3
  refine awp_loop (σ := Nat) (fun k => (⟨[.any, .int .i64 round, .int .i64 to, .pto 0 3 0 0, .any, .any, .any, .pto 1 3 0 0, B 3 ((l.take k).filter (hereB round to)), .pto 2 3 0 0, .int .i64 k, .any, .any, .any, .any, .any, .any, .any, .any, .any, .any, .any, .any, .any, .any, .any, .any, .any, .any, .any, .any, .any, .any, .any, .any, .any, .any, .any, .any, .any, .any, .any, .any, .any, .any, .any, .any, .any, .any, .any, .any, .any, .any, .any, .any, .any, .any, .any, .any, .any, .any, .any, .any, .any, .any], [⟨25, 3, [.agg (⟨dl, us, l⟩ : TNet).cells], 0, true⟩, ⟨25, 3, [.agg zeroN.cells], 0, true⟩, ⟨25, 3, [.agg [Ls false dl, .int .i64 us, B 4 ((l.take k).filter fun m => !hereB round to m)]], 0, true⟩, RF 38 ((l.take k).filter (hereB round to)) 0, RF 38 ((l.take k).filter fun m => !hereB round to m) 0]⟩ : S)) (fun k => k ≤ l.length) (fun k => l.length - k) 0 (Wk.ren 0 [0, 1, 2, 3, 4] hX rfl (by decide) (by simp) (by simp) (by simp) (by simp [zeroN])) (by omega) ?_
  rintro k hk
  refine vcB_sound [2, 10, 11] h.mo _ _ _ (by kernel_rfl) ?_
  rcases Nat.lt_or_ge k l.length with hlt | hge
  · have hk1 := wrap_succ hlt (by omega)
    have f1 := filter_take (hereB round to) hlt
    have f2 := filter_take (fun m => !hereB round to m) hlt
    obtain ⟨m, hm⟩ : ∃ m, l[k] = m := ⟨_, rfl⟩
    rw [hm] at f1 f2
    have l1 : ((l.take k).filter (hereB round to)).length ≤ l.length := Nat.le_trans (List.length_filter_le _ _) (by simp; omega)
    have l2 : ((l.take k).filter fun m => !hereB round to m).length ≤ l.length := Nat.le_trans (List.length_filter_le _ _) (by simp; omega)
    generalize (l.take k).filter (hereB round to) = A1 at f1 l1
    generalize ((l.take k).filter fun m => !hereB round to m) = A2 at f2 l2
    by_cases q1 : m.fTo = to
    · by_cases q2 : m.fArrive ≤ round
      · rw [if_pos (by simp [hereB, q1, q2])] at f1
        rw [if_neg (by simp [hereB, q1, q2])] at f2
        simp [hlt, hm, q1, q2]
        exact ⟨⟨by omega, by omega⟩, k + 1, Wk.ren 0 [0, 1, 2, 6, 4] hX rfl (by decide) (by simp [hk1, f1, f2]) (by simp) (by simp) (by simp [f1, f2, q1]), by omega, by omega⟩
      · rw [if_neg (by simp [hereB, q2])] at f1
        rw [if_pos (by simp [hereB, q2])] at f2
        simp [hlt, hm, q1, q2]
        refine awp_tree (.take 0 (.take 2 (.take 4 (.alt 1 (.alt 3 (.take 5 (.alt 6 (.alt 7 (.alt 8 (.take 9 (.alt 10 .done .stop)) .stop) .stop) .stop)) .stop) (.alt 3 (.take 5 (.alt 1 (.alt 6 (.alt 7 (.alt 8 (.take 9 (.alt 10 .done .stop)) .stop) .stop) .stop) (.alt 6 (.alt 1 (.alt 7 (.alt 8 (.take 9 (.alt 10 .done .stop)) .stop) .stop) (.alt 7 (.alt 1 (.alt 8 (.take 9 (.alt 10 .done .stop)) .stop) .stop) .stop)) .stop))) .stop))))) _ h.mo (by kernel_rfl) (by decide) (by kernel_rfl) (by rfl) ?_
        simp [hlt, hm]
        repeat' (with_reducible apply And.intro)
        all_goals first
          | omega
          | exact ⟨k + 1, Wk.ren 0 [0, 1, 2, 3, 6] hX rfl (by decide) (by simp [hk1, f1, f2]) (by simp) (by simp) (by simp [f1, f2]), by omega, by omega⟩

    · rw [if_neg (by simp [hereB, q1])] at f1
      rw [if_pos (by simp [hereB, q1])] at f2
      simp [hlt, hm, q1]
      · skip
        refine awp_tree (.take 0 (.take 2 (.take 4 (.alt 1 (.alt 3 (.take 5 (.alt 6 (.alt 7 (.alt 8 (.take 9 (.alt 10 .done .stop)) .stop) .stop) .stop)) .stop) (.alt 3 (.take 5 (.alt 1 (.alt 6 (.alt 7 (.alt 8 (.take 9 (.alt 10 .done .stop)) .stop) .stop) .stop) (.alt 6 (.alt 1 (.alt 7 (.alt 8 (.take 9 (.alt 10 .done .stop)) .stop) .stop) (.alt 7 (.alt 1 (.alt 8 (.take 9 (.alt 10 .done .stop)) .stop) .stop) .stop)) .stop))) .stop))))) _ h.mo (by kernel_rfl) (by decide) (by kernel_rfl) (by rfl) ?_
        simp [hlt, hm]
        repeat' (with_reducible apply And.intro)
        all_goals first
          | omega
          | exact ⟨k + 1, Wk.ren 0 [0, 1, 2, 3, 6] hX rfl (by decide) (by simp [hk1, f1, f2]) (by simp) (by simp) (by simp [f1, f2]), by omega, by omega⟩

  · have hkl : k = l.length := by omega
    subst hkl
    simp
    refine awp_tree (.take 0 (.take 2 (.alt 1 (.alt 3 .done .stop) .stop))) _ h.mo (by kernel_rfl) (by decide) (by kernel_rfl) (by rfl) ?_
    simp [arrH, arrN, h0]
end Go.Proofs.Ytnnpahcanpakcaa
