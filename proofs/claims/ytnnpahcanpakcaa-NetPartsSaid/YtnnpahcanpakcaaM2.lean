/- Chapter 35: the law NetParts, over any program that has the text. -/
import Derived.Test.YtnnpahcanpakcaaM1
import Derived.Test.YtnnpahcanpakcaaP2
namespace Go.Proofs.Ytnnpahcanpakcaa
open Go.AL
variable {P : Program} [h : Facts P]

theorem filter_at {α : Type} (p : α → Bool) {l : List α} {k : Nat} (hk : k < l.length) (hp : p l[k] = true) : ∃ hi : ((l.take k).filter p).length < (l.filter p).length, (l.filter p)[((l.take k).filter p).length] = l[k] := by
  have e : l.filter p = (l.take k).filter p ++ l[k] :: (l.drop (k + 1)).filter p := by
    conv => lhs; rw [← List.take_append_drop k l, List.filter_append, List.drop_eq_getElem_cons hk, List.filter_cons, if_pos hp]
  have hi : ((l.take k).filter p).length < (l.filter p).length := by rw [e]; simp
  refine ⟨hi, ?_⟩
  have : (l.filter p)[((l.take k).filter p).length]? = some l[k] := by rw [e]; simp
  rw [List.getElem?_eq_getElem hi] at this
  exact Option.some.inj this

set_option maxHeartbeats 2000000 in
theorem c_NetParts (n : TNet) (round to : Int) (hm : n.fMsgs.length ≤ 9223372036854775807) : FCall P 6 [.agg n.cells, .int .i64 round, .int .i64 to] (fun r => r = .bool true) := by
  refine fcall_ofB [12, 15] h.f6 rfl (by decide) h.mo (by kernel_rfl) fun X hX => ?_
  simp
  refine xcall_fn (c_small n hm) (by simp) ?_
  by_cases h2 : smallB n = true
  case neg =>
    simp [h2]
    refine xcall_fn c_awake (by simp) ?_
    simp
  have hf := smallB_fit h2
  simp [h2]
  refine xcall_fn (c_Check n (Nat.le_trans hf.1 (by decide)) hm) (by simp) ?_
  by_cases h0 : netE n = 0
  case neg =>
    simp [h0]
    refine xcall_fn c_awake (by simp) ?_
    simp
  simp [h0]
  refine xcall_fn (c_Arrive n round to hf) (by simp) ?_
  have hv := netE_rest h0 round to
  have hfr := arrN_fit hf round to
  have hH : arrH n round to = n.fMsgs.filter (hereB round to) := by rw [arrH, if_pos h0]
  have hN : arrN n round to = ⟨n.fDelays, n.fUsed, n.fMsgs.filter fun m => !hereB round to m⟩ := by rw [arrN, if_pos h0]
  rw [hH, hN]
  rw [hN] at hv hfr
  obtain ⟨dl, us, ms⟩ := n
  simp only at hm hv hfr
  have hlen := filter_len (hereB round to) ms
  have hd3 := hf.2.2
  simp only at hd3
  have hd2 := hf.2.1
  simp only at hd2
  have w0 : IntKind.i64.wrap (((ms.filter (hereB round to)).length : Int) + (ms.filter fun m => !hereB round to m).length) = ms.length := by rw [i64_id (by omega) (by omega)]; omega
  simp [w0]
  refine xcall_fn (c_Check ⟨dl, us, ms.filter fun m => !hereB round to m⟩ (Nat.le_trans hfr.1 (by decide)) (Nat.le_trans hfr.2.1 (by decide))) (by simp) ?_
  simp [hv]
  refine awp_fz 0 (by rfl) (by simp) ?_
  refine awp_fz 1 (by rfl) (by simp) ?_
  simp
  refine awp_loop (σ := Nat) (fun j => (⟨[.any, .int .i64 round, .int .i64 to, .ptr (.agg [Ls false dl, .int .i64 us, Ls false ms]), .any, .any, .any, Ls false (ms.filter (hereB round to)), .ptr (.agg [Ls false dl, .int .i64 us, Ls false (ms.filter fun m => !hereB round to m)]), .int .i64 ((ms.take j).filter (hereB round to)).length, .int .i64 ((ms.take j).filter fun m => !hereB round to m).length, .int .i64 j, .any, .any, .any, .any, .any, .any, .any, .any, .any, .any, .any, .any, .any, .any, .any, .any, .any, .any, .any, .any, .any, .any, .any, .any, .any, .any, .any, .any, .any, .any, .any, .any, .any, .any, .any, .any, .any, .any, .any, .any, .any, .any, .any, .any, .any, .any, .any, .any, .any, .any, .any, .any, .any, .any, .any, .any, .any, .any, .any, .any, .any, .any, .any, .any, .any, .any, .any, .any, .any, .any, .any, .any, .any, .any, .any, .any, .any, .any, .any, .any, .any, .any, .any, .any, .any, .any, .any], []⟩ : S)) (fun j => j ≤ ms.length) (fun j => ms.length - j) 0 (Wk.ren 0 [] hX rfl (by decide) (by simp) (by simp) (by simp) (by simp)) (by omega) ?_
  rintro j hj
  refine vcB_sound [12, 15] h.mo _ _ _ (by kernel_rfl) ?_
  rcases Nat.lt_or_ge j ms.length with hlt | hge
  · have hk1 := wrap_succ hlt hm
    have f1 := filter_take (hereB round to) hlt
    have f2 := filter_take (fun m => !hereB round to m) hlt
    have g1 := filter_at (hereB round to) hlt
    have g2 := filter_at (fun m => !hereB round to m) hlt
    have hfm := hd3 _ (List.getElem_mem hlt)
    have u1 : (ms.filter (hereB round to)).length ≤ ms.length := List.length_filter_le _ _
    have u2 : (ms.filter fun m => !hereB round to m).length ≤ ms.length := List.length_filter_le _ _
    have e1 : ((ms.take (j + 1)).filter (hereB round to)).length = ((ms.take j).filter (hereB round to)).length + if hereB round to ms[j] = true then 1 else 0 := by rw [f1]; split <;> simp
    have e2 : ((ms.take (j + 1)).filter fun m => !hereB round to m).length = ((ms.take j).filter fun m => !hereB round to m).length + if (!hereB round to ms[j]) = true then 1 else 0 := by rw [f2]; split <;> simp
    clear f1 f2
    obtain ⟨m, hmj⟩ : ∃ m, ms[j] = m := ⟨_, rfl⟩
    rw [hmj] at g1 g2 e1 e2 hfm
    generalize ms.filter (hereB round to) = L1 at g1 u1
    generalize (ms.filter fun m => !hereB round to m) = L2 at g2 u2
    generalize ((ms.take j).filter (hereB round to)).length = i at g1 e1
    generalize ((ms.take j).filter fun m => !hereB round to m).length = k at g2 e2
    have case1 : hereB round to m = true → m.fTo = to ∧ m.fArrive ≤ round := by simp [hereB]
    by_cases q : hereB round to m = true
    · obtain ⟨hi, hg⟩ := g1 q
      obtain ⟨q1, q2⟩ := case1 q
      rw [if_pos q] at e1
      rw [if_neg (by simp [q])] at e2
      have hw := wrap_succ hi (by omega)
      have hi2 : ¬ L1.length ≤ i := by omega
      simp [hlt, hmj, eq_true q1, q2]
      refine awp_fz 0 (by rfl) (by simp) ?_
      simp
      refine awp_quiet [0, 1, 2, 3, 4, 5, 6, 7, 8, 9, 10, 11, 12] _ h.mo (by kernel_rfl) (by decide) (by kernel_rfl) (by rfl) ?_
      simp [hi, hi2, hg]
      refine ⟨_, c_SameMsg m hfm, ?_⟩
      simp
      exact ⟨j + 1, Wk.ren 0 [] hX rfl (by decide) (by simp [hk1, hw, e1, e2]) (by simp) (by simp) (by simp), by omega, by omega⟩
    · obtain ⟨hi, hg⟩ := g2 (by simp [q])
      rw [if_neg q] at e1
      rw [if_pos (by simp [q])] at e2
      have hw := wrap_succ hi (by omega)
      have hi2 : ¬ L2.length ≤ k := by omega
      have case2 : m.fTo = to → ¬ m.fArrive ≤ round := fun a b => q (by simp [hereB, a, b])
      have hq : (m.fTo = to) = False ∨ ((m.fTo = to) = True ∧ ¬ m.fArrive ≤ round) := by
        by_cases q1 : m.fTo = to
        · exact .inr ⟨eq_true q1, case2 q1⟩
        · exact .inl (eq_false q1)
      rcases hq with hq | ⟨hq, q2⟩
      all_goals
        simp [hlt, hmj, *]
        refine awp_fz 0 (by rfl) (by simp) ?_
        simp
        refine awp_quiet [0, 1, 2, 3, 4, 5, 6, 7, 8, 9, 10, 11, 12, 13, 14] _ h.mo (by kernel_rfl) (by decide) (by kernel_rfl) (by rfl) ?_
        simp [hi, hi2, hg]
        refine ⟨_, c_SameMsg m hfm, ?_⟩
        simp
        exact ⟨j + 1, Wk.ren 0 [] hX rfl (by decide) (by simp [hk1, hw, e1, e2]) (by simp) (by simp) (by simp), by omega, by omega⟩
  · have hge2 : ¬ j < ms.length := by omega
    simp [hge2]
    refine xcall_fn c_awake (by simp) ?_
    simp
end Go.Proofs.Ytnnpahcanpakcaa
