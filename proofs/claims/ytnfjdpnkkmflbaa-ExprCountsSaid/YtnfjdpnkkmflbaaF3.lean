/- Chapter 09: expressions: Replace, over any program that has the text. -/
import Derived.Test.YtnfjdpnkkmflbaaF2
namespace Go.Proofs.Ytnfjdpnkkmflbaa
open Go.AL
variable {P : Program} [h : Facts P]

mutual
def repE (s : List UInt8) (by' : TExpr) : TExpr → TExpr
  | ⟨o, nm, n, ks⟩ => if o = 3 ∧ nm = s then by' else ⟨o, nm, n, repL s by' ks⟩
def repL (s : List UInt8) (by' : TExpr) : List TExpr → List TExpr
  | [] => []
  | x :: l => repE s by' x :: repL s by' l
end
theorem repE_eq (s : List UInt8) (y : TExpr) (o : Int) (nm : List UInt8) (n : Int) (ks : List TExpr) : repE s y ⟨o, nm, n, ks⟩ = if o = 3 ∧ nm = s then y else ⟨o, nm, n, repL s y ks⟩ := by rw [repE]
theorem repL_map (s : List UInt8) (y : TExpr) (l : List TExpr) : repL s y l = l.map (repE s y) := by
  induction l with
  | nil => rw [repL]; rfl
  | cons x l ih => rw [repL, ih]; rfl
set_option maxHeartbeats 2000000 in
theorem c_Replace (s : List UInt8) (y : TExpr) : ∀ (e : TExpr), e.ok → cntE e ≤ 1000000 → FCall P 27 [.agg e.cells, .str s, .agg y.cells] (fun r => r = .agg (repE s y e).cells) := by
  refine TExpr.ind fun e ih => ?_
  intro hok hc
  rw [cntE_eq] at hc
  have hkn := kids_len e.fKids
  obtain ⟨_, _, _, _, hkl, hko⟩ := hok
  obtain ⟨op, nm, n, ks⟩ := e
  simp only at hkl hko ih hc hkn
  rw [repE_eq, repL_map]
  refine fcall_of h.f27 rfl (by decide) h.mo (by kernel_rfl) fun X hX => ?_
  by_cases q : op = 3 ∧ nm = s
  · rw [if_pos q]
    obtain ⟨q1, q2⟩ := q
    simp [q1, eq_true q2]
  rw [if_neg q]
  by_cases q1 : op = 3
  case' pos =>
    have q2 : ¬ nm = s := fun z => q ⟨q1, z⟩
    simp [q1, q2]
  case' neg => simp [q1]
  all_goals
    refine awp_loop (σ := Nat) (fun k => (⟨[.any, .str s, .any, .pto 0 4 0 0, .any, .pto 1 4 0 0, .pto 2 4 0 0, B 3 ((ks.take k).map (repE s y)), .any, .any, .any, .any, .any, .any, .any, .any, .any, .any, .any, .any, .any, Ls false ks, .int .i64 ks.length, .int .i64 k, .any, .any, .any, .any, .any, .any, .any, .any, .any, .any, .any, .any, .any, .any], [⟨25, 4, [.agg (⟨op, nm, n, ks⟩ : TExpr).cells], 0, true⟩, ⟨25, 4, [.agg y.cells], 0, true⟩, ⟨25, 4, [.agg [.int .i64 0, .str [], .int .i64 0, .sl true []]], 0, true⟩, RW 25 ((ks.take k).map (repE s y))]⟩ : S)) (fun k => k ≤ ks.length) (fun k => ks.length - k) 0 (Wk.ren 0 [0, 1, 2, 3] hX rfl (by decide) (by simp [*]) (by simp) (by simp) (by simp [*])) (by omega) ?_
    rintro k hk
    refine vc_sound h.mo _ _ _ (by kernel_rfl) ?_
    rcases Nat.lt_or_ge k ks.length with hlt | hge
    · have hk1 := wrap_succ hlt hkl
      have hmem := List.getElem_mem hlt
      have hcm := cntL_mem _ _ hmem
      have hlt2 : ((ks.take k).map (repE s y)).length = k := by simp; omega
      have htk : (ks.take (k + 1)).map (repE s y) = (ks.take k).map (repE s y) ++ [repE s y ks[k]] := by rw [List.take_succ_eq_append_getElem hlt, List.map_append]; rfl
      generalize (ks.take k).map (repE s y) = m at *
      simp [hlt]
      refine xcall_fn (ih ks[k] hmem (hko _ hmem) (by omega)) (by simp) ?_
      simp
      refine ⟨⟨by omega, by omega⟩, ?_⟩
      rw [List.map_take] at htk
      exact ⟨k + 1, Wk.ren 0 [0, 1, 2, 6] hX rfl (by decide) (by simp [hk1, htk]) (by simp) (by simp) (by simp [htk]), by omega, by omega⟩
    · have hkl : k = ks.length := by omega
      subst hkl
      simp <;> exact q1
set_option maxHeartbeats 2000000 in
theorem c_RReplace (s : List UInt8) (y : TExpr) : ∀ (e : TExpr), e.ok → cntE e ≤ 1000000 → FCall P 26 [.agg e.cells, .str s, .agg y.cells] (fun r => r = .agg (repE s y e).cells) := by
  refine TExpr.ind fun e ih => ?_
  intro hok hc
  rw [cntE_eq] at hc
  have hkn := kids_len e.fKids
  obtain ⟨_, _, _, _, hkl, hko⟩ := hok
  obtain ⟨op, nm, n, ks⟩ := e
  simp only at hkl hko ih hc hkn
  rw [repE_eq, repL_map]
  refine fcall_ofB [7] h.f26 rfl (by decide) h.mo (by kernel_rfl) fun X hX => ?_
  by_cases q : op = 3 ∧ nm = s
  · rw [if_pos q]
    obtain ⟨q1, q2⟩ := q
    simp [q1, eq_true q2]
  rw [if_neg q]
  by_cases q1 : op = 3
  case' pos =>
    have q2 : ¬ nm = s := fun z => q ⟨q1, z⟩
    simp [q1, q2]
  case' neg => simp [q1]
  all_goals
    refine awp_loop (σ := Nat) (fun k => (⟨[.any, .str s, .any, .pto 0 4 0 0, .any, .pto 1 4 0 0, .pto 2 4 0 0, B 3 ((ks.take k).map (repE s y)), .int .i64 k, .any, .any, .any, .any, .any, .any, .any, .any, .any, .any, .any, .any, .any, .any, .any, .any, .any, .any, .any, .any, .any, .any, .any, .any, .any, .any, .any, .any, .any, .any, .any], [⟨25, 4, [.agg (⟨op, nm, n, ks⟩ : TExpr).cells], 0, true⟩, ⟨25, 4, [.agg y.cells], 0, true⟩, ⟨25, 4, [.agg [.int .i64 0, .str [], .int .i64 0, .sl true []]], 0, true⟩, RW 25 ((ks.take k).map (repE s y))]⟩ : S)) (fun k => k ≤ ks.length) (fun k => ks.length - k) 0 (Wk.ren 0 [0, 1, 2, 3] hX rfl (by decide) (by simp [*]) (by simp) (by simp) (by simp [*])) (by omega) ?_
    rintro k hk
    refine vcB_sound [7] h.mo _ _ _ (by kernel_rfl) ?_
    rcases Nat.lt_or_ge k ks.length with hlt | hge
    · have hk1 := wrap_succ hlt hkl
      have hmem := List.getElem_mem hlt
      have hcm := cntL_mem _ _ hmem
      have hlt2 : ((ks.take k).map (repE s y)).length = k := by simp; omega
      have htk : (ks.take (k + 1)).map (repE s y) = (ks.take k).map (repE s y) ++ [repE s y ks[k]] := by rw [List.take_succ_eq_append_getElem hlt, List.map_append]; rfl
      generalize (ks.take k).map (repE s y) = m at *
      simp [hlt]
      refine awp_tree (.take 0 (.take 1 (.take 3 (.take 6 (.alt 2 (.take 4 (.take 5 (.alt 7 (.alt 8 (.alt 9 (.alt 10 (.take 11 .done) .stop) .stop) .stop) .stop))) (.alt 7 (.alt 2 (.take 4 (.take 5 (.alt 8 (.alt 9 (.alt 10 (.take 11 .done) .stop) .stop) .stop))) .stop) .stop)))))) _ h.mo (by kernel_rfl) (by decide) (by kernel_rfl) (by rfl) ?_
      simp [hlt]
      repeat' (with_reducible apply And.intro)
      all_goals
        refine xcall_fn (ih ks[k] hmem (hko _ hmem) (by omega)) (by simp) ?_
        simp
        refine ⟨⟨by omega, by omega⟩, ?_⟩
        rw [List.map_take] at htk
        exact ⟨k + 1, Wk.ren 0 [0, 1, 2, 5] hX rfl (by decide) (by simp [hk1, htk]) (by simp) (by simp) (by simp [htk]), by omega, by omega⟩
    · have hkl : k = ks.length := by omega
      subst hkl
      simp <;> exact q1
end Go.Proofs.Ytnfjdpnkkmflbaa
