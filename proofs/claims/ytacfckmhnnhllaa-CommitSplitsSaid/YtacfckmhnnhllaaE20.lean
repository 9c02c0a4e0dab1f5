/- Chapter 41: the reference's Join, over any program that has the text. -/
import Derived.Test.YtacfckmhnnhllaaE19
namespace Go.Proofs.Ytacfckmhnnhllaa
open Go.AL
variable {P : Program} [h : Facts P]

set_option maxHeartbeats 8000000 in
theorem c_RJoin (a b : TLog) (ha : a.ok) (hb : b.ok) : FCall P 21 [.agg a.cells, .agg b.cells] (fun r => r = .tup [.agg (joinZ a b).1.cells, .int .i64 (joinZ a b).2]) := by
  refine fcall_ofA h.f21 rfl (by decide) fun X hX => ?_
  refine awp_seq (vc_sound h.mo _ _ _ (by kernel_rfl) ?_)
  simp
  refine awp_seq (vc_sound h.mo _ _ _ (by kernel_rfl) ?_)
  simp
  refine xcall_fn (c_RCheck a ha) (by simp) ?_
  simp
  refine awp_cut2 (⟨[.any, .any, .pto 0 2 0 0, .pto 1 2 0 0, .pto 2 2 0 0, .int .i64 0, .any, .any, .any, .any, .any, .any, .any, .any, .any, .any, .any, .any, .any, .any, .any, .any, .any, .any, .any, .any, .any, .any, .any, .any, .any, .any, .any, .any, .any, .any, .any, .any, .any, .any, .any, .any, .any, .any, .any, .any, .any, .any, .any, .any, .any, .any, .any, .any, .any, .any, .any, .any, .any, .any, .any, .any, .any, .any, .any, .any, .any, .any, .any, .any], [⟨25, 2, [.agg (a : TLog).cells], 0, true⟩, ⟨25, 2, [.agg (b : TLog).cells], 0, true⟩, ⟨25, 2, [.agg [.sl true [], .sl true []]], 0, true⟩]⟩ : S) (chkZ a = 0) (vc_sound h.mo _ _ _ (by kernel_rfl) ?_) ?_
  case refine_1 =>
    by_cases q : chkZ a = 0
    · simp [q]
      exact Wk.ren 0 [0, 1, 2] hX rfl (by decide) (by simp) (by simp) (by simp) (by simp)
    · have hj : joinZ a b = (⟨[], []⟩, chkZ a) := by unfold joinZ; rw [if_pos q]
      simp [q, hj]
  intro ca
  refine awp_seq (vc_sound h.mo _ _ _ (by kernel_rfl) ?_)
  simp
  refine xcall_fn (c_RCheck b hb) (by simp) ?_
  simp
  refine awp_cut2 (⟨[.any, .any, .pto 0 2 0 0, .pto 1 2 0 0, .pto 2 2 0 0, .int .i64 0, .any, .any, .any, .any, .any, .any, .any, .any, .any, .any, .any, .any, .any, .any, .any, .any, .any, .any, .any, .any, .any, .any, .any, .any, .any, .any, .any, .any, .any, .any, .any, .any, .any, .any, .any, .any, .any, .any, .any, .any, .any, .any, .any, .any, .any, .any, .any, .any, .any, .any, .any, .any, .any, .any, .any, .any, .any, .any, .any, .any, .any, .any, .any, .any], [⟨25, 2, [.agg (a : TLog).cells], 0, true⟩, ⟨25, 2, [.agg (b : TLog).cells], 0, true⟩, ⟨25, 2, [.agg [.sl true [], .sl true []]], 0, true⟩]⟩ : S) (chkZ b = 0) (vc_sound h.mo _ _ _ (by kernel_rfl) ?_) ?_
  case refine_1 =>
    by_cases q : chkZ b = 0
    · simp [q]
      exact Wk.ren 0 [0, 1, 2] hX rfl (by decide) (by simp) (by simp) (by simp) (by simp)
    · have hj : joinZ a b = (⟨[], []⟩, chkZ b) := by unfold joinZ; rw [if_neg (fun z => z ca), if_pos q]
      simp [q, hj]
  intro cb
  obtain ⟨la1, la2⟩ := chk_len ca
  obtain ⟨lb1, lb2⟩ := chk_len cb
  have hj : joinZ a b = if lateB a.fEvents b.fEvents = true then (⟨[], []⟩, 12) else if longB (catL a b) = true then (⟨[], []⟩, 6) else (catL a b, 0) := by unfold joinZ; rw [if_neg (fun z => z ca), if_neg (fun z => z cb)]
  rw [hj]
  clear hj
  refine awp_fz 0 (by rfl) (by simp) ?_
  refine awp_fz 1 (by rfl) (by simp) ?_
  simp
  refine awp_cut2 (⟨[.any, .any, .ptr (.agg a.cells), .ptr (.agg b.cells), .pto 2 2 0 0, .int .i64 0, .any, .any, .any, .any, .any, .any, .any, .any, .any, .any, .any, .any, .any, .any, .any, .any, .any, .any, .any, .any, .any, .any, .any, .any, .any, .any, .any, .any, .any, .any, .any, .any, .any, .any, .any, .any, .any, .any, .any, .any, .any, .any, .any, .any, .any, .any, .any, .any, .any, .any, .any, .any, .any, .any, .any, .any, .any, .any, .any, .any, .any, .any, .any, .any], [dead0, dead0, ⟨25, 2, [.agg [.sl true [], .sl true []]], 0, true⟩]⟩ : S) (lateB a.fEvents b.fEvents = false) (vcB_sound [7] h.mo _ _ _ (by kernel_rfl) ?_) ?_
  case refine_1 =>
    generalize hlv : lateB a.fEvents b.fEvents = lv
    unfold lateB at hlv
    obtain ⟨ea, ra⟩ := a
    obtain ⟨eb, rb⟩ := b
    simp only at hlv la1 lb1 ⊢
    simp
    refine awp_quiet [0, 1, 2, 3, 4, 5, 6, 7, 8, 9, 10, 11, 12, 13, 14, 15, 16, 17, 18, 19, 20, 21, 22, 23, 24, 25, 26] _ h.mo (by kernel_rfl) (by decide) (by kernel_rfl) (by rfl) ?_
    by_cases q1 : 0 < ea.length
    case neg =>
      rw [dif_neg (fun z => q1 z.1)] at hlv
      have q1i : ¬ (0 : Int) < (ea.length : Int) := by omega
      have e0 : ea = [] := List.length_eq_zero_iff.1 (by omega)
      subst hlv
      simp [e0]
      exact Wk.ren 0 [0, 1, 2] hX rfl (by decide) (by simp) (by simp) (by simp) (by simp)
    by_cases q2 : 0 < eb.length
    case neg =>
      rw [dif_neg (fun z => q2 z.2)] at hlv
      have q1i : (0 : Int) < (ea.length : Int) := by omega
      have q2i : ¬ (0 : Int) < (eb.length : Int) := by omega
      have e0 : eb = [] := List.length_eq_zero_iff.1 (by omega)
      subst hlv
      simp [q1, e0]
      exact Wk.ren 0 [0, 1, 2] hX rfl (by decide) (by simp) (by simp) (by simp) (by simp)
    rw [dif_pos ⟨q1, q2⟩] at hlv
    have q1i : (0 : Int) < (ea.length : Int) := by omega
    have q2i : (0 : Int) < (eb.length : Int) := by omega
    have n1 : ¬ ea = [] := by rintro rfl; simp at q1
    have n2 : ¬ eb = [] := by rintro rfl; simp at q2
    obtain ⟨l1, hl1⟩ : ∃ l1, l1 = ea.length - 1 := ⟨_, rfl⟩
    have hl1l : l1 < ea.length := by omega
    have w1 : IntKind.i64.wrap ((ea.length : Int) - 1) = (l1 : Int) := by rw [i64_id (by omega) (by omega)]; omega
    simp only [← hl1] at hlv
    by_cases q3 : eb[0].fTime ≤ ea[l1].fTime
    · rw [decide_eq_true q3] at hlv
      subst hlv
      simp [q1, q2, w1, hl1l, q3]
    · rw [decide_eq_false q3] at hlv
      subst hlv
      simp [q1, q2, w1, hl1l, q3]
      exact Wk.ren 0 [0, 1, 2] hX rfl (by decide) (by simp) (by simp) (by simp) (by simp)
  intro hlt
  rw [if_neg (by rw [hlt]; decide)]
  refine awp_seq (vc_sound h.mo _ _ _ (by kernel_rfl) ?_)
  simp
  refine awp_seq (awp_tree (.take 0 (.take 2 (.take 3 (.take 5 (.take 6 (.alt 1 (.alt 4 (.alt 7 (.take 8 (.alt 9 .done .stop)) .stop) .stop) .stop)))))) _ h.mo (by kernel_rfl) (by decide) (by kernel_rfl) (by rfl) ?_)
  simp
  refine ⟨⟨by omega, by omega⟩, ⟨by omega, by omega⟩, ?_⟩
  refine awp_seq (awp_tree (.take 0 (.take 2 (.take 3 (.take 5 (.take 6 (.alt 1 (.alt 4 (.alt 7 (.take 8 (.alt 9 .done .stop)) .stop) .stop) .stop)))))) _ h.mo (by kernel_rfl) (by decide) (by kernel_rfl) (by rfl) ?_)
  simp
  refine ⟨⟨by omega, by omega⟩, ⟨by omega, by omega⟩, ?_⟩
  have hlo := c_Rlong (P := P) (catL a b)
  have hce : a.fEvents ++ b.fEvents = (catL a b).fEvents := rfl
  have hcr : a.fRecs ++ b.fRecs = (catL a b).fRecs := rfl
  rw [hce, hcr]
  generalize catL a b = c at *
  refine vc_sound h.mo _ _ _ (by kernel_rfl) ?_
  simp
  refine xcall_fn hlo (by simp) ?_
  cases longB c <;> simp
end Go.Proofs.Ytacfckmhnnhllaa
