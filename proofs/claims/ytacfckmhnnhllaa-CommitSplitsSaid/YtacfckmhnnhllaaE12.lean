/- Chapter 41: the projection of a log on a site, over any program that has the text. -/
import Derived.Test.YtacfckmhnnhllaaE7
namespace Go.Proofs.Ytacfckmhnnhllaa
open Go.AL
variable {P : Program} [h : Facts P]

def prjE (s : Int) (l : List TEvent) : List TEvent := l.filter fun e => decide (e.fSite = s)
def prjR (s : Int) (l : List TRec) : List TRec := l.filter fun e => decide (e.fSite = s)
def prjL (l : TLog) (s : Int) : TLog := ⟨prjE s l.fEvents, prjR s l.fRecs⟩
theorem prjE_take {s : Int} {l : List TEvent} {k : Nat} (hk : k < l.length) : prjE s (l.take (k + 1)) = if l[k].fSite = s then prjE s (l.take k) ++ [l[k]] else prjE s (l.take k) := by
  unfold prjE
  rw [List.take_succ_eq_append_getElem hk, List.filter_append]
  by_cases q : l[k].fSite = s <;> simp [q]
theorem prjR_take {s : Int} {l : List TRec} {k : Nat} (hk : k < l.length) : prjR s (l.take (k + 1)) = if l[k].fSite = s then prjR s (l.take k) ++ [l[k]] else prjR s (l.take k) := by
  unfold prjR
  rw [List.take_succ_eq_append_getElem hk, List.filter_append]
  by_cases q : l[k].fSite = s <;> simp [q]
theorem prjE_len (s : Int) (l : List TEvent) : (prjE s l).length ≤ l.length := List.length_filter_le _ _
theorem prjR_len (s : Int) (l : List TRec) : (prjR s l).length ≤ l.length := List.length_filter_le _ _
set_option maxHeartbeats 2000000 in
theorem c_Project (l : TLog) (s : Int) (h1 : l.fEvents.length ≤ 100000) (h2 : l.fRecs.length ≤ 100000) : FCall P 13 [.agg l.cells, .int .i64 s] (fun r => r = .agg (prjL l s).cells) := by
  refine fcall_of h.f13 rfl (by decide) h.mo (by kernel_rfl) fun X hX => ?_
  obtain ⟨es, rs⟩ := l
  simp only at h1 h2
  simp only [prjL]
  simp
  refine awp_loop (σ := Nat) (fun k => (⟨[.any, .int .i64 s, .pto 0 2 0 0, .any, .pto 1 2 0 0, .pto 2 2 0 0, .any, .any, .any, .any, .any, Ls false es, .int .i64 es.length, .int .i64 k, .any, .any, .any, .any, .any, .any, .any, .any, .any, .any, .any, .any, .any, .any, .any, .any, .any, .any, .any, .any, .any, .any, .any, .any, .any, .any, .any, .any, .any, .any, .any, .any, .any], [⟨25, 2, [.agg (⟨es, rs⟩ : TLog).cells], 0, true⟩, ⟨25, 2, [.agg [.sl true [], .sl true []]], 0, true⟩, ⟨25, 2, [.agg [B 3 (prjE s (es.take k)), .sl true []]], 0, true⟩, RW 44 (prjE s (es.take k))]⟩ : S)) (fun k => k ≤ es.length) (fun k => es.length - k) 0 (Wk.ren 0 [0, 1, 2, 3] hX rfl (by decide) (by simp) (by simp) (by simp) (by simp [prjE])) (by omega) ?_
  rintro k hk
  refine vc_sound h.mo _ _ _ (by kernel_rfl) ?_
  rcases Nat.lt_or_ge k es.length with hlt | hge
  · have hk1 := wrap_succ hlt (by omega)
    have hpt := prjE_take (s := s) hlt
    have hpl := prjE_len s (es.take k)
    rw [List.length_take] at hpl
    generalize prjE s (es.take k) = acc at *
    by_cases q : es[k].fSite = s
    · rw [if_pos q] at hpt
      simp [hlt, eq_true q]
      refine ⟨⟨by omega, by omega⟩, ?_⟩
      exact ⟨k + 1, Wk.ren 0 [0, 1, 2, 6] hX rfl (by decide) (by simp [hk1]) (by simp) (by simp) (by simp [hpt]), by omega, by omega⟩
    · rw [if_neg q] at hpt
      simp [hlt, q]
      exact ⟨k + 1, Wk.ren 0 [0, 1, 2, 3] hX rfl (by decide) (by simp [hk1]) (by simp) (by simp) (by simp [hpt]), by omega, by omega⟩
  have hkl : k = es.length := by omega
  subst hkl
  rw [List.take_length]
  have hpl := prjE_len s es
  generalize prjE s es = evs at *
  simp
  refine awp_loop (σ := Nat) (fun k => (⟨[.any, .int .i64 s, .any, .any, .pto 1 2 0 0, .pto 2 2 0 0, .any, .any, .any, .any, .any, .any, .any, .any, .any, .any, .any, .any, .any, .any, .any, .any, .any, .any, .any, .any, .any, .any, .any, Ls false rs, .int .i64 rs.length, .int .i64 k, .any, .any, .any, .any, .any, .any, .any, .any, .any, .any, .any, .any, .any, .any, .any], [⟨25, 2, [.agg (⟨es, rs⟩ : TLog).cells], 0, true⟩, ⟨25, 2, [.agg [.sl true [], .sl true []]], 0, true⟩, ⟨25, 2, [.agg [B 3 evs, B 4 (prjR s (rs.take k))]], 0, true⟩, RW 44 evs, RW 47 (prjR s (rs.take k))]⟩ : S)) (fun k => k ≤ rs.length) (fun k => rs.length - k) 0 (Wk.ren 0 [0, 1, 2, 3, 4] hX rfl (by decide) (by simp) (by simp) (by simp) (by simp [prjR])) (by omega) ?_
  rintro k hk
  refine vc_sound h.mo _ _ _ (by kernel_rfl) ?_
  rcases Nat.lt_or_ge k rs.length with hlt | hge
  · have hk1 := wrap_succ hlt (by omega)
    have hpt := prjR_take (s := s) hlt
    have hpl := prjR_len s (rs.take k)
    rw [List.length_take] at hpl
    generalize prjR s (rs.take k) = acc at *
    by_cases q : rs[k].fSite = s
    · rw [if_pos q] at hpt
      simp [hlt, eq_true q]
      refine ⟨⟨by omega, by omega⟩, ?_⟩
      exact ⟨k + 1, Wk.ren 0 [0, 1, 2, 3, 7] hX rfl (by decide) (by simp [hk1]) (by simp) (by simp) (by simp [hpt]), by omega, by omega⟩
    · rw [if_neg q] at hpt
      simp [hlt, q]
      exact ⟨k + 1, Wk.ren 0 [0, 1, 2, 3, 4] hX rfl (by decide) (by simp [hk1]) (by simp) (by simp) (by simp [hpt]), by omega, by omega⟩
  have hkl : k = rs.length := by omega
  subst hkl
  rw [List.take_length]
  have hpr := prjR_len s rs
  simp
set_option maxHeartbeats 2000000 in
theorem c_RProject (l : TLog) (s : Int) (h1 : l.fEvents.length ≤ 100000) (h2 : l.fRecs.length ≤ 100000) : FCall P 16 [.agg l.cells, .int .i64 s] (fun r => r = .agg (prjL l s).cells) := by
  refine fcall_ofB [6, 11] h.f16 rfl (by decide) h.mo (by kernel_rfl) fun X hX => ?_
  obtain ⟨es, rs⟩ := l
  simp only at h1 h2
  simp only [prjL]
  simp
  refine awp_loop (σ := Nat) (fun k => (⟨[.any, .int .i64 s, .ptr (.agg (⟨es, rs⟩ : TLog).cells), .any, .pto 0 2 0 0, .pto 1 2 0 0, .int .i64 k, .any, .any, .any, .any, .any, .any, .any, .any, .any, .any, .any, .any, .any, .any, .any, .any, .any, .any, .any, .any, .any, .any, .any, .any, .any, .any, .any, .any, .any, .any, .any, .any, .any, .any, .any, .any, .any, .any, .any, .any, .any, .any, .any, .any, .any, .any, .any, .any, .any, .any, .any, .any], [⟨25, 2, [.agg [.sl true [], .sl true []]], 0, true⟩, ⟨25, 2, [.agg [B 2 (prjE s (es.take k)), .sl true []]], 0, true⟩, RW 44 (prjE s (es.take k))]⟩ : S)) (fun k => k ≤ es.length) (fun k => es.length - k) 0 ((Wk.fz 0 _ _ _ _ (by rfl) (by simp)).trans (Wk.ren 0 [1, 2, 3] hX rfl (by decide) (by simp) (by simp) (by simp) (by simp [prjE]))) (by omega) ?_
  rintro k hk
  refine vcB_sound [6, 11] h.mo _ _ _ (by kernel_rfl) ?_
  rcases Nat.lt_or_ge k es.length with hlt | hge
  · have hk1 := wrap_succ hlt (by omega)
    have hpt := prjE_take (s := s) hlt
    have hpl := prjE_len s (es.take k)
    rw [List.length_take] at hpl
    generalize prjE s (es.take k) = acc at *
    by_cases q : es[k].fSite = s
    · rw [if_pos q] at hpt
      simp [hlt, eq_true q]
      refine awp_tree (.take 0 (.take 2 (.take 3 (.take 4 (.take 5 (.take 6 (.alt 1 (.alt 7 (.alt 8 (.take 9 (.alt 10 .done .stop)) .stop) .stop) (.alt 7 (.alt 1 (.alt 8 (.take 9 (.alt 10 .done .stop)) .stop) .stop) .stop)))))))) _ h.mo (by kernel_rfl) (by decide) (by kernel_rfl) (by rfl) ?_
      simp [hlt]
      refine ⟨⟨by omega, by omega⟩, ?_⟩
      exact ⟨k + 1, Wk.ren 0 [0, 1, 4] hX rfl (by decide) (by simp [hk1]) (by simp) (by simp) (by simp [hpt]), by omega, by omega⟩
    · rw [if_neg q] at hpt
      simp [hlt, q]
      exact ⟨k + 1, Wk.ren 0 [0, 1, 2] hX rfl (by decide) (by simp [hk1]) (by simp) (by simp) (by simp [hpt]), by omega, by omega⟩
  have hkl : k = es.length := by omega
  subst hkl
  rw [List.take_length]
  have hpl := prjE_len s es
  generalize prjE s es = evs at *
  simp
  refine awp_loop (σ := Nat) (fun k => (⟨[.any, .int .i64 s, .ptr (.agg (⟨es, rs⟩ : TLog).cells), .any, .pto 0 2 0 0, .pto 1 2 0 0, .any, .int .i64 k, .any, .any, .any, .any, .any, .any, .any, .any, .any, .any, .any, .any, .any, .any, .any, .any, .any, .any, .any, .any, .any, .any, .any, .any, .any, .any, .any, .any, .any, .any, .any, .any, .any, .any, .any, .any, .any, .any, .any, .any, .any, .any, .any, .any, .any, .any, .any, .any, .any, .any, .any], [⟨25, 2, [.agg [.sl true [], .sl true []]], 0, true⟩, ⟨25, 2, [.agg [B 2 evs, B 3 (prjR s (rs.take k))]], 0, true⟩, RW 44 evs, RW 47 (prjR s (rs.take k))]⟩ : S)) (fun k => k ≤ rs.length) (fun k => rs.length - k) 0 (Wk.ren 0 [0, 1, 2, 3] hX rfl (by decide) (by simp) (by simp) (by simp) (by simp [prjR])) (by omega) ?_
  rintro k hk
  refine vcB_sound [6, 11] h.mo _ _ _ (by kernel_rfl) ?_
  rcases Nat.lt_or_ge k rs.length with hlt | hge
  · have hk1 := wrap_succ hlt (by omega)
    have hpt := prjR_take (s := s) hlt
    have hpl := prjR_len s (rs.take k)
    rw [List.length_take] at hpl
    generalize prjR s (rs.take k) = acc at *
    by_cases q : rs[k].fSite = s
    · rw [if_pos q] at hpt
      simp [hlt, eq_true q]
      refine awp_tree (.take 0 (.take 2 (.take 3 (.take 4 (.take 5 (.take 6 (.alt 1 (.alt 7 (.alt 8 (.take 9 (.alt 10 .done .stop)) .stop) .stop) (.alt 7 (.alt 1 (.alt 8 (.take 9 (.alt 10 .done .stop)) .stop) .stop) .stop)))))))) _ h.mo (by kernel_rfl) (by decide) (by kernel_rfl) (by rfl) ?_
      simp [hlt]
      refine ⟨⟨by omega, by omega⟩, ?_⟩
      exact ⟨k + 1, Wk.ren 0 [0, 1, 2, 5] hX rfl (by decide) (by simp [hk1]) (by simp) (by simp) (by simp [hpt]), by omega, by omega⟩
    · rw [if_neg q] at hpt
      simp [hlt, q]
      exact ⟨k + 1, Wk.ren 0 [0, 1, 2, 3] hX rfl (by decide) (by simp [hk1]) (by simp) (by simp) (by simp [hpt]), by omega, by omega⟩
  have hkl : k = rs.length := by omega
  subst hkl
  rw [List.take_length]
  have hpr := prjR_len s rs
  generalize prjR s rs = rss at *
  simp
end Go.Proofs.Ytacfckmhnnhllaa
