/- Chapter 41: the law Splits, over any program that has the text. -/
import Derived.Test.YtacfckmhnnhllaaL8
namespace Go.Proofs.Ytacfckmhnnhllaa
open Go.AL
variable {P : Program} [h : Facts P]

theorem flt_take {α : Type} (p : α → Bool) {l : List α} {k : Nat} (hk : k < l.length) : (l.take (k + 1)).filter p = if p l[k] = true then (l.take k).filter p ++ [l[k]] else (l.take k).filter p := by
  rw [List.take_succ_eq_append_getElem hk, List.filter_append]
  split
  · rename_i q; rw [List.filter_cons_of_pos q, List.filter_nil]
  · rename_i q; rw [List.filter_cons_of_neg q, List.filter_nil, List.append_nil]
theorem flt_len {α : Type} (p : α → Bool) {l : List α} {k : Nat} : ((l.take k).filter p).length ≤ l.length := by
  have h1 := List.length_filter_le p (l.take k)
  rw [List.length_take] at h1
  omega
set_option maxHeartbeats 4000000 in
theorem c_CommitSplits (l : TLog) (t : Int) (hok : l.ok) (ht : (Lit.int .i64 t).wf = true) : FCall P 9 [.agg l.cells, .int .i64 t] (fun r => r = .bool true) := by
  refine fcall_ofA h.f9 rfl (by decide) fun X hX => ?_
  refine awp_seq (vc_sound h.mo _ _ _ (by kernel_rfl) ?_)
  simp
  refine awp_fz 0 (by rfl) (by simp) ?_
  simp
  refine awp_cut2 (⟨[.any, .int .i64 t, .ptr (.agg l.cells), .any, .bool false, .any, .any, .any, .any, .any, .any, .any, .any, .any, .any, .any, .any, .any, .any, .any, .any, .any, .any, .any, .any, .any, .any, .any, .any, .any, .any, .any, .any, .any, .any, .any, .any, .any, .any, .any, .any, .any, .any, .any, .any, .any, .any, .any, .any, .any, .any, .any, .any, .any, .any, .any, .any, .any, .any, .any, .any, .any, .any, .any, .any, .any, .any, .any, .any, .any, .any, .any, .any, .any, .any, .any, .any, .any, .any, .any, .any, .any, .any, .any, .any, .any, .any, .any, .any, .any, .any, .any, .any, .any, .any, .any, .any, .any, .any, .any, .any, .any, .any, .any, .any, .any, .any, .any, .any, .any, .any, .any, .any, .any, .any, .any, .any], []⟩ : S) (fewB [l] = true ∧ chkZ l = 0) (vc_sound h.mo _ _ _ (by kernel_rfl) ?_) ?_
  case refine_1 =>
    simp
    refine xcall_fn (c_few [l]) (by simp) ?_
    cases hfw : fewB [l]
    · simp
      refine xcall_fn c_awake (by simp) ?_
      simp
    simp
    refine xcall_fn (c_Check l hok) (by simp) ?_
    by_cases q : chkZ l = 0
    · simp [q]
      exact Wk.ren 0 [] hX rfl (by decide) (by simp) (by simp) (by simp) (by simp)
    · simp [q]
      refine xcall_fn c_awake (by simp) ?_
      simp
  rintro ⟨hfw, hz⟩
  obtain ⟨n1, n2⟩ := few_one hfw
  have hg := chk_good.1 hz
  have g1 := erl_good t hg
  have g2 := ltr_good t hg
  have hj := cut_join t hg
  obtain ⟨es, rs⟩ := l
  dsimp only at n1 n2
  refine vcB_sound [8, 9, 14, 15] h.mo _ _ _ (by kernel_rfl) ?_
  simp
  refine awp_loop (σ := Nat) (fun k => (⟨[.any, .int .i64 t, .ptr (.agg (⟨es, rs⟩ : TLog).cells), .any, .bool false, .pto 0 2 0 0, .pto 1 2 0 0, .int .i64 k, .any, .any, .any, .any, .any, .any, .any, .any, .any, .any, .any, .any, .any, .any, .any, .any, .any, .any, .any, .any, .any, .any, .any, .any, .any, .any, .any, .any, .any, .any, .any, .any, .any, .any, .any, .any, .any, .any, .any, .any, .any, .any, .any, .any, .any, .any, .any, .any, .any, .any, .any, .any, .any, .any, .any, .any, .any, .any, .any, .any, .any, .any, .any, .any, .any, .any, .any, .any, .any, .any, .any, .any, .any, .any, .any, .any, .any, .any, .any, .any, .any, .any, .any, .any, .any, .any, .any, .any, .any, .any, .any, .any, .any, .any, .any, .any, .any, .any, .any, .any, .any, .any, .any, .any, .any, .any, .any, .any, .any], [⟨25, 2, [.agg [B 2 ((es.take k).filter (erlE t)), .sl true []]], 0, true⟩, ⟨25, 2, [.agg [B 3 ((es.take k).filter fun e => !erlE t e), .sl true []]], 0, true⟩, RW 44 ((es.take k).filter (erlE t)), RW 44 ((es.take k).filter fun e => !erlE t e)]⟩ : S)) (fun k => k ≤ es.length) (fun k => es.length - k) 0 (Wk.ren 0 [0, 1, 2, 3] hX rfl (by decide) (by simp) (by simp) (by simp) (by simp)) (by omega) ?_
  rintro k hk
  refine vcB_sound [8, 9, 14, 15] h.mo _ _ _ (by kernel_rfl) ?_
  rcases Nat.lt_or_ge k es.length with hlt | hge
  · have hk1 := wrap_succ hlt (by omega)
    have hpa := flt_take (erlE t) hlt
    have hpb := flt_take (fun e => !erlE t e) hlt
    have hla := flt_len (erlE t) (l := es) (k := k)
    have hlb := flt_len (fun e => !erlE t e) (l := es) (k := k)
    generalize (es.take k).filter (erlE t) = acc at *
    generalize ((es.take k).filter fun e => !erlE t e) = bcc at *
    by_cases q : es[k].fTime < t
    · have q1 : erlE t es[k] = true := decide_eq_true q
      rw [q1, if_pos (by rfl)] at hpa
      rw [q1, if_neg (by decide)] at hpb
      simp [hlt, eq_true q]
      refine awp_tree (.take 0 (.take 2 (.take 3 (.take 4 (.take 5 (.take 6 (.alt 1 (.alt 7 (.alt 8 (.take 9 (.alt 10 .done .stop)) .stop) .stop) (.alt 7 (.alt 1 (.alt 8 (.take 9 (.alt 10 .done .stop)) .stop) .stop) .stop)))))))) _ h.mo (by kernel_rfl) (by decide) (by kernel_rfl) (by rfl) ?_
      simp [hlt]
      refine ⟨⟨by omega, by omega⟩, ?_⟩
      exact ⟨k + 1, Wk.ren 0 [0, 1, 5, 3] hX rfl (by decide) (by simp [hk1]) (by simp) (by simp) (by simp [hpa, hpb]), by omega, by omega⟩
    · have q1 : erlE t es[k] = false := decide_eq_false q
      rw [q1, if_neg (by decide)] at hpa
      rw [q1, if_pos (by rfl)] at hpb
      simp [hlt, q]
      refine awp_tree (.take 0 (.take 2 (.take 3 (.take 4 (.take 5 (.take 6 (.alt 1 (.alt 7 (.alt 8 (.take 9 (.alt 10 .done .stop)) .stop) .stop) (.alt 7 (.alt 1 (.alt 8 (.take 9 (.alt 10 .done .stop)) .stop) .stop) .stop)))))))) _ h.mo (by kernel_rfl) (by decide) (by kernel_rfl) (by rfl) ?_
      simp [hlt]
      refine ⟨⟨by omega, by omega⟩, ?_⟩
      exact ⟨k + 1, Wk.ren 0 [0, 1, 2, 5] hX rfl (by decide) (by simp [hk1]) (by simp) (by simp) (by simp [hpa, hpb]), by omega, by omega⟩
  have hkl : k = es.length := by omega
  subst hkl
  rw [List.take_length]
  simp
  have ea : es.filter (erlE t) = (erl t ⟨es, rs⟩).fEvents := rfl
  have eb : (es.filter fun e => !erlE t e) = (ltr t ⟨es, rs⟩).fEvents := rfl
  have na := List.length_filter_le (erlE t) es
  have nb := List.length_filter_le (fun e => !erlE t e) es
  generalize hga : es.filter (erlE t) = ga at *
  generalize hgb : (es.filter fun e => !erlE t e) = gb at *
  refine awp_loop (σ := Nat) (fun k => (⟨[.any, .int .i64 t, .ptr (.agg (⟨es, rs⟩ : TLog).cells), .any, .bool false, .pto 0 2 0 0, .pto 1 2 0 0, .any, .int .i64 k, .any, .any, .any, .any, .any, .any, .any, .any, .any, .any, .any, .any, .any, .any, .any, .any, .any, .any, .any, .any, .any, .any, .any, .any, .any, .any, .any, .any, .any, .any, .any, .any, .any, .any, .any, .any, .any, .any, .any, .any, .any, .any, .any, .any, .any, .any, .any, .any, .any, .any, .any, .any, .any, .any, .any, .any, .any, .any, .any, .any, .any, .any, .any, .any, .any, .any, .any, .any, .any, .any, .any, .any, .any, .any, .any, .any, .any, .any, .any, .any, .any, .any, .any, .any, .any, .any, .any, .any, .any, .any, .any, .any, .any, .any, .any, .any, .any, .any, .any, .any, .any, .any, .any, .any, .any, .any, .any, .any], [⟨25, 2, [.agg [B 2 ga, B 4 ((rs.take k).filter (erlR t))]], 0, true⟩, ⟨25, 2, [.agg [B 3 gb, B 5 ((rs.take k).filter fun e => !erlR t e)]], 0, true⟩, RW 44 ga, RW 44 gb, RW 47 ((rs.take k).filter (erlR t)), RW 47 ((rs.take k).filter fun e => !erlR t e)]⟩ : S)) (fun k => k ≤ rs.length) (fun k => rs.length - k) 0 (Wk.ren 0 [0, 1, 2, 3, 4, 5] hX rfl (by decide) (by simp) (by simp) (by simp) (by simp)) (by omega) ?_
  rintro k hk
  refine vcB_sound [8, 9, 14, 15] h.mo _ _ _ (by kernel_rfl) ?_
  rcases Nat.lt_or_ge k rs.length with hlt | hge
  · have hk1 := wrap_succ hlt (by omega)
    have hpa := flt_take (erlR t) hlt
    have hpb := flt_take (fun e => !erlR t e) hlt
    have hla := flt_len (erlR t) (l := rs) (k := k)
    have hlb := flt_len (fun e => !erlR t e) (l := rs) (k := k)
    generalize (rs.take k).filter (erlR t) = acc at *
    generalize ((rs.take k).filter fun e => !erlR t e) = bcc at *
    by_cases q : rs[k].fTime < t
    · have q1 : erlR t rs[k] = true := decide_eq_true q
      rw [q1, if_pos (by rfl)] at hpa
      rw [q1, if_neg (by decide)] at hpb
      simp [hlt, eq_true q]
      refine awp_tree (.take 0 (.take 2 (.take 3 (.take 4 (.take 5 (.take 6 (.alt 1 (.alt 7 (.alt 8 (.take 9 (.alt 10 .done .stop)) .stop) .stop) (.alt 7 (.alt 1 (.alt 8 (.take 9 (.alt 10 .done .stop)) .stop) .stop) .stop)))))))) _ h.mo (by kernel_rfl) (by decide) (by kernel_rfl) (by rfl) ?_
      simp [hlt]
      refine ⟨⟨by omega, by omega⟩, ?_⟩
      exact ⟨k + 1, Wk.ren 0 [0, 1, 2, 3, 7, 5] hX rfl (by decide) (by simp [hk1]) (by simp) (by simp) (by simp [hpa, hpb]), by omega, by omega⟩
    · have q1 : erlR t rs[k] = false := decide_eq_false q
      rw [q1, if_neg (by decide)] at hpa
      rw [q1, if_pos (by rfl)] at hpb
      simp [hlt, q]
      refine awp_tree (.take 0 (.take 2 (.take 3 (.take 4 (.take 5 (.take 6 (.alt 1 (.alt 7 (.alt 8 (.take 9 (.alt 10 .done .stop)) .stop) .stop) (.alt 7 (.alt 1 (.alt 8 (.take 9 (.alt 10 .done .stop)) .stop) .stop) .stop)))))))) _ h.mo (by kernel_rfl) (by decide) (by kernel_rfl) (by rfl) ?_
      simp [hlt]
      refine ⟨⟨by omega, by omega⟩, ?_⟩
      exact ⟨k + 1, Wk.ren 0 [0, 1, 2, 3, 4, 7] hX rfl (by decide) (by simp [hk1]) (by simp) (by simp) (by simp [hpa, hpb]), by omega, by omega⟩
  have hkl : k = rs.length := by omega
  subst hkl
  rw [List.take_length]
  have hj' : joinZ ⟨ga, rs.filter (erlR t)⟩ ⟨gb, rs.filter fun e => !erlR t e⟩ = (⟨es, rs⟩, 0) := by rw [← hga, ← hgb]; exact hj
  have c1 : chkZ ⟨ga, rs.filter (erlR t)⟩ = 0 := by rw [← hga]; exact chk_good.2 g1
  have c2 : chkZ ⟨gb, rs.filter fun e => !erlR t e⟩ = 0 := by rw [← hgb]; exact chk_good.2 g2
  have ra := List.length_filter_le (erlR t) rs
  have rb := List.length_filter_le (fun e => !erlR t e) rs
  have o1 : (⟨ga, rs.filter (erlR t)⟩ : TLog).ok := by
    rw [← hga]
    exact ⟨⟨by have := List.length_filter_le (erlE t) es; exact Nat.le_trans this (by omega), fun e he => hok.1.2 e (List.mem_filter.1 he).1⟩, Nat.le_trans ra (by omega), fun e he => hok.2.2 e (List.mem_filter.1 he).1⟩
  have o2 : (⟨gb, rs.filter fun e => !erlR t e⟩ : TLog).ok := by
    rw [← hgb]
    exact ⟨⟨by have := List.length_filter_le (fun e => !erlE t e) es; exact Nat.le_trans this (by omega), fun e he => hok.1.2 e (List.mem_filter.1 he).1⟩, Nat.le_trans rb (by omega), fun e he => hok.2.2 e (List.mem_filter.1 he).1⟩
  have hJ := c_Join (P := P) _ _ o1 o2
  have hA := c_Check (P := P) _ o1
  have hB := c_Check (P := P) _ o2
  rw [hj'] at hJ
  rw [c1] at hA
  rw [c2] at hB
  generalize rs.filter (erlR t) = sa at *
  generalize (rs.filter fun e => !erlR t e) = sb at *
  simp
  refine xcall_fn hJ (by simp) ?_
  simp
  refine xcall_fn (c_RLSame ⟨es, rs⟩ ⟨es, rs⟩ hok hok) (by simp) ?_
  simp [sameL_self]
  refine xcall_fn hA (by simp) ?_
  simp
  refine xcall_fn hB (by simp) ?_
  simp
  refine xcall_fn c_awake (by simp) ?_
  simp
end Go.Proofs.Ytacfckmhnnhllaa
