/- Chapter 41: small, few and the chapter's examples, over any program that has the text. -/
import Derived.Test.YtacfckmhnnhllaaE18
import Derived.Test.YtacfckmhnnhllaaE20
import Derived.Test.YtacfckmhnnhllaaE12
namespace Go.Proofs.Ytacfckmhnnhllaa
open Go.AL
variable {P : Program} [h : Facts P]

omit h in
/-- A cut behind a part of the code: the state there, under a name. -/
theorem awp_cut {X : Ctx} {x y : Code} {Q : AX → S → Prop} {s : S} (s1 : S) (h1 : awp P X x (fun e s' => e = .normal ∧ Wk P X s' s1) s) (h2 : awp P X y Q s1) : awp P X (.seq x y) Q s :=
  awp_seq (awp_mono h1 (by rintro e s' ⟨rfl, hw⟩; exact awp_weaken hw h2))
def evE (t s : Int) : TEvent := ⟨t, 0, s, 0, s, 3, 0, 0, []⟩
theorem c_event (t s : Int) : FCall P 25 [.int .i64 t, .int .i64 s] (fun r => r = .agg (evE t s).cells) := by
  refine fcall_of h.f25 rfl (by decide) h.mo (by kernel_rfl) fun X hX => ?_
  simp [evE]
def smallB (l : TLog) : Bool := decide (l.fEvents.length ≤ 5200) && (decide (l.fRecs.length ≤ 2000) && l.fEvents.all fun e => decide (e.fArgs.length ≤ 20))
theorem c_small (l : TLog) : FCall P 10 [.agg l.cells] (fun r => r = .bool (smallB l)) := by
  refine fcall_of h.f10 rfl (by decide) h.mo (by kernel_rfl) fun X hX => ?_
  obtain ⟨es, rs⟩ := l
  generalize hv : smallB ⟨es, rs⟩ = v
  simp only [smallB] at hv
  by_cases h1 : 5200 < es.length
  · have h1i : (5200 : Int) < (es.length : Int) := by omega
    rw [decide_eq_false (by omega : ¬ es.length ≤ 5200), Bool.false_and] at hv
    subst hv
    simp [h1i]
  have h1i : ¬ (5200 : Int) < (es.length : Int) := by omega
  rw [decide_eq_true (by omega : es.length ≤ 5200), Bool.true_and] at hv
  by_cases h2 : 2000 < rs.length
  · have h2i : (2000 : Int) < (rs.length : Int) := by omega
    rw [decide_eq_false (by omega : ¬ rs.length ≤ 2000), Bool.false_and] at hv
    subst hv
    simp [h1i, h2i]
  have h2i : ¬ (2000 : Int) < (rs.length : Int) := by omega
  rw [decide_eq_true (by omega : rs.length ≤ 2000), Bool.true_and] at hv
  simp [h1i, h2i]
  refine awp_loop (σ := Nat) (fun k => (⟨[.any, .pto 0 2 0 0, .any, .int .i64 k, .any, .any, .any, .any, .any, .any, .any, .any, .any, .any, .any, .any, .any, .any, .any, .any, .any, .any, .any, .any, .any, .any, .any, .any, .any], [⟨25, 2, [.agg (⟨es, rs⟩ : TLog).cells], 0, true⟩]⟩ : S)) (fun k => k ≤ es.length ∧ ∀ j (hj : j < es.length), j < k → decide (es[j].fArgs.length ≤ 20) = true) (fun k => es.length - k) 0 (Wk.ren 0 [0] hX rfl (by decide) (by simp) (by simp) (by simp) (by simp)) ⟨by simp, by simp⟩ ?_
  rintro k ⟨hk, hinv⟩
  refine vc_sound h.mo _ _ _ (by kernel_rfl) ?_
  rcases Nat.lt_or_ge k es.length with hlt | hge
  · have hk1 := wrap_succ hlt (by omega)
    by_cases q : 20 < es[k].fArgs.length
    · have qi : (20 : Int) < (es[k].fArgs.length : Int) := by omega
      have : v = false := by
        rw [← hv, List.all_eq_false]
        exact ⟨_, List.getElem_mem hlt, by simp; omega⟩
      simp [hlt, qi, this]
    · have qi : ¬ (20 : Int) < (es[k].fArgs.length : Int) := by omega
      simp [hlt, qi]
      exact ⟨k + 1, Wk.ren 0 [0] hX rfl (by decide) (by simp [hk1]) (by simp) (by simp) (by simp), ⟨by omega, fun j hj hjk => by
        by_cases e : j = k
        · subst e; omega
        · simpa using hinv j hj (by omega)⟩, by omega⟩
  · have hkl : k = es.length := by omega
    subst hkl
    have : v = true := by rw [← hv]; exact all_yes fun j hj => hinv j hj hj
    simp [this]
def lE : TLog := ⟨[evE 3 0, evE 3 1], [⟨3, 1, 1, 0, 0, 0⟩]⟩
def backE : TLog := ⟨[evE 3 1, evE 3 0], []⟩
def loneE : TLog := ⟨[evE 3 0, evE 3 1], [⟨4, 1, 0, 0, 0, 0⟩]⟩
theorem a_chk : chkZ lE = 0 := by decide
theorem a_back : chkZ backE = 12 := by decide
theorem a_lone : chkZ loneE = 5 := by decide
theorem a_join : (joinZ lE lE) = (⟨[], []⟩, 12) := by decide
theorem a_dif1 : difZ lE.fEvents backE.fEvents = 0 := by decide
theorem a_dif2 : difZ lE.fEvents loneE.fEvents = -1 := by decide
theorem a_dif3 : difZ lE.fEvents (prjL lE 1).fEvents = 0 := by decide
theorem a_p1 : (prjL lE 1).fEvents.length = 1 := by decide
theorem a_p2 : (prjL lE 1).fRecs.length = 1 := by decide
theorem a_same : sameL lE loneE = false := by decide
theorem a_self : sameL lE lE = true := by decide
theorem a_merge1 : mergeZ [lE, lE] = (⟨[], []⟩, 4) := by
  unfold mergeZ
  rw [if_neg (by decide), if_pos (twB_true.2 ⟨1, 0, by decide, by decide, by decide, 0, ⟨evE 3 0, by decide, rfl⟩, ⟨evE 3 0, by decide, rfl⟩⟩)]
theorem a_merge2 : mergeZ [prjL lE 1, prjL lE 0] = (lE, 0) := by
  have hc : ¬ clash [prjL lE 1, prjL lE 0] := by
    rintro ⟨i, k, hi, hk, hki, s, ⟨e, he, hs⟩, e', he', hs'⟩
    have h1 : i = 1 := by simp at hi; omega
    have h0 : k = 0 := by omega
    subst h1 h0
    have e1 : e.fSite = 0 := by
      have := (List.mem_filter.1 he).2
      simpa using this
    have e2 : e'.fSite = 1 := by
      have := (List.mem_filter.1 he').2
      simpa using this
    omega
  unfold mergeZ
  rw [if_neg (by decide), if_neg (by rw [twB_false hc]; decide), if_neg (by decide)]
  have he : evA [prjL lE 1, prjL lE 0] = [evE 3 1, evE 3 0] := by decide
  have hr : rcA [prjL lE 1, prjL lE 0] = lE.fRecs := by decide
  have i1 : isrt (ltOf ofE) [evE 3 1, evE 3 0] = [evE 3 0, evE 3 1] := by simp [isrt, mrg_nil_left, mrg_nil_right, mrg_cons, ltOf, plB, ofE, evE]
  have i2 : isrt (ltOf atR) lE.fRecs = lE.fRecs := by simp [isrt, lE, mrg_nil_left]
  rw [he, hr, i1, i2]
  rfl
theorem ok_evE (t s : Int) (h1 : (Lit.int .i64 t).wf = true) (h2 : (Lit.int .i64 s).wf = true) : (evE t s).ok := ⟨h1, (by decide : (Lit.int .i64 0).wf = true), h2, (by decide : (Lit.int .i64 0).wf = true), h2, (by decide : (Lit.int .i64 3).wf = true), (by decide : (Lit.int .i64 0).wf = true), (by decide : (Lit.int .i64 0).wf = true), by simp [evE], by simp [evE]⟩
theorem ok_lE : lE.ok := by
  refine ⟨⟨by simp [lE], fun e he => ?_⟩, by simp [lE], fun r hr => ?_⟩
  · simp only [lE, List.mem_cons, List.not_mem_nil, or_false] at he
    rcases he with rfl | rfl <;> exact ok_evE _ _ (by decide) (by decide)
  · simp only [lE, List.mem_cons, List.not_mem_nil, or_false] at hr
    rw [hr]
    exact ⟨by decide, by decide, by decide, by decide, by decide, by decide⟩
theorem ok_back : backE.ok := by
  refine ⟨⟨by simp [backE], fun e he => ?_⟩, by simp [backE], by simp [backE]⟩
  simp only [backE, List.mem_cons, List.not_mem_nil, or_false] at he
  rcases he with rfl | rfl <;> exact ok_evE _ _ (by decide) (by decide)
theorem ok_lone : loneE.ok := by
  refine ⟨⟨by simp [loneE], fun e he => ?_⟩, by simp [loneE], fun r hr => ?_⟩
  · simp only [loneE, List.mem_cons, List.not_mem_nil, or_false] at he
    rcases he with rfl | rfl <;> exact ok_evE _ _ (by decide) (by decide)
  · simp only [loneE, List.mem_cons, List.not_mem_nil, or_false] at hr
    rw [hr]
    exact ⟨by decide, by decide, by decide, by decide, by decide, by decide⟩
theorem ok_prj {l : TLog} (h : l.ok) (s : Int) : (prjL l s).ok := by
  obtain ⟨⟨h1, h2⟩, h3, h4⟩ := h
  refine ⟨⟨?_, fun e he => h2 e (List.mem_filter.1 he).1⟩, ?_, fun r hr => h4 r (List.mem_filter.1 hr).1⟩
  · have := prjE_len s l.fEvents
    show (prjE s l.fEvents).length ≤ _
    omega
  · have := prjR_len s l.fRecs
    show (prjR s l.fRecs).length ≤ _
    omega
set_option maxRecDepth 4000 in
set_option maxHeartbeats 4000000 in
theorem c_awake : FCall P 11 [] (fun r => r = .bool true) := by
  refine fcall_ofA h.f11 rfl (by decide) fun X hX => ?_
  refine awp_seq (vc_sound h.mo _ _ _ (by kernel_rfl) ?_)
  simp
  refine awp_cut (⟨[.bool false, .ptr (.agg lE.cells), .any, .any, .any, .any, .any, .any, .any, .any, .any, .any, .any, .any, .any, .any, .any, .any, .any, .any, .any, .any, .any, .any, .any, .any, .any, .any, .any, .any, .any, .any, .any, .any, .any, .any, .any, .any, .any, .any, .any, .any, .any, .any, .any, .any, .any, .any, .any, .any, .any, .any, .any, .any, .any, .any, .any, .any, .any, .any, .any, .any, .any, .any, .any, .any, .any, .any, .any, .any, .any, .any, .any, .any, .any, .any, .any, .any, .any, .any, .any, .any, .any, .any, .any, .any, .any, .any, .any, .any, .any, .any, .any, .any, .any, .any, .any, .any, .any, .any, .any, .any, .any, .any, .any, .any, .any, .any, .any, .any, .any, .any, .any, .any, .any, .any], []⟩ : S) (vc_sound h.mo _ _ _ (by kernel_rfl) ?_) ?_
  case refine_1 =>
    simp
    refine xcall_fn (c_event 3 0) (by simp) ?_
    simp
    refine xcall_fn (c_event 3 1) (by simp) ?_
    simp
    exact (Wk.fzS 0 (by rfl) rfl (by simp)).trans ((Wk.fzS 1 (by rfl) rfl (by simp)).trans ((Wk.fz 2 _ _ _ _ (by rfl) (by simp)).trans (Wk.ren 0 [] hX rfl (by decide) (by simp [lE]) (by simp) (by simp) (by simp))))
  refine awp_cut (⟨[.bool false, .ptr (.agg (lE : TLog).cells), .pto 0 2 0 0, .any, .any, .any, .any, .any, .any, .any, .any, .any, .any, .any, .any, .any, .any, .any, .any, .any, .any, .any, .any, .any, .any, .any, .any, .any, .any, .any, .any, .any, .any, .any, .any, .any, .any, .any, .any, .any, .any, .any, .any, .any, .any, .any, .any, .any, .any, .any, .any, .any, .any, .any, .any, .any, .any, .any, .any, .any, .any, .any, .any, .any, .any, .any, .any, .any, .any, .any, .any, .any, .any, .any, .any, .any, .any, .any, .any, .any, .any, .any, .any, .any, .any, .any, .any, .any, .any, .any, .any, .any, .any, .any, .any, .any, .any, .any, .any, .any, .any, .any, .any, .any, .any, .any, .any, .any, .any, .any, .any, .any, .any, .any, .any, .any], [⟨25, 2, [.agg (backE : TLog).cells], 0, true⟩]⟩ : S) (vc_sound h.mo _ _ _ (by kernel_rfl) ?_) ?_
  case refine_1 =>
    simp
    refine xcall_fn (c_event 3 1) (by simp) ?_
    simp
    refine xcall_fn (c_event 3 0) (by simp) ?_
    simp
    exact (Wk.fzS 0 (by rfl) rfl (by simp)).trans (Wk.ren 0 [1] hX rfl (by decide) (by simp) (by simp) (by simp) (by simp [backE]))
  refine awp_fz 0 (by rfl) (by simp) ?_
  simp
  refine awp_cut (⟨[.bool false, .ptr (.agg (lE : TLog).cells), .ptr (.agg (backE : TLog).cells), .pto 0 2 0 0, .any, .any, .any, .any, .any, .any, .any, .any, .any, .any, .any, .any, .any, .any, .any, .any, .any, .any, .any, .any, .any, .any, .any, .any, .any, .any, .any, .any, .any, .any, .any, .any, .any, .any, .any, .any, .any, .any, .any, .any, .any, .any, .any, .any, .any, .any, .any, .any, .any, .any, .any, .any, .any, .any, .any, .any, .any, .any, .any, .any, .any, .any, .any, .any, .any, .any, .any, .any, .any, .any, .any, .any, .any, .any, .any, .any, .any, .any, .any, .any, .any, .any, .any, .any, .any, .any, .any, .any, .any, .any, .any, .any, .any, .any, .any, .any, .any, .any, .any, .any, .any, .any, .any, .any, .any, .any, .any, .any, .any, .any, .any, .any], [⟨25, 2, [.agg (loneE : TLog).cells], 0, true⟩]⟩ : S) (vc_sound h.mo _ _ _ (by kernel_rfl) ?_) ?_
  case refine_1 =>
    simp
    exact (Wk.fzS 1 (by rfl) rfl (by simp)).trans (Wk.ren 0 [2] hX rfl (by decide) (by simp) (by simp) (by simp) (by simp [loneE, lE]))
  refine awp_fz 0 (by rfl) (by simp) ?_
  simp
  refine awp_cut (⟨[.bool false, .ptr (.agg (lE : TLog).cells), .ptr (.agg (backE : TLog).cells), .ptr (.agg (loneE : TLog).cells), .any, .int .i64 12, .any, .any, .any, .any, .any, .any, .any, .any, .any, .any, .any, .any, .any, .any, .any, .any, .any, .any, .any, .any, .any, .any, .any, .any, .any, .any, .any, .any, .any, .any, .any, .any, .any, .any, .any, .any, .any, .any, .any, .any, .any, .any, .any, .any, .any, .any, .any, .any, .any, .any, .any, .any, .any, .any, .any, .any, .any, .any, .any, .any, .any, .any, .any, .any, .any, .any, .any, .any, .any, .any, .any, .any, .any, .any, .any, .any, .any, .any, .any, .any, .any, .any, .any, .any, .any, .any, .any, .any, .any, .any, .any, .any, .any, .any, .any, .any, .any, .any, .any, .any, .any, .any, .any, .any, .any, .any, .any, .any, .any, .any], []⟩ : S) (vc_sound h.mo _ _ _ (by kernel_rfl) ?_) ?_
  case refine_1 =>
    simp
    refine xcall_fn (c_Join lE lE ok_lE ok_lE) (by simp) ?_
    rw [a_join]
    simp
    exact Wk.ren 0 [] hX rfl (by decide) (by simp) (by simp) (by simp) (by simp)
  refine awp_cut (⟨[.bool false, .ptr (.agg (lE : TLog).cells), .ptr (.agg (backE : TLog).cells), .ptr (.agg (loneE : TLog).cells), .any, .int .i64 12, .any, .int .i64 4, .any, .any, .any, .any, .any, .any, .any, .any, .any, .any, .any, .any, .any, .any, .any, .any, .any, .any, .any, .any, .any, .any, .any, .any, .any, .any, .any, .any, .any, .any, .any, .any, .any, .any, .any, .any, .any, .any, .any, .any, .any, .any, .any, .any, .any, .any, .any, .any, .any, .any, .any, .any, .any, .any, .any, .any, .any, .any, .any, .any, .any, .any, .any, .any, .any, .any, .any, .any, .any, .any, .any, .any, .any, .any, .any, .any, .any, .any, .any, .any, .any, .any, .any, .any, .any, .any, .any, .any, .any, .any, .any, .any, .any, .any, .any, .any, .any, .any, .any, .any, .any, .any, .any, .any, .any, .any, .any, .any], []⟩ : S) (vc_sound h.mo _ _ _ (by kernel_rfl) ?_) ?_
  case refine_1 =>
    simp
    refine xcall_fn (c_Merge [lE, lE] (by simp) (by simp [ok_lE])) (by simp) ?_
    rw [a_merge1]
    simp
    exact Wk.ren 0 [] hX rfl (by decide) (by simp) (by simp) (by simp) (by simp)
  refine awp_cut (⟨[.bool false, .ptr (.agg (lE : TLog).cells), .ptr (.agg (backE : TLog).cells), .ptr (.agg (loneE : TLog).cells), .any, .int .i64 12, .any, .int .i64 4, .pto 0 2 0 0, .any, .any, .any, .any, .any, .any, .any, .any, .any, .any, .any, .any, .any, .any, .any, .any, .any, .any, .any, .any, .any, .any, .any, .any, .any, .any, .any, .any, .any, .any, .any, .any, .any, .any, .any, .any, .any, .any, .any, .any, .any, .any, .any, .any, .any, .any, .any, .any, .any, .any, .any, .any, .any, .any, .any, .any, .any, .any, .any, .any, .any, .any, .any, .any, .any, .any, .any, .any, .any, .any, .any, .any, .any, .any, .any, .any, .any, .any, .any, .any, .any, .any, .any, .any, .any, .any, .any, .any, .any, .any, .any, .any, .any, .any, .any, .any, .any, .any, .any, .any, .any, .any, .any, .any, .any, .any, .any], [⟨25, 2, [.agg (prjL lE 1 : TLog).cells], 0, true⟩]⟩ : S) (vc_sound h.mo _ _ _ (by kernel_rfl) ?_) ?_
  case refine_1 =>
    simp
    refine xcall_fn (c_Project lE 1 (by decide) (by decide)) (by simp) ?_
    simp
    exact Wk.ren 0 [0] hX rfl (by decide) (by simp) (by simp) (by simp) (by simp)
  refine awp_fz 0 (by rfl) (by simp) ?_
  simp
  refine awp_cut (⟨[.bool false, .ptr (.agg (lE : TLog).cells), .ptr (.agg (backE : TLog).cells), .ptr (.agg (loneE : TLog).cells), .any, .int .i64 12, .any, .int .i64 4, .ptr (.agg (prjL lE 1 : TLog).cells), .pto 0 2 0 0, .int .i64 0, .any, .any, .any, .any, .any, .any, .any, .any, .any, .any, .any, .any, .any, .any, .any, .any, .any, .any, .any, .any, .any, .any, .any, .any, .any, .any, .any, .any, .any, .any, .any, .any, .any, .any, .any, .any, .any, .any, .any, .any, .any, .any, .any, .any, .any, .any, .any, .any, .any, .any, .any, .any, .any, .any, .any, .any, .any, .any, .any, .any, .any, .any, .any, .any, .any, .any, .any, .any, .any, .any, .any, .any, .any, .any, .any, .any, .any, .any, .any, .any, .any, .any, .any, .any, .any, .any, .any, .any, .any, .any, .any, .any, .any, .any, .any, .any, .any, .any, .any, .any, .any, .any, .any, .any, .any], [⟨25, 2, [.agg (lE : TLog).cells], 0, true⟩]⟩ : S) ?_ ?_
  case refine_1 =>
    refine awp_tree (.take 0 (.take 2 (.alt 1 (.alt 3 (.alt 4 (.alt 5 (.take 6 (.take 7 (.take 8 (.alt 9 (.alt 10 (.take 11 .done) .stop) .stop)))) (.alt 9 (.alt 5 (.take 6 (.take 7 (.take 8 (.alt 10 (.take 11 .done) .stop)))) .stop) .stop)) (.alt 9 (.alt 4 (.alt 5 (.take 6 (.take 7 (.take 8 (.alt 10 (.take 11 .done) .stop)))) .stop) .stop) .stop)) (.alt 9 (.alt 3 (.alt 4 (.alt 5 (.take 6 (.take 7 (.take 8 (.alt 10 (.take 11 .done) .stop)))) .stop) .stop) .stop) .stop)) (.alt 9 (.alt 1 (.alt 3 (.alt 4 (.alt 5 (.take 6 (.take 7 (.take 8 (.alt 10 (.take 11 .done) .stop)))) .stop) .stop) .stop) .stop) .stop)))) _ h.mo (by kernel_rfl) (by decide) (by kernel_rfl) (by rfl) ?_
    simp
    repeat' (with_reducible apply And.intro)
    all_goals (refine xcall_fn (c_Project lE 1 (by decide) (by decide)) (by simp) ?_; simp)
    repeat' (with_reducible apply And.intro)
    repeat' (first
      | (with_reducible apply And.intro)
      | (with_reducible refine xcall_fn (c_Project lE 0 (by decide) (by decide)) ?_ ?_
         · simp
         simp)
      | (first
         | refine xcall_fzown 1 0 2 2 true (by rfl) rfl (by rfl) (by simp) ?_
         | refine xcall_fzown 2 0 2 2 true (by rfl) rfl (by rfl) (by simp) ?_
         | refine xcall_fzown 3 0 2 2 true (by rfl) rfl (by rfl) (by simp) ?_
         refine xcall_fn (c_Merge [prjL lE 1, prjL lE 0] (by simp) (by simp [ok_prj ok_lE])) ?_ ?_
         · simp
         rw [a_merge2]
         simp))
    all_goals (first | (refine Wk.ren 0 [1] hX rfl (by decide) ?_ ?_ ?_ ?_ <;> (simp; done)) | (refine Wk.ren 0 [2] hX rfl (by decide) ?_ ?_ ?_ ?_ <;> (simp; done)) | skip)
  refine awp_fz 0 (by rfl) (by simp) ?_
  simp
  refine vc_sound h.mo _ _ _ (by kernel_rfl) ?_
  simp
  refine xcall_fn (c_Check lE ok_lE) (by simp) ?_
  simp [a_chk]
  refine xcall_fn (c_Check backE ok_back) (by simp) ?_
  simp [a_back]
  refine xcall_fn (c_Check loneE ok_lone) (by simp) ?_
  simp [a_lone, a_p1, a_p2]
  refine xcall_fn (c_CSame lE lE ok_lE ok_lE) (by simp) ?_
  simp [a_self]
  refine xcall_fn (c_CSame lE loneE ok_lE ok_lone) (by simp) ?_
  simp [a_same]
  refine xcall_fn (c_Differ lE backE ok_lE ok_back) (by simp) ?_
  simp [a_dif1]
  refine xcall_fn (c_Differ lE loneE ok_lE ok_lone) (by simp) ?_
  simp [a_dif2]
  refine xcall_fn (c_Differ lE (prjL lE 1) ok_lE (ok_prj ok_lE 1)) (by simp) ?_
  simp [a_dif3]
end Go.Proofs.Ytacfckmhnnhllaa
