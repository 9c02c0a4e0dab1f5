/- Chapter 41: the law Joins, over any program that has the text. -/
import Derived.Test.YtacfckmhnnhllaaL2
namespace Go.Proofs.Ytacfckmhnnhllaa
open Go.AL
variable {P : Program} [h : Facts P]

theorem plB_le {p q : Pl} (h : plB p q = false) : q.1 ≤ p.1 := by
  simp only [plB, Bool.or_eq_false_iff, decide_eq_false_iff_not] at h
  omega
theorem plB_of_lt {p q : Pl} (h : q.1 < p.1) : plB p q = false := by
  simp only [plB, Bool.or_eq_false_iff, Bool.and_eq_false_iff, decide_eq_false_iff_not]
  omega
theorem srt_last {l : List TEvent} (h : srt (ltOf ofE) l) (hl : 0 < l.length) : ∀ e ∈ l, e.fTime ≤ (l[l.length - 1]'(by omega)).fTime := by
  intro e he
  obtain ⟨i, hi, rfl⟩ := List.getElem_of_mem he
  rcases Nat.lt_or_ge i (l.length - 1) with q | q
  · exact plB_le ((List.pairwise_iff_getElem.1 h) i (l.length - 1) hi (by omega) q)
  · have : i = l.length - 1 := by omega
    subst this
    exact Int.le_refl _
theorem srt_head {l : List TEvent} (h : srt (ltOf ofE) l) (hl : 0 < l.length) : ∀ e ∈ l, (l[0]'hl).fTime ≤ e.fTime := by
  intro e he
  obtain ⟨i, hi, rfl⟩ := List.getElem_of_mem he
  rcases Nat.eq_zero_or_pos i with q | q
  · subst q; exact Int.le_refl _
  · exact plB_le ((List.pairwise_iff_getElem.1 h) 0 i hl hi q)
theorem late_lt {a b : List TEvent} (ha : srt (ltOf ofE) a) (hb : srt (ltOf ofE) b) (h : lateB a b = false) : ∀ e ∈ a, ∀ e' ∈ b, e.fTime < e'.fTime := by
  intro e he e' he'
  have pa : 0 < a.length := List.length_pos_of_mem he
  have pb : 0 < b.length := List.length_pos_of_mem he'
  unfold lateB at h
  rw [dif_pos ⟨pa, pb⟩, decide_eq_false_iff_not] at h
  have h1 := srt_last ha pa e he
  have h2 := srt_head hb pb e' he'
  omega
theorem cat_good {a b : TLog} (ga : Good a) (gb : Good b) (hl : lateB a.fEvents b.fEvents = false) (hg : longB (catL a b) = false) : Good (catL a b) := by
  have hlt := late_lt ga.es gb.es hl
  simp only [longB, catL, List.length_append, Bool.or_eq_false_iff, decide_eq_false_iff_not] at hg
  refine ⟨?_, ?_, ?_, ?_, ?_, ?_⟩
  · simp only [catL, List.length_append]; omega
  · simp only [catL, List.length_append]; omega
  · intro e he
    rcases List.mem_append.1 he with he | he
    · exact ga.ev e he
    · exact gb.ev e he
  · exact List.pairwise_append.2 ⟨ga.es, gb.es, fun e he e' he' => plB_of_lt (hlt e he e' he')⟩
  · refine List.pairwise_append.2 ⟨ga.rs, gb.rs, fun r hr r' hr' => plB_of_lt ?_⟩
    obtain ⟨e, he, q⟩ := List.mem_map.1 (ga.rh r hr)
    obtain ⟨e', he', q'⟩ := List.mem_map.1 (gb.rh r' hr')
    rw [← q, ← q']
    exact hlt e he e' he'
  · intro r hr
    show atR r ∈ (a.fEvents ++ b.fEvents).map ofE
    rw [List.map_append]
    rcases List.mem_append.1 hr with hr | hr
    · exact List.mem_append_left _ (ga.rh r hr)
    · exact List.mem_append_right _ (gb.rh r hr)
theorem join_chk {a b : TLog} (h : (joinZ a b).2 = 0) : chkZ (joinZ a b).1 = 0 := by
  unfold joinZ at h ⊢
  by_cases h1 : chkZ a = 0
  case neg => rw [if_pos h1] at h; exact absurd h h1
  rw [if_neg (fun q => q h1)] at h ⊢
  by_cases h2 : chkZ b = 0
  case neg => rw [if_pos h2] at h; exact absurd h h2
  rw [if_neg (fun q => q h2)] at h ⊢
  cases h3 : lateB a.fEvents b.fEvents
  case true => rw [if_pos h3] at h; simp at h
  rw [if_neg (by simp [h3])] at h ⊢
  cases h4 : longB (catL a b)
  case true => rw [if_pos h4] at h; simp at h
  rw [if_neg (by simp)]
  exact chk_good.2 (cat_good (chk_good.1 h1) (chk_good.1 h2) h3 h4)
theorem join_ok {a b : TLog} (ha : a.ok) (hb : b.ok) : (joinZ a b).1.ok := by
  have hn : (⟨[], []⟩ : TLog).ok := ⟨⟨by simp, by simp⟩, by simp, by simp⟩
  unfold joinZ
  split
  · exact hn
  split
  · exact hn
  split
  · exact hn
  split
  · exact hn
  rename_i h1 h2 _ _
  have l1 := chk_len (Decidable.not_not.1 h1)
  have l2 := chk_len (Decidable.not_not.1 h2)
  refine ⟨⟨?_, fun e he => ?_⟩, ?_, fun e he => ?_⟩
  · show (a.fEvents ++ b.fEvents).length ≤ _
    rw [List.length_append]; omega
  · rcases List.mem_append.1 he with he | he
    · exact ha.1.2 e he
    · exact hb.1.2 e he
  · show (a.fRecs ++ b.fRecs).length ≤ _
    rw [List.length_append]; omega
  · rcases List.mem_append.1 he with he | he
    · exact ha.2.2 e he
    · exact hb.2.2 e he
set_option maxHeartbeats 4000000 in
theorem c_CommitJoins (a b : TLog) (ha : a.ok) (hb : b.ok) : FCall P 6 [.agg a.cells, .agg b.cells] (fun r => r = .bool true) := by
  refine fcall_of h.f6 rfl (by decide) h.mo (by kernel_rfl) fun X hX => ?_
  simp
  refine xcall_fn (c_small a) (by simp) ?_
  cases smallB a
  · simp
    refine xcall_fn c_awake (by simp) ?_
    simp
  simp
  refine xcall_fn (c_small b) (by simp) ?_
  cases smallB b
  · simp
    refine xcall_fn c_awake (by simp) ?_
    simp
  simp
  have hj := c_Join a b ha hb (P := P)
  have hr := c_RJoin a b ha hb (P := P)
  have hk := join_chk (a := a) (b := b)
  have ho := join_ok ha hb
  generalize joinZ a b = j at *
  obtain ⟨x, e⟩ := j
  refine xcall_fn hj (by simp) ?_
  simp
  refine xcall_fn hr (by simp) ?_
  simp
  refine xcall_fn (c_RLSame x x ho ho) (by simp) ?_
  simp [sameL_self]
  by_cases q : e = 0
  · subst q
    simp
    refine xcall_fn (c_Check x ho) (by simp) ?_
    have := hk rfl
    simp [this]
    refine xcall_fn c_awake (by simp) ?_
    simp
  · simp [q]
    refine xcall_fn c_awake (by simp) ?_
    simp
end Go.Proofs.Ytacfckmhnnhllaa
