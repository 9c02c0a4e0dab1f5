/- Chapter 41: few, the law Merges, over any program that has the text. -/
import Derived.Test.YtacfckmhnnhllaaL3
namespace Go.Proofs.Ytacfckmhnnhllaa
open Go.AL
variable {P : Program} [h : Facts P]

theorem SS_mem {α : Type} {lt : α → α → Bool} (ho : Ord lt) {l l' : List α} (hs : SS lt l l') (z : α) : z ∈ l' ↔ z ∈ l := by
  have hz : eqk lt z z = true := by
    have : lt z z = false := by
      cases q : lt z z
      · rfl
      · rw [← ho.asym z z q, q]
    simp [eqk, this]
  have := hs.2 z
  constructor
  · intro hm
    have : z ∈ l'.filter (eqk lt z) := List.mem_filter.2 ⟨hm, hz⟩
    rw [hs.2 z] at this
    exact (List.mem_filter.1 this).1
  · intro hm
    have : z ∈ l.filter (eqk lt z) := List.mem_filter.2 ⟨hm, hz⟩
    rw [← hs.2 z] at this
    exact (List.mem_filter.1 this).1
theorem isrt_mem {α : Type} {lt : α → α → Bool} (ho : Ord lt) (l : List α) (z : α) : z ∈ isrt lt l ↔ z ∈ l := SS_mem ho (isrt_SS ho l) z
theorem chkA_all : ∀ {ls : List TLog}, chkA ls = 0 → ∀ l ∈ ls, chkZ l = 0
  | [], _, l, hl => by simp at hl
  | x :: ls, h, l, hl => by
    rw [chkA] at h
    by_cases q : chkZ x = 0
    · rw [if_neg (fun c => c q)] at h
      rcases List.mem_cons.1 hl with rfl | hl
      · exact q
      · exact chkA_all h l hl
    · rw [if_pos q] at h; exact absurd h q
theorem merge_good {ls : List TLog} (hz : ∀ l ∈ ls, chkZ l = 0) (hl : longB ⟨evA ls, rcA ls⟩ = false) : Good ⟨isrt (ltOf ofE) (evA ls), isrt (ltOf atR) (rcA ls)⟩ := by
  simp only [longB, Bool.or_eq_false_iff, decide_eq_false_iff_not] at hl
  refine ⟨?_, ?_, ?_, ?_, ?_, ?_⟩
  · show (isrt (ltOf ofE) (evA ls)).length ≤ _
    rw [isrt_len]; omega
  · show (isrt (ltOf atR) (rcA ls)).length ≤ _
    rw [isrt_len]; omega
  · intro e he
    obtain ⟨l, hl, he⟩ := List.mem_flatMap.1 ((isrt_mem (ord_of ofE) _ e).1 he)
    exact (chk_good.1 (hz l hl)).ev e he
  · exact (isrt_SS (ord_of ofE) _).1
  · exact (isrt_SS (ord_of atR) _).1
  · intro r hr
    obtain ⟨l, hl, hr⟩ := List.mem_flatMap.1 ((isrt_mem (ord_of atR) _ r).1 hr)
    obtain ⟨e, he, q⟩ := List.mem_map.1 ((chk_good.1 (hz l hl)).rh r hr)
    exact List.mem_map.2 ⟨e, (isrt_mem (ord_of ofE) _ e).2 (List.mem_flatMap.2 ⟨l, hl, he⟩), q⟩
theorem merge_chk {ls : List TLog} (h : (mergeZ ls).2 = 0) : chkZ (mergeZ ls).1 = 0 := by
  unfold mergeZ at h ⊢
  by_cases h1 : chkA ls = 0
  case neg => rw [if_pos h1] at h; exact absurd h h1
  rw [if_neg (fun q => q h1)] at h ⊢
  cases h3 : twB ls
  case true => rw [if_pos h3] at h; simp at h
  rw [if_neg (by simp [h3])] at h ⊢
  cases h4 : longB ⟨evA ls, rcA ls⟩
  case true => rw [if_pos h4] at h; simp at h
  rw [if_neg (by simp)]
  exact chk_good.2 (merge_good (chkA_all h1) h4)
theorem merge_ok {ls : List TLog} (hok : ∀ l ∈ ls, l.ok) : (mergeZ ls).1.ok := by
  have hn : (⟨[], []⟩ : TLog).ok := ⟨⟨by simp, by simp⟩, by simp, by simp⟩
  unfold mergeZ
  split
  · exact hn
  split
  · exact hn
  split
  · exact hn
  rename_i hl
  simp only [longB, Bool.or_eq_true, decide_eq_true_eq] at hl
  refine ⟨⟨?_, fun e he => ?_⟩, ?_, fun e he => ?_⟩
  · show (isrt (ltOf ofE) (evA ls)).length ≤ _
    rw [isrt_len]; omega
  · obtain ⟨l, hl, he⟩ := List.mem_flatMap.1 ((isrt_mem (ord_of ofE) _ e).1 he)
    exact (hok l hl).1.2 e he
  · show (isrt (ltOf atR) (rcA ls)).length ≤ _
    rw [isrt_len]; omega
  · obtain ⟨l, hl, he⟩ := List.mem_flatMap.1 ((isrt_mem (ord_of atR) _ e).1 he)
    exact (hok l hl).2.2 e he
def fewA (l : TLog) : Bool := smallB l && (decide (l.fEvents.length ≤ 400) && decide (l.fRecs.length ≤ 400))
def fewB (ls : List TLog) : Bool := decide (ls.length ≤ 20) && ls.all fewA
set_option maxHeartbeats 4000000 in
theorem c_few (ls : List TLog) : FCall P 22 [Ls false ls] (fun r => r = .bool (fewB ls)) := by
  refine fcall_of h.f22 rfl (by decide) h.mo (by kernel_rfl) fun X hX => ?_
  generalize hv : fewB ls = v
  simp only [fewB] at hv
  by_cases h1 : 20 < ls.length
  · have h1i : (20 : Int) < (ls.length : Int) := by omega
    rw [decide_eq_false (by omega : ¬ ls.length ≤ 20), Bool.false_and] at hv
    subst hv
    simp [h1i]
  have h1i : ¬ (20 : Int) < (ls.length : Int) := by omega
  rw [decide_eq_true (by omega : ls.length ≤ 20), Bool.true_and] at hv
  simp [h1i]
  refine awp_loop (σ := Nat) (fun k => (⟨[Ls false ls, .any, .any, .int .i64 k, .any, .any, .any, .any, .any, .any, .any, .any, .any, .any, .any, .any, .any, .any, .any, .any, .any, .any, .any, .any, .any, .any, .any, .any, .any, .any, .any, .any, .any, .any, .any, .any, .any], []⟩ : S)) (fun k => k ≤ ls.length ∧ ∀ j (hj : j < ls.length), j < k → fewA ls[j] = true) (fun k => ls.length - k) 0 (Wk.ren 0 [] hX rfl (by decide) (by simp) (by simp) (by simp) (by simp)) ⟨by simp, by simp⟩ ?_
  rintro k ⟨hk, hinv⟩
  refine vc_sound h.mo _ _ _ (by kernel_rfl) ?_
  rcases Nat.lt_or_ge k ls.length with hlt | hge
  · have hk1 := wrap_succ hlt (by omega)
    simp [hlt]
    refine xcall_fn (c_small ls[k]) (by simp) ?_
    have hf : fewA ls[k] = false → v = false := fun q => by
      rw [← hv, List.all_eq_false]
      exact ⟨_, List.getElem_mem hlt, by simp [q]⟩
    have hfe : fewA ls[k] = (smallB ls[k] && (decide (ls[k].fEvents.length ≤ 400) && decide (ls[k].fRecs.length ≤ 400))) := rfl
    cases q1 : smallB ls[k]
    · rw [q1, Bool.false_and] at hfe
      simp [hf hfe]
    rw [q1, Bool.true_and] at hfe
    by_cases q2 : 400 < ls[k].fEvents.length
    · have q2i : (400 : Int) < (ls[k].fEvents.length : Int) := by omega
      rw [decide_eq_false (by omega : ¬ ls[k].fEvents.length ≤ 400), Bool.false_and] at hfe
      simp [hf hfe, hlt, q2i]
    have q2i : ¬ (400 : Int) < (ls[k].fEvents.length : Int) := by omega
    rw [decide_eq_true (by omega : ls[k].fEvents.length ≤ 400), Bool.true_and] at hfe
    by_cases q3 : 400 < ls[k].fRecs.length
    · have q3i : (400 : Int) < (ls[k].fRecs.length : Int) := by omega
      rw [decide_eq_false (by omega : ¬ ls[k].fRecs.length ≤ 400)] at hfe
      simp [hf hfe, hlt, q2i, q3i]
    have q3i : ¬ (400 : Int) < (ls[k].fRecs.length : Int) := by omega
    rw [decide_eq_true (by omega : ls[k].fRecs.length ≤ 400)] at hfe
    simp [hlt, q2i, q3i]
    exact ⟨k + 1, Wk.ren 0 [] hX rfl (by decide) (by simp [hk1]) (by simp) (by simp) (by simp), ⟨by omega, fun j hj hjk => by
      by_cases e : j = k
      · subst e; exact hfe
      · exact hinv j hj (by omega)⟩, by omega⟩
  · have hkl : k = ls.length := by omega
    subst hkl
    have : v = true := by rw [← hv]; exact all_yes fun j hj => hinv j hj hj
    simp [this]
set_option maxHeartbeats 4000000 in
theorem c_CommitMerges (ls : List TLog) (hok : ∀ l ∈ ls, l.ok) : FCall P 7 [Ls false ls] (fun r => r = .bool true) := by
  refine fcall_of h.f7 rfl (by decide) h.mo (by kernel_rfl) fun X hX => ?_
  simp
  refine xcall_fn (c_few ls) (by simp) ?_
  cases hf : fewB ls
  · simp
    refine xcall_fn c_awake (by simp) ?_
    simp
  have hl : ls.length ≤ 20 := by
    simp only [fewB, Bool.and_eq_true, decide_eq_true_eq] at hf
    exact hf.1
  simp
  have hj := c_Merge ls hl hok (P := P)
  have hr := c_RMerge ls hl hok (P := P)
  have hk := merge_chk (ls := ls)
  have ho := merge_ok hok
  generalize mergeZ ls = j at *
  obtain ⟨x, e⟩ := j
  refine xcall_fn hj (by simp) ?_
  simp
  refine xcall_fn hr (by simp) ?_
  simp
  refine xcall_fn (c_RLSame x x ho ho) (by simp) ?_
  simp [sameL_self]
  by_cases q : e = 0
  · subst q
    simp
    refine xcall_fn (c_Check x ho) (by simp) ?_
    have := hk rfl
    simp [this]
    refine xcall_fn c_awake (by simp) ?_
    simp
  · simp [q]
    refine xcall_fn c_awake (by simp) ?_
    simp
end Go.Proofs.Ytacfckmhnnhllaa
