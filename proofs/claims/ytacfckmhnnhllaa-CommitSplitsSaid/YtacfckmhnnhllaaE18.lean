/- Chapter 41: the reference's Merge, over any program that has the text. -/
import Derived.Test.YtacfckmhnnhllaaE16
import Derived.Test.YtacfckmhnnhllaaE17
import Derived.Test.YtacfckmhnnhllaaE9
namespace Go.Proofs.Ytacfckmhnnhllaa
open Go.AL
variable {P : Program} [h : Facts P]

noncomputable def mtB (a b : TLog) : Bool := @decide (meets a b) (Classical.propDecidable _)
theorem mtB_true {a b : TLog} : mtB a b = true ↔ meets a b := by unfold mtB; exact @decide_eq_true_iff _ (Classical.propDecidable _)
theorem mtB_false {a b : TLog} (h : ¬ meets a b) : mtB a b = false := by
  cases q : mtB a b
  · rfl
  · exact absurd (mtB_true.1 q) h
set_option maxHeartbeats 2000000 in
theorem c_meet (a b : TLog) (ha : a.fEvents.length ≤ 1000000) (hb : b.fEvents.length ≤ 1000000) : FCall P 44 [.agg a.cells, .agg b.cells] (fun r => r = .bool (mtB a b)) := by
  refine fcall_ofB [7] h.f44 rfl (by decide) h.mo (by kernel_rfl) fun X hX => ?_
  generalize hv : mtB a b = v
  have yes : ∀ (i j : Nat) (hi : i < a.fEvents.length) (hj : j < b.fEvents.length), a.fEvents[i].fSite = b.fEvents[j].fSite → v = true := fun i j hi hj q => by
    rw [← hv]
    exact mtB_true.2 ⟨_, ⟨_, List.getElem_mem hi, rfl⟩, ⟨_, List.getElem_mem hj, q.symm⟩⟩
  have no : (∀ (i j : Nat) (hi : i < a.fEvents.length) (hj : j < b.fEvents.length), a.fEvents[i].fSite ≠ b.fEvents[j].fSite) → v = false := fun q => by
    rw [← hv]
    refine mtB_false ?_
    rintro ⟨s, ⟨e, he, rfl⟩, ⟨e', he', hs⟩⟩
    obtain ⟨i, hi, rfl⟩ := List.getElem_of_mem he
    obtain ⟨j, hj, rfl⟩ := List.getElem_of_mem he'
    exact q i j hi hj hs.symm
  clear hv
  obtain ⟨ea, ra⟩ := a
  obtain ⟨eb, rb⟩ := b
  simp only at ha hb yes no
  simp
  refine awp_loop (σ := Nat) (fun i => (⟨[.any, .any, .pto 0 2 0 0, .pto 1 2 0 0, .any, .int .i64 i, .any, .any, .any, .any, .any, .any, .any, .any, .any, .any, .any, .any, .any, .any, .any, .any, .any, .any, .any, .any, .any, .any, .any, .any, .any, .any, .any, .any], [⟨25, 2, [.agg (⟨ea, ra⟩ : TLog).cells], 0, true⟩, ⟨25, 2, [.agg (⟨eb, rb⟩ : TLog).cells], 0, true⟩]⟩ : S)) (fun i => i ≤ ea.length ∧ ∀ (c j : Nat) (hc : c < ea.length) (hj : j < eb.length), c < i → ea[c].fSite ≠ eb[j].fSite) (fun i => ea.length - i) 0 (Wk.ren 0 [0, 1] hX rfl (by decide) (by simp) (by simp) (by simp) (by simp)) ⟨by simp, by simp⟩ ?_
  rintro i ⟨hi, hinv⟩
  refine vcB_sound [7] h.mo _ _ _ (by kernel_rfl) ?_
  rcases Nat.lt_or_ge i ea.length with hlt | hge
  · have hi1 := wrap_succ hlt (by omega)
    simp [hlt]
    refine awp_loop (σ := Nat) (fun j => (⟨[.any, .any, .pto 0 2 0 0, .pto 1 2 0 0, .any, .int .i64 i, .int .i64 j, .any, .any, .any, .any, .any, .any, .any, .any, .any, .any, .any, .any, .any, .any, .any, .any, .any, .any, .any, .any, .any, .any, .any, .any, .any, .any, .any], [⟨25, 2, [.agg (⟨ea, ra⟩ : TLog).cells], 0, true⟩, ⟨25, 2, [.agg (⟨eb, rb⟩ : TLog).cells], 0, true⟩]⟩ : S)) (fun j => j ≤ eb.length ∧ ∀ (c : Nat) (hc : c < eb.length), c < j → ea[i].fSite ≠ eb[c].fSite) (fun j => eb.length - j) 0 (Wk.ren 0 [0, 1] hX rfl (by decide) (by simp) (by simp) (by simp) (by simp)) ⟨by simp, by simp⟩ ?_
    rintro j ⟨hj, hjn⟩
    refine vcB_sound [7] h.mo _ _ _ (by kernel_rfl) ?_
    rcases Nat.lt_or_ge j eb.length with hjlt | hjge
    · have hj1 := wrap_succ hjlt (by omega)
      simp [hjlt]
      refine awp_quiet [0, 1, 2, 3, 4, 5, 6, 7, 8, 9, 10, 11, 12] _ h.mo (by kernel_rfl) (by decide) (by kernel_rfl) (by rfl) ?_
      by_cases q : ea[i].fSite = eb[j].fSite
      · have := yes i j hlt hjlt q
        simp [hlt, hjlt, eq_true q, this]
      · simp [hlt, hjlt, q]
        refine ⟨j + 1, Wk.ren 0 [0, 1] hX rfl (by decide) (by simp [hj1]) (by simp) (by simp) (by simp), ⟨by omega, fun c hc hcj => ?_⟩, by omega⟩
        by_cases e : c = j
        · subst e; exact q
        · exact hjn c hc (by omega)
    · have hje : j = eb.length := by omega
      subst hje
      simp
      refine ⟨i + 1, Wk.ren 0 [0, 1] hX rfl (by decide) (by simp [hi1]) (by simp) (by simp) (by simp), ⟨by omega, fun c j hc hj hci => ?_⟩, by omega⟩
      by_cases e : c = i
      · subst e; exact hjn j hj hj
      · exact hinv c j hc hj (by omega)
  · have hie : i = ea.length := by omega
    subst hie
    have := no fun c j hc hj => hinv c j hc hj hc
    simp [this]
theorem fold_all {ls : List TLog} (hg : ∀ l ∈ ls, Good l) {k : Nat} (hk : k < ls.length) : mrg (ltOf ofE) (isrt (ltOf ofE) (evA (ls.take k))) ls[k].fEvents = isrt (ltOf ofE) (evA (ls.take (k + 1))) ∧ mrg (ltOf atR) (isrt (ltOf atR) (rcA (ls.take k))) ls[k].fRecs = isrt (ltOf atR) (rcA (ls.take (k + 1))) := by
  have g := hg _ (List.getElem_mem hk)
  rw [evA_take hk, rcA_take hk, isrt_app (ord_of _), isrt_app (ord_of _), isrt_srt (ord_of _) g.es, isrt_srt (ord_of _) g.rs]
  exact ⟨rfl, rfl⟩
set_option maxHeartbeats 4000000 in
theorem c_RMerge (ls : List TLog) (hl : ls.length ≤ 20) (hok : ∀ l ∈ ls, l.ok) : FCall P 24 [Ls false ls] (fun r => r = .tup [.agg (mergeZ ls).1.cells, .int .i64 (mergeZ ls).2]) := by
  refine fcall_ofA h.f24 rfl (by decide) fun X hX => ?_
  refine awp_seq (vc_sound h.mo _ _ _ (by kernel_rfl) ?_)
  simp
  refine awp_cut2 (⟨[Ls false ls, .any, .pto 0 2 0 0, .int .i64 0, .any, .any, .any, .any, .any, .any, .any, .any, .any, .any, .any, .any, .any, .any, .any, .any, .any, .any, .any, .any, .any, .any, .any, .any, .any, .any, .any, .any, .any, .any, .any, .any, .any, .any, .any, .any, .any, .any, .any, .any, .any, .any, .any, .any, .any, .any, .any, .any, .any, .any, .any, .any, .any, .any, .any, .any, .any, .any, .any, .any, .any, .any, .any, .any, .any, .any, .any, .any, .any], [⟨25, 2, [.agg [.sl true [], .sl true []]], 0, true⟩]⟩ : S) (chkA ls = 0 ∧ ∀ l ∈ ls, chkZ l = 0) (vc_sound h.mo _ _ _ (by kernel_rfl) ?_) ?_
  case refine_1 =>
    simp
    refine awp_loop (σ := Nat) (fun k => (⟨[Ls false ls, .any, .pto 0 2 0 0, .int .i64 0, .int .i64 k, .any, .any, .any, .any, .any, .any, .any, .any, .any, .any, .any, .any, .any, .any, .any, .any, .any, .any, .any, .any, .any, .any, .any, .any, .any, .any, .any, .any, .any, .any, .any, .any, .any, .any, .any, .any, .any, .any, .any, .any, .any, .any, .any, .any, .any, .any, .any, .any, .any, .any, .any, .any, .any, .any, .any, .any, .any, .any, .any, .any, .any, .any, .any, .any, .any, .any, .any, .any], [⟨25, 2, [.agg [.sl true [], .sl true []]], 0, true⟩]⟩ : S)) (fun k => k ≤ ls.length ∧ chkA ls = chkA (ls.drop k) ∧ ∀ l ∈ ls.take k, chkZ l = 0) (fun k => ls.length - k) 0 (Wk.ren 0 [0] hX rfl (by decide) (by simp) (by simp) (by simp) (by simp)) ⟨by simp, by simp, by simp⟩ ?_
    rintro k ⟨hk, hinv, hz⟩
    refine vc_sound h.mo _ _ _ (by kernel_rfl) ?_
    rcases Nat.lt_or_ge k ls.length with hlt | hge
    · have hk1 := wrap_succ hlt (by omega)
      rw [List.drop_eq_getElem_cons hlt, chkA] at hinv
      simp [hlt]
      refine xcall_fn (c_RCheck ls[k] (hok _ (List.getElem_mem hlt))) (by simp) ?_
      by_cases h0 : chkZ ls[k] = 0
      · rw [if_neg (fun q => q h0)] at hinv
        simp [h0]
        refine ⟨k + 1, Wk.ren 0 [0] hX rfl (by decide) (by simp [hk1]) (by simp) (by simp) (by simp), ⟨by omega, hinv, fun l hl => ?_⟩, by omega⟩
        rw [List.take_succ_eq_append_getElem hlt] at hl
        rcases List.mem_append.1 hl with hl | hl
        · exact hz l hl
        · rw [List.mem_singleton] at hl
          rw [hl]; exact h0
      · rw [if_pos h0] at hinv
        have hmz : mergeZ ls = (⟨[], []⟩, chkZ ls[k]) := by unfold mergeZ; rw [if_pos (by rw [hinv]; exact h0), hinv]
        simp [h0, hmz]
    · have hkl : k = ls.length := by omega
      subst hkl
      rw [List.drop_length, chkA] at hinv
      rw [List.take_length] at hz
      simp
      exact ⟨⟨hinv, hz⟩, Wk.ren 0 [0] hX rfl (by decide) (by simp) (by simp) (by simp) (by simp)⟩
  rintro ⟨hc0, hcz⟩
  have hgd : ∀ l ∈ ls, Good l := fun l hl => chk_good.1 (hcz l hl)
  refine awp_cut2 (⟨[Ls false ls, .any, .pto 0 2 0 0, .int .i64 0, .any, .any, .any, .any, .any, .any, .any, .any, .any, .any, .any, .any, .any, .any, .any, .any, .any, .any, .any, .any, .any, .any, .any, .any, .any, .any, .any, .any, .any, .any, .any, .any, .any, .any, .any, .any, .any, .any, .any, .any, .any, .any, .any, .any, .any, .any, .any, .any, .any, .any, .any, .any, .any, .any, .any, .any, .any, .any, .any, .any, .any, .any, .any, .any, .any, .any, .any, .any, .any], [⟨25, 2, [.agg [.sl true [], .sl true []]], 0, true⟩]⟩ : S) (¬ clash ls) (vcB_sound [13] h.mo _ _ _ (by kernel_rfl) ?_) ?_
  case refine_1 =>
    have hmz : clash ls → mergeZ ls = (⟨[], []⟩, 4) := fun q => by unfold mergeZ; rw [if_neg (fun z => z hc0), if_pos (twB_true.2 q)]
    simp
    refine awp_loop (σ := Nat) (fun i => (⟨[Ls false ls, .any, .pto 0 2 0 0, .int .i64 0, .any, .any, .int .i64 i, .any, .any, .any, .any, .any, .any, .any, .any, .any, .any, .any, .any, .any, .any, .any, .any, .any, .any, .any, .any, .any, .any, .any, .any, .any, .any, .any, .any, .any, .any, .any, .any, .any, .any, .any, .any, .any, .any, .any, .any, .any, .any, .any, .any, .any, .any, .any, .any, .any, .any, .any, .any, .any, .any, .any, .any, .any, .any, .any, .any, .any, .any, .any, .any, .any, .any], [⟨25, 2, [.agg [.sl true [], .sl true []]], 0, true⟩]⟩ : S)) (fun i => i ≤ ls.length ∧ ∀ (a b : Nat) (ha : a < ls.length) (hb : b < ls.length), a < i → b < a → ¬ meets ls[a] ls[b]) (fun i => ls.length - i) 0 (Wk.ren 0 [0] hX rfl (by decide) (by simp) (by simp) (by simp) (by simp)) ⟨by simp, by simp⟩ ?_
    rintro i ⟨hi, hinv⟩
    refine vcB_sound [13] h.mo _ _ _ (by kernel_rfl) ?_
    rcases Nat.lt_or_ge i ls.length with hlt | hge
    · have hi1 := wrap_succ hlt (by omega)
      simp [hlt]
      refine awp_loop (σ := Nat) (fun k => (⟨[Ls false ls, .any, .pto 0 2 0 0, .int .i64 0, .any, .any, .int .i64 i, .int .i64 k, .any, .any, .any, .any, .any, .any, .any, .any, .any, .any, .any, .any, .any, .any, .any, .any, .any, .any, .any, .any, .any, .any, .any, .any, .any, .any, .any, .any, .any, .any, .any, .any, .any, .any, .any, .any, .any, .any, .any, .any, .any, .any, .any, .any, .any, .any, .any, .any, .any, .any, .any, .any, .any, .any, .any, .any, .any, .any, .any, .any, .any, .any, .any, .any, .any], [⟨25, 2, [.agg [.sl true [], .sl true []]], 0, true⟩]⟩ : S)) (fun k => k ≤ i ∧ ∀ (b : Nat) (hb : b < ls.length), b < k → ¬ meets ls[i] ls[b]) (fun k => i - k) 0 (Wk.ren 0 [0] hX rfl (by decide) (by simp) (by simp) (by simp) (by simp)) ⟨by simp, by simp⟩ ?_
      rintro k ⟨hk, hkn⟩
      refine vcB_sound [13] h.mo _ _ _ (by kernel_rfl) ?_
      rcases Nat.lt_or_ge k i with hklt | hkge
      · have hk1 := wrap_succ hklt (by omega)
        have hkl : k < ls.length := by omega
        have hki : (k : Int) < (i : Int) := by omega
        have h5 := (hgd _ (List.getElem_mem hlt)).le
        have h6 := (hgd _ (List.getElem_mem hkl)).le
        simp [hki]
        refine awp_quiet [0, 1, 2, 3, 4, 5, 6, 7, 8] _ h.mo (by kernel_rfl) (by decide) (by kernel_rfl) (by rfl) ?_
        simp [hlt, hkl]
        refine ⟨_, c_meet ls[i] ls[k] (by omega) (by omega), ?_⟩
        by_cases q : meets ls[i] ls[k]
        · have := hmz ⟨i, k, hlt, hkl, hklt, q⟩
          simp [mtB_true.2 q, this]
        · simp [mtB_false q]
          refine ⟨k + 1, Wk.ren 0 [0] hX rfl (by decide) (by simp [hk1]) (by simp) (by simp) (by simp), ⟨by omega, fun b hb hbk => ?_⟩, by omega⟩
          by_cases e : b = k
          · subst e; exact q
          · exact hkn b hb (by omega)
      · have hke : k = i := by omega
        subst hke
        simp
        refine ⟨k + 1, Wk.ren 0 [0] hX rfl (by decide) (by simp [hi1]) (by simp) (by simp) (by simp), ⟨by omega, fun a b ha hb hai hba => ?_⟩, by omega⟩
        by_cases e : a = k
        · subst e; exact hkn b hb hba
        · exact hinv a b ha hb (by omega) hba
    · have hie : i = ls.length := by omega
      subst hie
      simp
      exact ⟨fun ⟨a, b, ha, hb, hba, hm⟩ => hinv a b ha hb ha hba hm, Wk.ren 0 [0] hX rfl (by decide) (by simp) (by simp) (by simp) (by simp)⟩
  intro hcl
  have hmz : mergeZ ls = if longB ⟨evA ls, rcA ls⟩ = true then (⟨[], []⟩, 6) else (⟨isrt (ltOf ofE) (evA ls), isrt (ltOf atR) (rcA ls)⟩, 0) := by
    unfold mergeZ
    rw [if_neg (fun z => z hc0), if_neg (by rw [twB_false hcl]; decide)]
  rw [hmz]
  refine awp_seq (vc_sound h.mo _ _ _ (by kernel_rfl) ?_)
  simp
  refine awp_cut2 (⟨[.any, .any, .pto 0 2 0 0, .int .i64 0, .any, .any, .any, .any, .pto 1 2 0 0, .any, .any, .any, .any, .any, .any, .any, .any, .any, .any, .any, .any, .any, .any, .any, .any, .any, .any, .any, .any, .any, .any, .any, .any, .any, .any, .any, .any, .any, .any, .any, .any, .any, .any, .any, .any, .any, .any, .any, .any, .any, .any, .any, .any, .any, .any, .any, .any, .any, .any, .any, .any, .any, .any, .any, .any, .any, .any, .any, .any, .any, .any, .any, .any], [⟨25, 2, [.agg [.sl true [], .sl true []]], 0, true⟩, ⟨25, 2, [.agg (⟨isrt (ltOf ofE) (evA ls), isrt (ltOf atR) (rcA ls)⟩ : TLog).cells], 0, true⟩]⟩ : S) True (vcB_sound [19] h.mo _ _ _ (by kernel_rfl) ?_) ?_
  case refine_1 =>
    simp
    refine awp_loop (σ := Nat) (fun i => (⟨[Ls false ls, .any, .pto 0 2 0 0, .int .i64 0, .any, .any, .any, .any, .pto 1 2 0 0, .int .i64 i, .any, .any, .any, .any, .any, .any, .any, .any, .any, .any, .any, .any, .any, .any, .any, .any, .any, .any, .any, .any, .any, .any, .any, .any, .any, .any, .any, .any, .any, .any, .any, .any, .any, .any, .any, .any, .any, .any, .any, .any, .any, .any, .any, .any, .any, .any, .any, .any, .any, .any, .any, .any, .any, .any, .any, .any, .any, .any, .any, .any, .any, .any, .any], [⟨25, 2, [.agg [.sl true [], .sl true []]], 0, true⟩, ⟨25, 2, [.agg (⟨isrt (ltOf ofE) (evA (ls.take i)), isrt (ltOf atR) (rcA (ls.take i))⟩ : TLog).cells], 0, true⟩]⟩ : S)) (fun i => i ≤ ls.length) (fun i => ls.length - i) 0 (Wk.ren 0 [0, 1] hX rfl (by decide) (by simp) (by simp) (by simp) (by simp [evA, rcA, isrt_nil])) (by omega) ?_
    rintro i hi
    refine vcB_sound [19] h.mo _ _ _ (by kernel_rfl) ?_
    rcases Nat.lt_or_ge i ls.length with hlt | hge
    · have hi1 := wrap_succ hlt (by omega)
      obtain ⟨hf1, hf2⟩ := fold_all hgd hlt
      have hal := evA_le (ls := ls.take i) fun l hl => hcz l (List.mem_of_mem_take hl)
      rw [List.length_take] at hal
      have hle := (hgd _ (List.getElem_mem hlt)).le
      have hlr := (hgd _ (List.getElem_mem hlt)).lr
      have hce := c_Revents (P := P) (isrt (ltOf ofE) (evA (ls.take i))) ls[i].fEvents (by rw [isrt_len]; omega)
      have hcr := c_Rrecs (P := P) (isrt (ltOf atR) (rcA (ls.take i))) ls[i].fRecs (by rw [isrt_len]; omega)
      rw [hf1] at hce
      rw [hf2] at hcr
      simp [hlt]
      refine awp_tree (.take 0 (.take 2 (.take 3 (.take 4 (.take 5 (.take 6 (.take 8 (.take 10 (.take 11 (.take 12 (.take 13 (.take 14 (.alt 1 (.alt 7 (.alt 9 (.alt 15 (.take 16 (.alt 17 .done .stop)) .stop) .stop) (.alt 9 (.alt 7 (.alt 15 (.take 16 (.alt 17 .done .stop)) .stop) .stop) .stop)) (.alt 9 (.alt 1 (.alt 7 (.alt 15 (.take 16 (.alt 17 .done .stop)) .stop) .stop) .stop) .stop)))))))))))))) _ h.mo (by kernel_rfl) (by decide) (by kernel_rfl) (by rfl) ?_
      simp [hlt]
      repeat' (first | (with_reducible apply And.intro) | (refine xcall_fn hce (by simp) ?_; simp) | (refine xcall_fn hcr (by simp) ?_; simp))
      all_goals exact ⟨i + 1, Wk.ren 0 [0, 1] hX rfl (by decide) (by simp [hi1]) (by simp) (by simp) (by simp), by omega, by omega⟩
    · have hie : i = ls.length := by omega
      subst hie
      rw [List.take_length]
      simp
      exact Wk.ren 0 [0, 1] hX rfl (by decide) (by simp) (by simp) (by simp) (by simp)
  intro _
  have hlong : longB ⟨isrt (ltOf ofE) (evA ls), isrt (ltOf atR) (rcA ls)⟩ = longB ⟨evA ls, rcA ls⟩ := by unfold longB; simp only [isrt_len]
  have hlo := c_Rlong (P := P) ⟨isrt (ltOf ofE) (evA ls), isrt (ltOf atR) (rcA ls)⟩
  rw [hlong] at hlo
  generalize longB ⟨evA ls, rcA ls⟩ = lb at *
  generalize isrt (ltOf ofE) (evA ls) = es at *
  generalize isrt (ltOf atR) (rcA ls) = rs at *
  refine vc_sound h.mo _ _ _ (by kernel_rfl) ?_
  simp
  refine xcall_fn hlo (by simp) ?_
  cases lb <;> simp
end Go.Proofs.Ytacfckmhnnhllaa
