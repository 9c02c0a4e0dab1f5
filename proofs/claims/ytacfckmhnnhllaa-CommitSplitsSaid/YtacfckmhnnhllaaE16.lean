/- Chapter 41: commit.Merge, over any program that has the text. -/
import Derived.Test.YtacfckmhnnhllaaE15
import Derived.Test.YtacfckmhnnhllaaQ5
import Derived.Test.YtacfckmhnnhllaaAlM4
namespace Go.Proofs.Ytacfckmhnnhllaa
open Go.AL
variable {P : Program} [h : Facts P]

def chkA : List TLog → Int
  | [] => 0
  | l :: ls => if chkZ l ≠ 0 then chkZ l else chkA ls
def evA (ls : List TLog) : List TEvent := ls.flatMap (·.fEvents)
def rcA (ls : List TLog) : List TRec := ls.flatMap (·.fRecs)
def hasS (l : TLog) (s : Int) : Prop := ∃ e ∈ l.fEvents, e.fSite = s
def meets (a b : TLog) : Prop := ∃ s, hasS a s ∧ hasS b s
def clash (ls : List TLog) : Prop := ∃ i k, ∃ (hi : i < ls.length) (hk : k < ls.length), k < i ∧ meets ls[i] ls[k]
noncomputable def twB (ls : List TLog) : Bool := @decide (clash ls) (Classical.propDecidable _)
theorem twB_true {ls : List TLog} : twB ls = true ↔ clash ls := by unfold twB; exact @decide_eq_true_iff _ (Classical.propDecidable _)
theorem twB_false {ls : List TLog} (h : ¬ clash ls) : twB ls = false := by
  cases q : twB ls
  · rfl
  · exact absurd (twB_true.1 q) h
noncomputable def mergeZ (ls : List TLog) : TLog × Int := if chkA ls ≠ 0 then (⟨[], []⟩, chkA ls) else if twB ls = true then (⟨[], []⟩, 4) else if longB ⟨evA ls, rcA ls⟩ = true then (⟨[], []⟩, 6) else (⟨isrt (ltOf ofE) (evA ls), isrt (ltOf atR) (rcA ls)⟩, 0)
theorem evA_take {ls : List TLog} {k : Nat} (hk : k < ls.length) : evA (ls.take (k + 1)) = evA (ls.take k) ++ ls[k].fEvents := by
  unfold evA
  rw [List.take_succ_eq_append_getElem hk, List.flatMap_append]
  simp
theorem rcA_take {ls : List TLog} {k : Nat} (hk : k < ls.length) : rcA (ls.take (k + 1)) = rcA (ls.take k) ++ ls[k].fRecs := by
  unfold rcA
  rw [List.take_succ_eq_append_getElem hk, List.flatMap_append]
  simp
theorem evA_le : ∀ {ls : List TLog}, (∀ l ∈ ls, chkZ l = 0) → (evA ls).length ≤ 5000 * ls.length ∧ (rcA ls).length ≤ 50000 * ls.length
  | [], _ => by simp [evA, rcA]
  | l :: ls, hz => by
    have h1 := evA_le (ls := ls) fun x hx => hz x (List.mem_cons_of_mem _ hx)
    have h2 := chk_good.1 (hz l (List.mem_cons_self ..))
    have h3 := h2.le
    have h4 := h2.lr
    have e1 : evA (l :: ls) = l.fEvents ++ evA ls := by simp [evA]
    have e2 : rcA (l :: ls) = l.fRecs ++ rcA ls := by simp [rcA]
    rw [e1, e2, List.length_append, List.length_append, List.length_cons]
    omega
/-- Which log owns which site, after i logs and j events of the next one. -/
structure OwnI (ls : List TLog) (i j : Nat) (M : List (Int × Int)) : Prop where
  get : ∀ (s k : Int), mget M s = some k ↔ ∃ kn : Nat, k = kn ∧ ((kn < i ∧ ∃ h : kn < ls.length, hasS ls[kn] s) ∨ (kn = i ∧ ∃ (h : i < ls.length) (c : Nat), c < j ∧ ∃ hc : c < ls[i].fEvents.length, ls[i].fEvents[c].fSite = s))
  old : ∀ a b, ∀ (ha : a < ls.length) (hb : b < ls.length), a < i → b < a → ¬ meets ls[a] ls[b]
  new : ∀ (h : i < ls.length) (c : Nat) (_ : c < j) (hc : c < ls[i].fEvents.length) (k : Nat) (hk : k < ls.length), k < i → ¬ hasS ls[k] ls[i].fEvents[c].fSite
theorem own_zero (ls : List TLog) : OwnI ls 0 0 [] := ⟨fun s k => by
  constructor
  · intro q; simp at q
  · rintro ⟨kn, _, h | ⟨_, _, c, hc, _⟩⟩
    · omega
    · omega, fun a b _ _ q => by omega, fun _ c q => by omega⟩
theorem own_next {ls : List TLog} {i : Nat} {M : List (Int × Int)} (hi : i < ls.length) (o : OwnI ls i ls[i].fEvents.length M) : OwnI ls (i + 1) 0 M := by
  refine ⟨fun s k => (o.get s k).trans ?_, fun a b ha hb q r => ?_, fun _ c q => by omega⟩
  · constructor
    · rintro ⟨kn, hk, ⟨h1, h2, h3⟩ | ⟨rfl, _, c, hc, hcl, h4⟩⟩
      · exact ⟨kn, hk, .inl ⟨by omega, h2, h3⟩⟩
      · exact ⟨kn, hk, .inl ⟨by omega, hi, _, List.getElem_mem hcl, h4⟩⟩
    · rintro ⟨kn, hk, ⟨h1, h2, h3⟩ | ⟨_, _, c, hc, _⟩⟩
      · by_cases e : kn = i
        · subst e
          obtain ⟨e, he, rfl⟩ := h3
          obtain ⟨c, hc, rfl⟩ := List.getElem_of_mem he
          exact ⟨kn, hk, .inr ⟨rfl, hi, c, hc, hc, rfl⟩⟩
        · exact ⟨kn, hk, .inl ⟨by omega, h2, h3⟩⟩
      · omega
  · by_cases e : a = i
    · subst e
      rintro ⟨s, ⟨e, he, rfl⟩, h2⟩
      obtain ⟨c, hc, rfl⟩ := List.getElem_of_mem he
      exact o.new hi c hc hc b hb r h2
    · exact o.old a b ha hb (by omega) r
theorem own_step {ls : List TLog} {i j : Nat} {M : List (Int × Int)} (hi : i < ls.length) (hj : j < ls[i].fEvents.length) (o : OwnI ls i j M) (hk : ∀ k, mget M ls[i].fEvents[j].fSite = some k → k = i) : OwnI ls i (j + 1) (mset M ls[i].fEvents[j].fSite i) := by
  have nohas : ∀ (k : Nat) (hk : k < ls.length), k < i → ¬ hasS ls[k] ls[i].fEvents[j].fSite := by
    intro k hkl hki hs
    have := hk _ ((o.get _ (k : Int)).2 ⟨k, rfl, .inl ⟨hki, hkl, hs⟩⟩)
    omega
  refine ⟨fun s k => ?_, o.old, fun h c q hc k hkl hki => ?_⟩
  · rw [mget_set]
    by_cases e : ls[i].fEvents[j].fSite = s
    · rw [if_pos e]
      constructor
      · intro q
        cases q
        exact ⟨i, rfl, .inr ⟨rfl, hi, j, by omega, hj, e⟩⟩
      · rintro ⟨kn, rfl, ⟨h1, h2, h3⟩ | ⟨rfl, _⟩⟩
        · rw [← e] at h3
          exact absurd h3 (nohas kn h2 h1)
        · rfl
    · rw [if_neg e, o.get]
      constructor
      · rintro ⟨kn, hkk, h1 | ⟨h1, h2, c, hc, h3⟩⟩
        · exact ⟨kn, hkk, .inl h1⟩
        · exact ⟨kn, hkk, .inr ⟨h1, h2, c, by omega, h3⟩⟩
      · rintro ⟨kn, hkk, h1 | ⟨h1, h2, c, hc, hcl, h3⟩⟩
        · exact ⟨kn, hkk, .inl h1⟩
        · by_cases e2 : c = j
          · subst e2; exact absurd h3 e
          · exact ⟨kn, hkk, .inr ⟨h1, h2, c, by omega, hcl, h3⟩⟩
  · by_cases e : c = j
    · subst e; exact nohas k hkl hki
    · exact o.new h c (by omega) hc k hkl hki
theorem own_clash {ls : List TLog} {i j : Nat} {M : List (Int × Int)} (hi : i < ls.length) (hj : j < ls[i].fEvents.length) (o : OwnI ls i j M) {k : Int} (hk : mget M ls[i].fEvents[j].fSite = some k) (hne : k ≠ i) : clash ls := by
  obtain ⟨kn, rfl, ⟨h1, h2, h3⟩ | ⟨rfl, _⟩⟩ := (o.get _ _).1 hk
  · exact ⟨i, kn, hi, h2, h1, _, ⟨_, List.getElem_mem hj, rfl⟩, h3⟩
  · exact absurd rfl hne
theorem own_none {ls : List TLog} {M : List (Int × Int)} (o : OwnI ls ls.length 0 M) : ¬ clash ls := by
  rintro ⟨i, k, hi, hk, hki, hm⟩
  exact o.old i k hi hk hi hki hm
set_option maxHeartbeats 4000000 in
theorem c_Merge (ls : List TLog) (hl : ls.length ≤ 20) (hok : ∀ l ∈ ls, l.ok) : FCall P 23 [Ls false ls] (fun r => r = .tup [.agg (mergeZ ls).1.cells, .int .i64 (mergeZ ls).2]) := by
  refine fcall_ofA h.f23 rfl (by decide) fun X hX => ?_
  refine awp_seq (vc_sound h.mo _ _ _ (by kernel_rfl) ?_)
  simp
  refine awp_cut2 (⟨[Ls false ls, .any, .pto 0 2 0 0, .int .i64 0, .any, .any, .any, .any, .any, .any, .any, .any, .any, .any, .any, .any, .any, .any, .any, .any, .any, .any, .any, .any, .any, .any, .any, .any, .any, .any, .any, .any, .any, .any, .any, .any, .any, .any, .any, .any, .any, .any, .any, .any, .any, .any, .any, .any, .any, .any, .any, .any, .any, .any, .any, .any, .any, .any, .any, .any, .any, .any, .any, .any, .any, .any, .any, .any, .any, .any, .any, .any, .any, .any, .any, .any, .any, .any, .any, .any, .any, .any, .any, .any, .any, .any, .any, .any], [⟨25, 2, [.agg [.sl true [], .sl true []]], 0, true⟩]⟩ : S) (chkA ls = 0 ∧ ∀ l ∈ ls, chkZ l = 0) (vc_sound h.mo _ _ _ (by kernel_rfl) ?_) ?_
  case refine_1 =>
    simp
    refine awp_loop (σ := Nat) (fun k => (⟨[Ls false ls, .any, .pto 0 2 0 0, .int .i64 0, .any, .any, .any, .any, .any, .any, .any, .any, .any, .any, .any, Ls false ls, .int .i64 ls.length, .int .i64 k, .any, .any, .any, .any, .any, .any, .any, .any, .any, .any, .any, .any, .any, .any, .any, .any, .any, .any, .any, .any, .any, .any, .any, .any, .any, .any, .any, .any, .any, .any, .any, .any, .any, .any, .any, .any, .any, .any, .any, .any, .any, .any, .any, .any, .any, .any, .any, .any, .any, .any, .any, .any, .any, .any, .any, .any, .any, .any, .any, .any, .any, .any, .any, .any, .any, .any, .any, .any, .any, .any], [⟨25, 2, [.agg [.sl true [], .sl true []]], 0, true⟩]⟩ : S)) (fun k => k ≤ ls.length ∧ chkA ls = chkA (ls.drop k) ∧ ∀ l ∈ ls.take k, chkZ l = 0) (fun k => ls.length - k) 0 (Wk.ren 0 [0] hX rfl (by decide) (by simp) (by simp) (by simp) (by simp)) ⟨by simp, by simp, by simp⟩ ?_
    rintro k ⟨hk, hinv, hz⟩
    refine vc_sound h.mo _ _ _ (by kernel_rfl) ?_
    rcases Nat.lt_or_ge k ls.length with hlt | hge
    · have hk1 := wrap_succ hlt (by omega)
      rw [List.drop_eq_getElem_cons hlt, chkA] at hinv
      simp [hlt]
      refine xcall_fn (c_Check ls[k] (hok _ (List.getElem_mem hlt))) (by simp) ?_
      by_cases h0 : chkZ ls[k] = 0
      · rw [if_neg (fun q => q h0)] at hinv
        simp [h0]
        refine ⟨k + 1, Wk.ren 0 [0] hX rfl (by decide) (by simp [hk1]) (by simp) (by simp) (by simp), ⟨by omega, hinv, fun l hl => ?_⟩, by omega⟩
        rw [List.take_succ_eq_append_getElem hlt] at hl
        rcases List.mem_append.1 hl with hl | hl
        · exact hz l hl
        · rw [List.mem_singleton] at hl
          rw [hl]; exact h0
      · rw [if_pos h0] at hinv
        have hmz : mergeZ ls = (⟨[], []⟩, chkZ ls[k]) := by unfold mergeZ; rw [if_pos (by rw [hinv]; exact h0), hinv]
        simp [h0, hmz]
    · have hkl : k = ls.length := by omega
      subst hkl
      rw [List.drop_length, chkA] at hinv
      rw [List.take_length] at hz
      simp
      exact ⟨⟨hinv, hz⟩, Wk.ren 0 [0] hX rfl (by decide) (by simp) (by simp) (by simp) (by simp)⟩
  rintro ⟨hc0, hcz⟩
  refine awp_seq (vc_sound h.mo _ _ _ (by kernel_rfl) ?_)
  simp
  refine awp_seq (vc_sound h.mo _ _ _ (by kernel_rfl) ?_)
  simp
  refine awp_cut2 (⟨[.any, .any, .pto 0 2 0 0, .int .i64 0, .any, .any, .any, .any, .pto 1 2 0 0, .any, .any, .any, .any, .any, .any, .any, .any, .any, .any, .any, .any, .any, .any, .any, .any, .any, .any, .any, .any, .any, .any, .any, .any, .any, .any, .any, .any, .any, .any, .any, .any, .any, .any, .any, .any, .any, .any, .any, .any, .any, .any, .any, .any, .any, .any, .any, .any, .any, .any, .any, .any, .any, .any, .any, .any, .any, .any, .any, .any, .any, .any, .any, .any, .any, .any, .any, .any, .any, .any, .any, .any, .any, .any, .any, .any, .any, .any, .any], [⟨25, 2, [.agg [.sl true [], .sl true []]], 0, true⟩, ⟨25, 2, [.agg [B 2 (evA ls), B 3 (rcA ls)]], 0, true⟩, RF 44 (evA ls) 0, RF 47 (rcA ls) 0]⟩ : S) (¬ clash ls) (vc_sound h.mo _ _ _ (by kernel_rfl) ?_) ?_
  case refine_1 =>
    simp [-Prod.exists]
    refine awp_loop (σ := Nat × List (Int × Int)) (fun z => (⟨[.any, .any, .pto 0 2 0 0, .int .i64 0, .any, .any, .any, .mp 1, .pto 2 2 0 0, .any, .any, .any, .any, .any, .any, .any, .any, .any, .any, .any, .any, .any, .any, .any, .any, .any, .any, .any, .any, Ls false ls, .int .i64 ls.length, .int .i64 z.1, .any, .any, .any, .any, .any, .any, .any, .any, .any, .any, .any, .any, .any, .any, .any, .any, .any, .any, .any, .any, .any, .any, .any, .any, .any, .any, .any, .any, .any, .any, .any, .any, .any, .any, .any, .any, .any, .any, .any, .any, .any, .any, .any, .any, .any, .any, .any, .any, .any, .any, .any, .any, .any, .any, .any, .any], [⟨25, 2, [.agg [.sl true [], .sl true []]], 0, true⟩, RM z.2, ⟨25, 2, [.agg [B 3 (evA (ls.take z.1)), B 4 (rcA (ls.take z.1))]], 0, true⟩, RF 44 (evA (ls.take z.1)) 0, RF 47 (rcA (ls.take z.1)) 0]⟩ : S)) (fun z => z.1 ≤ ls.length ∧ OwnI ls z.1 0 z.2) (fun z => ls.length - z.1) (0, []) (Wk.ren 0 [0, 1, 2, 3, 4] hX rfl (by decide) (by simp) (by simp) (by simp) (by simp [evA, rcA])) ⟨by simp, own_zero ls⟩ ?_
    rintro ⟨i, M⟩ ⟨hi, ho⟩
    simp only at hi ho
    refine vc_sound h.mo _ _ _ (by kernel_rfl) ?_
    rcases Nat.lt_or_ge i ls.length with hlt | hge
    · have hk1 := wrap_succ hlt (by omega)
      have het := evA_take hlt
      have hrt := rcA_take hlt
      have hgd := chk_good.1 (hcz _ (List.getElem_mem hlt))
      have hgl := hgd.le
      have hgr := hgd.lr
      generalize hxs : ls[i] = xl at *
      simp [hlt, hxs, -Prod.exists]
      refine awp_loop (σ := Nat × List (Int × Int)) (fun z => (⟨[.any, .any, .pto 0 2 0 0, .int .i64 0, .any, .any, .any, .mp 1, .pto 2 2 0 0, .int .i64 i, .pto 5 2 0 0, .any, .any, .any, .any, .any, .any, .any, .any, .any, .any, .any, .any, .any, .any, .any, .any, .any, .any, Ls false ls, .int .i64 ls.length, .int .i64 i, .any, .any, .any, .any, .any, Ls false xl.fEvents, .int .i64 xl.fEvents.length, .int .i64 z.1, .any, .any, .any, .any, .any, .any, .any, .any, .any, .any, .any, .any, .any, .any, .any, .any, .any, .any, .any, .any, .any, .any, .any, .any, .any, .any, .any, .any, .any, .any, .any, .any, .any, .any, .any, .any, .any, .any, .any, .any, .any, .any, .any, .any, .any, .any, .any, .any], [⟨25, 2, [.agg [.sl true [], .sl true []]], 0, true⟩, RM z.2, ⟨25, 2, [.agg [B 3 (evA (ls.take i)), B 4 (rcA (ls.take i))]], 0, true⟩, RF 44 (evA (ls.take i)) 0, RF 47 (rcA (ls.take i)) 0, ⟨25, 2, [.agg xl.cells], 0, true⟩]⟩ : S)) (fun z => z.1 ≤ xl.fEvents.length ∧ OwnI ls i z.1 z.2) (fun z => xl.fEvents.length - z.1) (0, M) (Wk.ren 0 [0, 1, 2, 3, 4, 5] hX rfl (by decide) (by simp) (by simp) (by simp) (by simp)) ⟨by simp, ho⟩ ?_
      clear ho
      rintro ⟨j, M⟩ ⟨hj, ho⟩
      simp only at hj ho
      refine vc_sound h.mo _ _ _ (by kernel_rfl) ?_
      rcases Nat.lt_or_ge j xl.fEvents.length with hjlt | hjge
      · have hj1 := wrap_succ hjlt (by omega)
        have hstep : (∀ k, mget M xl.fEvents[j].fSite = some k → k = i) → OwnI ls i (j + 1) (mset M xl.fEvents[j].fSite i) := by subst hxs; exact own_step hlt hjlt ho
        have hclash : ∀ k, mget M xl.fEvents[j].fSite = some k → k ≠ i → clash ls := by subst hxs; exact fun k a b => own_clash hlt hjlt ho a b
        have hmz : clash ls → mergeZ ls = (⟨[], []⟩, 4) := fun q => by unfold mergeZ; rw [if_neg (fun z => z hc0), if_pos (twB_true.2 q)]
        simp [hjlt, -Prod.exists]
        cases hm : mget M xl.fEvents[j].fSite with
        | none =>
          simp [-Prod.exists]
          exact ⟨(j + 1, mset M xl.fEvents[j].fSite i), Wk.ren 0 [0, 1, 2, 3, 4, 5] hX rfl (by decide) (by simp [hj1]) (by simp) (by simp) (by simp), ⟨by simp only; omega, hstep (fun k q => by rw [hm] at q; cases q)⟩, by simp only; omega⟩
        | some k =>
          by_cases hki : k = i
          · simp [hki, -Prod.exists]
            exact ⟨(j + 1, mset M xl.fEvents[j].fSite i), Wk.ren 0 [0, 1, 2, 3, 4, 5] hX rfl (by decide) (by simp [hj1]) (by simp) (by simp) (by simp), ⟨by simp only; omega, hstep (fun k' q => by rw [hm] at q; cases q; exact hki)⟩, by simp only; omega⟩
          · have := hmz (hclash k hm hki)
            simp [hki, this]
      · have hje : j = xl.fEvents.length := by omega
        subst hje
        have hnext : OwnI ls (i + 1) 0 M := by subst hxs; exact own_next hlt ho
        have hal := evA_le (ls := ls.take i) fun l hl => hcz l (List.mem_of_mem_take hl)
        rw [List.length_take] at hal
        simp [-Prod.exists]
        refine ⟨⟨by omega, by omega⟩, ⟨by omega, by omega⟩, ?_⟩
        exact ⟨(i + 1, M), Wk.ren 0 [0, 1, 2, 6, 7] hX rfl (by decide) (by simp [hk1]) (by simp) (by simp) (by simp [het, hrt]), ⟨by simp only; omega, hnext⟩, by simp only; omega⟩
    · have hil : i = ls.length := by omega
      subst hil
      simp
      exact ⟨own_none ho, Wk.ren 0 [0, 2, 3, 4] hX rfl (by decide) (by simp) (by simp) (by simp) (by simp)⟩
  intro hcl
  have hmz : mergeZ ls = if longB ⟨evA ls, rcA ls⟩ = true then (⟨[], []⟩, 6) else (⟨isrt (ltOf ofE) (evA ls), isrt (ltOf atR) (rcA ls)⟩, 0) := by
    unfold mergeZ
    rw [if_neg (fun z => z hc0), if_neg (by rw [twB_false hcl]; decide)]
  rw [hmz]
  have hlo := c_long (P := P) ⟨evA ls, rcA ls⟩
  refine awp_cut2 (⟨[.any, .any, .pto 0 2 0 0, .int .i64 0, .any, .any, .any, .any, .pto 1 2 0 0, .any, .any, .any, .any, .any, .any, .any, .any, .any, .any, .any, .any, .any, .any, .any, .any, .any, .any, .any, .any, .any, .any, .any, .any, .any, .any, .any, .any, .any, .any, .any, .any, .any, .any, .any, .any, .any, .any, .any, .any, .any, .any, .any, .any, .any, .any, .any, .any, .any, .any, .any, .any, .any, .any, .any, .any, .any, .any, .any, .any, .any, .any, .any, .any, .any, .any, .any, .any, .any, .any, .any, .any, .any, .any, .any, .any, .any, .any, .any], [⟨25, 2, [.agg [.sl true [], .sl true []]], 0, true⟩, ⟨25, 2, [.agg [B 2 (evA ls), B 3 (rcA ls)]], 0, true⟩, RF 44 (evA ls) 0, RF 47 (rcA ls) 0]⟩ : S) (longB ⟨evA ls, rcA ls⟩ = false) (vc_sound h.mo _ _ _ (by kernel_rfl) ?_) ?_
  case refine_1 =>
    generalize evA ls = es at *
    generalize rcA ls = rs at *
    simp
    refine xcall_fn hlo (by simp) ?_
    cases hlb : longB ⟨es, rs⟩
    · simp
      exact Wk.ren 0 [0, 1, 2, 3] hX rfl (by decide) (by simp) (by simp) (by simp) (by simp)
    · simp
  intro hlb
  rw [if_neg (by rw [hlb]; decide)]
  simp only [longB, Bool.or_eq_false_iff, decide_eq_false_iff_not] at hlb
  clear hmz hlo
  generalize evA ls = es at *
  generalize rcA ls = rs at *
  have hcr : ltZ (czOf atR) = ltOf atR := ltZ_of _
  have hst := c_StabR (P := P) 42 (czOf atR) (by rw [hcr]; exact ord_of _) c_cmpR rs (by omega)
  rw [hcr] at hst
  have hsl : (isrt (ltOf atR) rs).length = rs.length := isrt_len _ _
  refine awp_seq (vc_sound h.mo _ _ _ (by kernel_rfl) ?_)
  simp
  refine xcall_frame 3 (sort_frame hsl hst) (by simp) (noid_RF _ _) (by simp) (by simp) ?_
  rintro _ _ ⟨rfl, rfl⟩
  rw [reA_tup, B_len 3 hsl.symm]
  have hco := c_Order (P := P) es (by omega)
  generalize isrt (ltOf atR) rs = rs2 at *
  generalize isrt (ltOf ofE) es = es2 at *
  simp
  refine awp_fzB 2 44 es 0 rfl ?_
  simp [fzB_other]
  refine awp_fzB 3 47 rs2 0 rfl ?_
  simp
  refine awp_fz 1 (by rfl) (by simp) ?_
  simp
  refine awp_seq (awp_tree (.take 0 (.take 1 (.take 4 (.take 5 (.alt 2 (.take 3 (.take 6 (.alt 7 (.take 8 .done) .stop))) .stop))))) _ h.mo (by kernel_rfl) (by decide) (by kernel_rfl) (by rfl) ?_)
  simp
  refine xcall_fn hco (by simp) ?_
  simp
  refine vc_sound h.mo _ _ _ (by kernel_rfl) ?_
  simp
end Go.Proofs.Ytacfckmhnnhllaa
