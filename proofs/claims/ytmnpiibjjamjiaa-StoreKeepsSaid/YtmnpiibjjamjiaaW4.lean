/- Chapter 21: stores: who may come, First, over any program that has the text. -/
import Derived.Test.YtmnpiibjjamjiaaW3
namespace Go.Proofs.Ytmnpiibjjamjiaa
open Go.AL
variable {P : Program} [h : Facts P]

def entE (s : TStore) (proc item : Int) : Int := if chkS s ≠ 0 then chkS s else if cntB proc = false ∨ inB item = false then 2 else if proc ∈ waitL s then 4 else if 300 ≤ (waitL s).length ∨ 1000000000000 ≤ s.fIn ∨ 1000000000000 ≤ s.fOut then 13 else 0
theorem waitL_len {s : TStore} (hs : fitS s) : (waitL s).length ≤ 8000000000 := by
  obtain ⟨d1, d2, d3⟩ := hs
  simp [waitL, prc]; omega
theorem chkS_zero {s : TStore} (h0 : chkS s = 0) : newE s.fRoom s.fPolicy = 0 ∧ (s.fItems.length ≤ s.fRoom ∧ (waitL s).length ≤ 300) ∧ rng1 s = true ∧ (waitL s).all cntB = true ∧ (waitL s).Nodup ∧ formB s = true := by
  unfold chkS at h0
  split at h0
  · rename_i g; exact (g h0).elim
  rename_i g1
  split at h0
  · cases h0
  rename_i g2
  split at h0
  · cases h0
  rename_i g3
  split at h0
  · cases h0
  rename_i g4
  split at h0
  case isFalse => cases h0
  rename_i g5
  refine ⟨Classical.not_not.1 g1, by omega, ?_, ?_, Classical.not_not.1 g4, g5⟩
  · cases h : rng1 s
    · exact (g3 (.inl h)).elim
    · rfl
  · cases h : (waitL s).all cntB
    · exact (g3 (.inr h)).elim
    · rfl
theorem rng1_iff {s : TStore} : rng1 s = true ↔ (∀ x ∈ s.fItems, inB x = true) ∧ (∀ r ∈ s.fPutters, inB r.fItem = true) ∧ cntB s.fIn = true ∧ cntB s.fOut = true := by
  unfold rng1
  simp only [Bool.and_eq_true, List.all_eq_true, and_assoc]
theorem chkS_fit {s : TStore} (h0 : chkS s = 0) : s.fItems.length ≤ 1000 ∧ s.fPutters.length ≤ 300 ∧ s.fGetters.length ≤ 300 := by
  obtain ⟨h1, ⟨h2, h3⟩, _⟩ := chkS_zero h0
  have : 1 ≤ s.fRoom ∧ s.fRoom ≤ 1000 := by
    unfold newE at h1
    split at h1
    · assumption
    · cases h1
  simp [waitL, prc] at h3
  omega

theorem c_SIndex (l : List Int) (n : Int) (hl : l.length ≤ 9223372036854775807) : FCall P 24 [Ls false l, .int .i64 n] (fun r => r = .int .i64 (idxZ (fun x => decide (x = n)) l)) := by
  refine fcall_of h.f24 rfl (by decide) h.mo (by kernel_rfl) fun X hX => ?_
  simp
  refine awp_loop (σ := Nat) (fun k => (⟨[Ls false l, .int .i64 n, .any, .any, .any, .any, .any, .int .i64 l.length, .int .i64 k, .any, .any, .any, .any, .any, .any, .any, .any, .any, .any], []⟩ : S)) (fun k => k ≤ l.length ∧ ∀ j (hj : j < l.length), j < k → (fun x => decide (x = n)) l[j] = false) (fun k => l.length - k) 0 (Wk.slots (by simp)) ⟨by omega, by simp⟩ ?_
  rintro k ⟨hk, hinv⟩
  refine vc_sound h.mo _ _ _ (by kernel_rfl) ?_
  rcases Nat.lt_or_ge k l.length with hlt | hge
  · have hk1 := wrap_succ hlt hl
    by_cases g : l[k] = n
    · have := idxZ_at (p := fun x => decide (x = n)) hlt (by simp [g]) hinv
      simp [hlt, g, this]
    · have g' : ¬ n = l[k] := fun e => g e.symm
      simp [hlt, g']
      refine ⟨k + 1, Wk.ren 0 [] hX rfl (by decide) (by simp [hk1]) (by simp) (by simp) (by simp), ⟨by omega, fun j hj hjk => ?_⟩, by omega⟩
      simpa using step_no (p := fun x => decide (x = n)) hinv hlt (by simp [g]) j hj hjk
  · have hge2 : ¬ k < l.length := by omega
    have := idxZ_no (p := fun x => decide (x = n)) fun j hj => hinv j hj (by omega)
    simp [hge2, this]
theorem c_Contains (l : List Int) (n : Int) (hl : l.length ≤ 9223372036854775807) : FCall P 52 [Ls false l, .int .i64 n] (fun r => r = .bool (decide (n ∈ l))) := by
  refine fcall_of h.f52 rfl (by decide) h.mo (by kernel_rfl) fun X hX => ?_
  simp
  refine xcall_fn (c_SIndex l n hl) (by simp) ?_
  simp [idxZ_nonneg]

theorem c_enters (s : TStore) (proc item : Int) (hs : fitS s) : FCall P 37 [.agg s.cells, .int .i64 proc, .int .i64 item] (fun r => r = .int .i64 (entE s proc item)) := by
  refine fcall_of h.f37 rfl (by decide) h.mo (by kernel_rfl) fun X hX => ?_
  have hwl := waitL_len hs
  simp
  refine xcall_fn (c_Check s hs) (by simp) ?_
  unfold entE
  by_cases h0 : chkS s = 0
  case neg => simp [h0]
  simp [h0]
  refine xcall_fn (c_waiting s hs) (by simp) ?_
  generalize waitL s = w at hwl
  simp
  refine xcall_fn (c_counts proc) (by simp) ?_
  by_cases h1 : cntB proc = true
  case neg => simp [h1]
  simp [h1]
  refine xcall_fn (c_In item) (by simp) ?_
  by_cases h2 : inB item = true
  case neg => simp [h2]
  simp [h2]
  refine xcall_fn (c_Contains w proc (by omega)) (by simp) ?_
  by_cases h3 : proc ∈ w
  · simp [h3]
  simp [h3]
  by_cases h4 : 300 ≤ w.length
  · have h4' : (300 : Int) ≤ w.length := by omega
    simp [h4'] <;> omega
  have h4' : ¬ (300 : Int) ≤ w.length := by omega
  by_cases h5 : 1000000000000 ≤ s.fIn
  · simp [h4', h5] <;> omega
  by_cases h6 : 1000000000000 ≤ s.fOut
  · simp [h4', h5, h6] <;> omega
  simp [h4, h4', h5, h6] <;> omega
theorem c_may (s : TStore) (proc item : Int) (hs : fitS s) : FCall P 40 [.agg s.cells, .int .i64 proc, .int .i64 item] (fun r => r = .int .i64 (entE s proc item)) := by
  refine fcall_of h.f40 rfl (by decide) h.mo (by kernel_rfl) fun X hX => ?_
  have hwl := waitL_len hs
  simp
  refine xcall_fn (c_RCheck s hs) (by simp) ?_
  simp
  refine xcall_fn (c_RWaiters s hs) (by simp) ?_
  unfold entE
  by_cases h0 : chkS s = 0
  case neg => simp [h0]
  obtain ⟨_, ⟨_, z1⟩, z2, _⟩ := chkS_zero h0
  obtain ⟨_, _, z3, z4⟩ := rng1_iff.1 z2
  have z3 := cntB_iff.1 z3
  have z4 := cntB_iff.1 z4
  generalize waitL s = w at hwl z1
  simp [h0]
  refine xcall_fn (c_natural proc) (by simp) ?_
  by_cases h1 : cntB proc = true
  case neg => simp [h1]
  simp [h1]
  refine xcall_fn (c_RIn item) (by simp) ?_
  by_cases h2 : inB item = true
  case neg => simp [h2]
  simp [h2]
  refine xcall_fn (c_times w proc (by omega)) (by simp) ?_
  by_cases h3 : proc ∈ w
  · have h3' : (0 : Int) < (w.count proc : Int) := by have := List.count_pos_iff.2 h3; omega
    have h3c := List.count_pos_iff.2 h3
    simp [h3, h3c]
  have h3' : w.count proc = 0 := List.count_eq_zero.2 h3
  simp [h3, h3']
  by_cases h4 : w.length = 300
  · simp [h4] <;> omega
  have h4' : ¬ (w.length : Int) = 300 := by omega
  have h4'' : ¬ 300 ≤ w.length := by omega
  by_cases h5 : s.fIn = 1000000000000
  · simp [h4', h5] <;> omega
  have h5' : ¬ 1000000000000 ≤ s.fIn := by omega
  by_cases h6 : s.fOut = 1000000000000
  · simp [h4', h5, h6] <;> omega
  have h6' : ¬ 1000000000000 ≤ s.fOut := by omega
  simp [h4', h4'', h5, h5', h6, h6'] <;> omega

/-- The first place of a least number. -/
def bestI (l : List Int) : Nat := l.findIdx fun x => l.all fun y => decide (x ≤ y)
def IsBest (l : List Int) (i : Nat) : Prop := ∃ hi : i < l.length, (∀ y ∈ l, l[i] ≤ y) ∧ ∀ j (hj : j < l.length), j < i → l[i] < l[j]
theorem IsBest.eq {l : List Int} {i : Nat} (hb : IsBest l i) : bestI l = i := by
  obtain ⟨hi, h1, h2⟩ := hb
  unfold bestI
  rw [List.findIdx_eq hi]
  refine ⟨by simpa using h1, fun j hj => ?_⟩
  have hjl : j < l.length := by omega
  have := h2 j hjl hj
  rw [List.all_eq_false]
  exact ⟨l[i], List.getElem_mem hi, by simpa using this⟩
def firstP (s : TStore) : Int × Bool := if s.fItems.length = 0 ∨ chkS s ≠ 0 then (0, false) else (if s.fPolicy = 2 then (s.fItems.length : Int) - 1 else if s.fPolicy = 3 then (bestI s.fItems : Int) else 0, true)

def minL (a : Int) (l : List Int) : Int := l.foldl min a
theorem minL_take {a : Int} {l : List Int} {k : Nat} (hk : k < l.length) : minL a (l.take (k + 1)) = min (minL a (l.take k)) l[k] := by
  unfold minL
  rw [List.take_succ_eq_append_getElem hk, List.foldl_append]
  rfl
theorem minL_spec : ∀ (l : List Int) (a : Int), (minL a l ≤ a ∧ ∀ y ∈ l, minL a l ≤ y) ∧ (minL a l = a ∨ minL a l ∈ l)
  | [], a => by simp [minL]
  | x :: l, a => by
    have e : minL a (x :: l) = minL (min a x) l := rfl
    obtain ⟨⟨h1, h2⟩, h3⟩ := minL_spec l (min a x)
    rw [e]
    refine ⟨⟨by omega, fun y hy => ?_⟩, ?_⟩
    · rcases List.mem_cons.1 hy with rfl | hy
      · omega
      · exact h2 y hy
    · rcases h3 with h3 | h3
      · rw [h3]
        rcases Int.le_total a x with g | g
        · left; omega
        · right; rw [show min a x = x by omega]; simp
      · right; simp [h3]
theorem c_Min (l : List Int) (hl : l.length ≤ 9223372036854775807) (h0 : 0 < l.length) : FCall P 25 [Ls false l] (fun r => r = .int .i64 (minL l[0] l)) := by
  refine fcall_of h.f25 rfl (by decide) h.mo (by kernel_rfl) fun X hX => ?_
  have q : ¬ (l.length : Int) < 1 := by omega
  have e1 : minL l[0] (l.take 1) = l[0] := by
    rw [show (1 : Nat) = 0 + 1 from rfl, minL_take h0]
    simp [minL]
  obtain ⟨a, ha⟩ : ∃ a, l[0] = a := ⟨_, rfl⟩
  rw [ha] at e1
  simp [q, h0, ha]
  refine awp_loop (σ := Nat) (fun k => (⟨[Ls false l, .any, .any, .int .i64 (minL a (l.take k)), .int .i64 k, .any, .any, .any, .any, .any, .any, .any, .any, .any, .any, .any, .any, .any, .any, .any, .any, .any, .any, .any, .any], []⟩ : S)) (fun k => k ≤ l.length) (fun k => l.length - k) 1 (Wk.slots (by simp [e1])) (by omega) ?_
  rintro k hk
  refine vc_sound h.mo _ _ _ (by kernel_rfl) ?_
  rcases Nat.lt_or_ge k l.length with hlt | hge
  · have hk1 := wrap_succ hlt hl
    have hm := minL_take (a := a) hlt
    simp [hlt]
    exact ⟨k + 1, Wk.ren 0 [] hX rfl (by decide) (by simp [hk1, hm]) (by simp) (by simp) (by simp), by omega, by omega⟩
  · have hkl : k = l.length := by omega
    subst hkl
    simp
theorem min_best {l : List Int} (h0 : 0 < l.length) : idxZ (fun x => decide (x = minL l[0] l)) l = (bestI l : Int) := by
  obtain ⟨⟨h1, h2⟩, h3⟩ := minL_spec l l[0]
  have hmem : minL l[0] l ∈ l := by
    rcases h3 with h3 | h3
    · rw [h3]; exact List.getElem_mem h0
    · exact h3
  generalize minL l[0] l = m at h1 h2 hmem
  rcases idxZ_or (fun x => decide (x = m)) l with ⟨_, hno⟩ | ⟨i, hz, hi, he, hno⟩
  · have := hno m hmem
    simp at this
  · have he : l[i] = m := by simpa using he
    rw [hz, IsBest.eq (l := l) (i := i) ⟨hi, by rw [he]; exact h2, fun j hj hji => by
      have := hno j hj hji
      have h4 := h2 _ (List.getElem_mem hj)
      simp at this
      rw [he]; omega⟩]
theorem c_First (s : TStore) (hs : fitS s) : FCall P 12 [.agg s.cells] (fun r => r = .tup [.int .i64 (firstP s).1, .bool (firstP s).2]) := by
  refine fcall_ofB [7] h.f12 rfl (by decide) h.mo (by kernel_rfl) fun X hX => ?_
  have hF : firstP s = if s.fItems.length = 0 ∨ chkS s ≠ 0 then (0, false) else (if s.fPolicy = 2 then (s.fItems.length : Int) - 1 else if s.fPolicy = 3 then (bestI s.fItems : Int) else 0, true) := rfl
  have hc := c_Check (P := P) s hs
  obtain ⟨room, pol, items, put, get, i, o⟩ := s
  obtain ⟨d1, d2, d3⟩ := hs
  simp only at d1 d2 d3 hF
  by_cases h1 : items.length = 0
  · rw [if_pos (.inl h1)] at hF
    have : items = [] := List.eq_nil_of_length_eq_zero h1
    simp [this] at hF
    simp [this, hF]
  have h1' : items ≠ [] := by simpa using h1
  simp [h1']
  refine xcall_fn hc (by simp) ?_
  generalize chkS ⟨room, pol, items, put, get, i, o⟩ = e at hF
  by_cases h2 : e = 0
  case neg =>
    rw [if_pos (.inr h2)] at hF
    simp [h2, hF]
  rw [if_neg (by simp [h1', h2])] at hF
  have wm : IntKind.i64.wrap ((items.length : Int) - 1) = (items.length : Int) - 1 := i64_id (by omega) (by omega)
  by_cases h3 : pol = 2
  · rw [if_pos h3] at hF
    simp [h2, eq_true h3, hF, wm]
  rw [if_neg h3] at hF
  by_cases h4 : pol = 3
  · rw [if_pos h4] at hF
    have h0 : 0 < items.length := by omega
    simp [h2, h3, eq_true h4, hF]
    refine awp_fz 0 (by rfl) (by simp) ?_
    simp
    refine awp_quiet [0, 1, 2, 3, 4, 5, 6, 7] _ h.mo (by kernel_rfl) (by decide) (by kernel_rfl) (by rfl) ?_
    simp
    refine ⟨_, c_Min items (by omega) h0, ?_⟩
    simp
    refine ⟨_, c_SIndex items (minL items[0] items) (by omega), ?_⟩
    rw [min_best h0]
    simp
  · rw [if_neg h4] at hF
    simp [h2, h3, h4, hF]
theorem c_RFirst (s : TStore) (hs : fitS s) : FCall P 13 [.agg s.cells] (fun r => r = .tup [.int .i64 (firstP s).1, .bool (firstP s).2]) := by
  refine fcall_of h.f13 rfl (by decide) h.mo (by kernel_rfl) fun X hX => ?_
  have hF : firstP s = if s.fItems.length = 0 ∨ chkS s ≠ 0 then (0, false) else (if s.fPolicy = 2 then (s.fItems.length : Int) - 1 else if s.fPolicy = 3 then (bestI s.fItems : Int) else 0, true) := rfl
  have hc := c_RCheck (P := P) s hs
  obtain ⟨room, pol, items, put, get, i, o⟩ := s
  obtain ⟨d1, d2, d3⟩ := hs
  simp only at d1 d2 d3 hF
  simp
  refine xcall_fn hc (by simp) ?_
  generalize chkS ⟨room, pol, items, put, get, i, o⟩ = e at hF
  by_cases h2 : e = 0
  case neg =>
    rw [if_pos (.inr h2)] at hF
    simp [h2, hF]
  by_cases h1 : items.length = 0
  · rw [if_pos (.inl h1)] at hF
    have : items = [] := List.eq_nil_of_length_eq_zero h1
    simp [this] at hF
    simp [h2, this, hF]
  have h1' : items ≠ [] := by simpa using h1
  rw [if_neg (by simp [h1', h2])] at hF
  have wm : IntKind.i64.wrap ((items.length : Int) - 1) = (items.length : Int) - 1 := i64_id (by omega) (by omega)
  by_cases h3 : pol = 2
  · rw [if_pos h3] at hF
    simp [h1', h2, eq_true h3, hF, wm]
  rw [if_neg h3] at hF
  by_cases h4 : pol = 3
  case neg =>
    rw [if_neg h4] at hF
    simp [h1', h2, h3, h4, hF]
  rw [if_pos h4] at hF
  have h0 : 0 < items.length := by omega
  simp [h1', h2, h3, eq_true h4, hF]
  refine awp_fz 0 (by rfl) (by simp) ?_
  simp
  refine awp_loop (σ := Nat × Nat) (fun z => (⟨[.any, .ptr (.agg [.int .i64 room, .int .i64 pol, Ls false items, Ls false put, Ls false get, .int .i64 i, .int .i64 o]), .any, .any, .int .i64 z.2, .int .i64 z.1, .any, .any, .any, .any, .any, .any, .any, .any, .any, .any, .any, .any, .any, .any, .any, .any, .any, .any, .any, .any, .any, .any, .any, .any, .any, .any, .any, .any, .any, .any, .any, .any, .any, .any, .any, .any, .any, .any, .any], []⟩ : S)) (fun z => z.1 ≤ items.length ∧ ∃ hb : z.2 < items.length, (∀ j (hj : j < items.length), j < z.1 → items[z.2] ≤ items[j]) ∧ ∀ j (hj : j < items.length), j < z.2 → items[z.2] < items[j]) (fun z => items.length - z.1) (0, 0) (Wk.ren 0 [] hX rfl (by decide) (by simp) (by simp) (by simp) (by simp)) ⟨by simp, h0, by simp, by simp⟩ ?_
  rintro ⟨k, b⟩ ⟨hk, hb, hle, hlt2⟩
  simp only at hk hb hle hlt2
  refine vc_sound h.mo _ _ _ (by kernel_rfl) ?_
  rcases Nat.lt_or_ge k items.length with hlt | hge
  · have hk1 := wrap_succ hlt (by omega)
    by_cases g : items[k] < items[b]
    · simp [hlt, hb, g, -Prod.exists]
      refine ⟨(k + 1, k), Wk.ren 0 [] hX rfl (by decide) (by simp [hk1]) (by simp) (by simp) (by simp), ⟨by simp only; omega, hlt, fun j hj hjk => ?_, fun j hj hjk => ?_⟩, by simp only; omega⟩
      · simp only
        rcases Nat.lt_or_ge j k with q | q
        · have := hle j hj q; omega
        · have : j = k := by simp only at hjk; omega
          subst this; omega
      · have := hle j hj hjk
        simp only; omega
    · have g' : ¬ items[k] < items[b] := g
      simp [hlt, hb, g', -Prod.exists]
      refine ⟨(k + 1, b), Wk.ren 0 [] hX rfl (by decide) (by simp [hk1]) (by simp) (by simp) (by simp), ⟨by simp only; omega, hb, fun j hj hjk => ?_, hlt2⟩, by simp only; omega⟩
      simp only
      rcases Nat.lt_or_ge j k with q | q
      · exact hle j hj q
      · have : j = k := by simp only at hjk; omega
        subst this; omega
  · have hge2 : ¬ k < items.length := by omega
    have hB : bestI items = b := IsBest.eq ⟨hb, fun y hy => by
      obtain ⟨j, hj, rfl⟩ := List.getElem_of_mem hy
      exact hle j hj (by omega), hlt2⟩
    simp [hge2, hB]
end Go.Proofs.Ytmnpiibjjamjiaa
