/- Chapter 41: places in a log, over any program that has the text. -/
import Derived.Test.YtacfckmhnnhllaaE2
namespace Go.Proofs.Ytacfckmhnnhllaa
open Go.AL
variable {P : Program} [h : Facts P]

abbrev Pl := Int × Int
def plB (p q : Pl) : Bool := decide (p.1 < q.1) || (decide (p.1 = q.1) && decide (p.2 < q.2))
def cmpP (p q : Pl) : Int := orZ [cmpZ p.1 q.1, cmpZ p.2 q.2]
def ofE (e : TEvent) : Pl := (e.fTime, e.fSite)
def atR (r : TRec) : Pl := (r.fTime, r.fSite)
def plA (p : Pl) : A := .agg [.int .i64 p.1, .int .i64 p.2]
theorem cmpP_less (p q : Pl) : decide (cmpP p q < 0) = plB p q := by
  unfold cmpP plB
  by_cases h1 : p.1 = q.1
  · by_cases h2 : p.2 = q.2
    · simp [h1, h2, cmpZ_self, orZ]
    · have := cmpZ_ne h2
      simp [h1, cmpZ_self, orZ, this]
  · have := cmpZ_ne h1
    simp [h1, orZ, this]
theorem c_compare (p q : Pl) : FCall P 28 [plA p, plA q] (fun r => r = .int .i64 (cmpP p q)) := by
  refine fcall_ofB [1] h.f28 rfl (by decide) h.mo (by kernel_rfl) fun X hX => ?_
  simp [plA]
  refine awp_quiet [0, 1, 2, 3, 5, 6, 7, 8, 4, 9, 10, 11, 12] _ h.mo (by kernel_rfl) (by decide) (by kernel_rfl) (by rfl) ?_
  simp
  refine ⟨_, c_Compare _ _, _, c_Compare _ _, ?_⟩
  simp
  refine ⟨_, c_Or [_, _] (by simp), ?_⟩
  simp [cmpP]
theorem c_of (e : TEvent) : FCall P 29 [.agg e.cells] (fun r => r = plA (ofE e)) := by
  refine fcall_of h.f29 rfl (by decide) h.mo (by kernel_rfl) fun X hX => ?_
  simp [plA, ofE]
theorem c_at (r : TRec) : FCall P 30 [.agg r.cells] (fun x => x = plA (atR r)) := by
  refine fcall_of h.f30 rfl (by decide) h.mo (by kernel_rfl) fun X hX => ?_
  simp [plA, atR]
theorem c_less (p q : Pl) : FCall P 32 [.int .i64 p.1, .int .i64 p.2, .int .i64 q.1, .int .i64 q.2] (fun r => r = .bool (plB p q)) := by
  refine fcall_of h.f32 rfl (by decide) h.mo (by kernel_rfl) fun X hX => ?_
  obtain ⟨a, b⟩ := p
  obtain ⟨c, d⟩ := q
  unfold plB
  simp only
  by_cases h1 : a < c
  · simp [h1]
  by_cases h2 : a = c
  · simp [h2]
  · simp [h1, h2]
def longB (l : TLog) : Bool := decide (5000 < l.fEvents.length) || decide (50000 < l.fRecs.length)
theorem c_long (l : TLog) : FCall P 26 [.agg l.cells] (fun r => r = .bool (longB l)) := by
  refine fcall_of h.f26 rfl (by decide) h.mo (by kernel_rfl) fun X hX => ?_
  unfold longB
  by_cases h1 : 5000 < l.fEvents.length
  · have h1i : (5000 : Int) < (l.fEvents.length : Int) := by omega
    simp [h1, h1i]
  have h1i : ¬ (5000 : Int) < (l.fEvents.length : Int) := by omega
  by_cases h2 : 50000 < l.fRecs.length
  · have h2i : (50000 : Int) < (l.fRecs.length : Int) := by omega
    simp [h1, h1i, h2, h2i]
  have h2i : ¬ (50000 : Int) < (l.fRecs.length : Int) := by omega
  simp [h1, h1i, h2, h2i]
theorem c_Rlong (l : TLog) : FCall P 40 [.agg l.cells] (fun r => r = .bool (longB l)) := by
  refine fcall_of h.f40 rfl (by decide) h.mo (by kernel_rfl) fun X hX => ?_
  unfold longB
  by_cases h1 : 5000 < l.fEvents.length
  · have h1i : (5000 : Int) < (l.fEvents.length : Int) := by omega
    simp [h1, h1i]
  have h1i : ¬ (5000 : Int) < (l.fEvents.length : Int) := by omega
  by_cases h2 : 50000 < l.fRecs.length
  · have h2i : (50000 : Int) < (l.fRecs.length : Int) := by omega
    simp [h1, h1i, h2, h2i]
  have h2i : ¬ (50000 : Int) < (l.fRecs.length : Int) := by omega
  simp [h1, h1i, h2, h2i]
def hapB (S : List Pl) (p : Pl) : Bool := decide (p ∈ S)
theorem c_happened (l : List TEvent) (p : Pl) (hl : l.length ≤ 9223372036854775807) : FCall P 33 [Ls false l, .int .i64 p.1, .int .i64 p.2] (fun r => r = .bool (hapB (l.map ofE) p)) := by
  refine fcall_of h.f33 rfl (by decide) h.mo (by kernel_rfl) fun X hX => ?_
  obtain ⟨t, s⟩ := p
  generalize hv : hapB (l.map ofE) (t, s) = v
  simp
  refine awp_loop (σ := Nat) (fun k => (⟨[Ls false l, .int .i64 t, .int .i64 s, .any, .any, .any, .any, .int .i64 k, .any, .any, .any, .any, .any, .any, .any, .any, .any, .any, .any, .any, .any, .any, .any, .any, .any, .any, .any, .any, .any, .any], []⟩ : S)) (fun k => k ≤ l.length ∧ ∀ j (hj : j < l.length), j < k → ofE l[j] ≠ (t, s)) (fun k => l.length - k) 0 (Wk.ren 0 [] hX rfl (by decide) (by simp) (by simp) (by simp) (by simp)) ⟨by omega, by simp⟩ ?_
  rintro k ⟨hk, hinv⟩
  refine vc_sound h.mo _ _ _ (by kernel_rfl) ?_
  rcases Nat.lt_or_ge k l.length with hlt | hge
  · have hk1 := wrap_succ hlt hl
    have yes : ofE l[k] = (t, s) → v = true := fun q => by rw [← hv]; exact decide_eq_true (List.mem_map.2 ⟨_, List.getElem_mem hlt, q⟩)
    have no : ofE l[k] ≠ (t, s) → ∀ j (hj : j < l.length), j < k + 1 → ofE l[j] ≠ (t, s) := fun q j hj hjk => by
      by_cases e : j = k
      · subst e; exact q
      · exact hinv j hj (by omega)
    by_cases q1 : l[k].fTime = t
    · by_cases q2 : l[k].fSite = s
      · have := yes (by simp [ofE, q1, q2])
        simp [hlt, eq_true q1, eq_true q2, this]
      · have := no (by simp [ofE, q2])
        simp [hlt, eq_true q1, q2]
        exact ⟨k + 1, Wk.ren 0 [] hX rfl (by decide) (by simp [hk1]) (by simp) (by simp) (by simp), ⟨by omega, this⟩, by omega⟩
    · have := no (by simp [ofE, q1])
      simp [hlt, q1]
      exact ⟨k + 1, Wk.ren 0 [] hX rfl (by decide) (by simp [hk1]) (by simp) (by simp) (by simp), ⟨by omega, this⟩, by omega⟩
  · have hkl : k = l.length := by omega
    subst hkl
    have : v = false := by
      rw [← hv]
      refine decide_eq_false fun hm => ?_
      obtain ⟨x, hx, q⟩ := List.mem_map.1 hm
      obtain ⟨j, hj, rfl⟩ := List.getElem_of_mem hx
      exact hinv j hj hj q
    simp [this]
end Go.Proofs.Ytacfckmhnnhllaa
