/- Chapter 10: expressions: names (chapter 07's text, turned to this seat), over any program that has the text. -/
import Derived.Test.YtadllkhmihbfhaaC1
namespace Go.Proofs.Ytadllkhmihbfhaa
open Go.AL
variable {P : Program} [h : Facts P]

/-- The keywords. -/
def kws : List (List UInt8) := [[97, 100, 100], [97, 102, 116, 101, 114], [97, 110, 100], [97, 116], [98, 101, 108, 116], [98, 111, 111, 108], [99, 111, 110, 115, 101, 114, 118, 101], [99, 111, 110, 115, 116], [99, 111, 117, 110, 116], [99, 121, 99, 108, 101], [100, 111, 119, 110], [100, 114, 97, 119], [100, 117, 114], [101, 108, 115, 101], [101, 110, 100], [101, 118, 101, 114, 121], [102, 97, 108, 115, 101], [102, 97, 117, 108, 116], [102, 105, 102, 111], [102, 114, 101, 101], [102, 114, 111, 109], [103, 101, 111, 109], [103, 101, 116], [104, 111, 108, 100], [105, 102], [105, 110, 116], [105, 110, 116, 111], [108, 101, 97, 115, 116], [108, 101, 118, 101, 108], [108, 105, 102, 111], [108, 105, 110, 107], [108, 111, 99, 97, 108], [109, 97, 120], [109, 105, 110], [109, 111, 100, 101, 108], [110, 111, 116], [110, 111, 119], [111, 98, 115, 101, 114, 118, 101], [111, 114], [112, 97, 114, 97, 109], [112, 114, 101, 101, 109, 112, 116], [112, 114, 105, 111], [112, 117, 116], [113, 117, 101, 117, 101], [114, 101, 108, 101, 97, 115, 101], [114, 101, 115, 111, 117, 114, 99, 101], [114, 105, 100, 101], [114, 111, 117, 116, 105, 110, 101], [115, 101, 105, 122, 101], [115, 101, 110, 100], [115, 101, 116], [115, 104, 105, 102, 116], [115, 105, 103, 110, 97, 108], [115, 105, 116, 101], [115, 105, 122, 101], [115, 112, 97, 119, 110], [115, 116, 97, 114, 116], [115, 116, 111, 112], [115, 116, 111, 114, 101], [115, 116, 114, 101, 97, 109], [115, 117, 109], [116, 97, 98, 108, 101], [116, 97, 108, 108, 121], [116, 105, 99, 107, 115], [116, 105, 109, 101], [116, 114, 117, 101], [117, 110, 105, 102, 111, 114, 109], [117, 110, 116, 105, 108], [117, 112], [118, 97, 114], [119, 97, 105, 116], [119, 97, 105, 116, 105, 110, 103], [119, 104, 105, 108, 101]]
def kwB (s : List UInt8) : Bool := decide (s ∈ kws)
/-- The first place of a text. -/
def fnd (l : List (List UInt8)) (s : List UInt8) : Int := idxZ (fun x => decide (x = s)) l

theorem c_RFind (l : List (List UInt8)) (s : List UInt8) (hl : l.length ≤ 9223372036854775807) : FCall P 42 [Ls false l, .str s] (fun r => r = .int .i64 (fnd l s)) := by
  refine fcall_of h.f42 rfl (by decide) h.mo (by kernel_rfl) fun X hX => ?_
  simp
  refine awp_loop (σ := Nat) (fun k => (⟨[Ls false l, .str s, .any, .any, .any, .int .i64 k, .any, .any, .any, .any, .any, .any, .any, .any, .any, .any, .any, .any, .any], []⟩ : S)) (fun k => k ≤ l.length ∧ ∀ j (hj : j < l.length), j < k → (fun x => decide (x = s)) l[j] = false) (fun k => l.length - k) 0 (Wk.slots (by simp)) ⟨by omega, by simp⟩ ?_
  rintro k ⟨hk, hinv⟩
  refine vc_sound h.mo _ _ _ (by kernel_rfl) ?_
  rcases Nat.lt_or_ge k l.length with hlt | hge
  · have hk1 := wrap_succ hlt hl
    by_cases g : l[k] = s
    · have := idxZ_at (p := fun x => decide (x = s)) hlt (by simp [g]) hinv
      simp [hlt, g, fnd, this]
    · simp [hlt, g]
      refine ⟨k + 1, Wk.ren 0 [] hX rfl (by decide) (by simp [hk1]) (by simp) (by simp) (by simp), ⟨by omega, fun j hj hjk => ?_⟩, by omega⟩
      simpa using step_no (p := fun x => decide (x = s)) hinv hlt (by simp [g]) j hj hjk
  · have hge2 : ¬ k < l.length := by omega
    have := idxZ_no (p := fun x => decide (x = s)) fun j hj => hinv j hj (by omega)
    simp [hge2, fnd, this]

set_option maxRecDepth 100000 in
set_option maxHeartbeats 4000000 in
theorem c_Keywords : FCall P 99 [] (fun r => r = Ls false kws) := by
  refine fcall_of h.f99 rfl (by decide) h.mo (by kernel_rfl) fun X hX => ?_
  simp (config := {maxSteps := 4000000}) [kws]
theorem c_RKeyword (s : List UInt8) : FCall P 83 [.str s] (fun r => r = .bool (kwB s)) := by
  refine fcall_of h.f83 rfl (by decide) h.mo (by kernel_rfl) fun X hX => ?_
  simp
  refine xcall_fn c_Keywords (by simp) ?_
  simp
  refine xcall_fn (c_RFind kws s (by decide)) (by simp) ?_
  have e : (0 ≤ fnd kws s) = (kwB s = true) := by
    unfold fnd
    rw [idxZ_nonneg]
    simp [kwB]
  simp [e]
theorem kw_step {s k : List UInt8} {Q : Prop} (h1 : kwB k = true) (h2 : ¬ s = k → Q) : (s = k → (s = k → kwB s = true) ∧ (¬ s = k → kwB s = false)) ∧ (¬ s = k → Q) :=
  ⟨fun e => ⟨fun _ => by rw [e]; exact h1, fun n => (n e).elim⟩, h2⟩
set_option maxRecDepth 100000 in
set_option maxHeartbeats 4000000 in
theorem c_Keyword (s : List UInt8) : FCall P 77 [.str s] (fun r => r = .bool (kwB s)) := by
  refine fcall_of h.f77 rfl (by decide) h.mo (by kernel_rfl) fun X hX => ?_
  simp (config := {maxSteps := 4000000})
  repeat' (refine kw_step (by kernel_rfl) fun _ => ?_)
  simp [kwB, kws, *]


def ltrB (n : Int) : Bool := decide (97 ≤ n) && decide (n ≤ 122)
def okC (c : UInt8) : Bool := ltrB c.toNat || (decide (48 ≤ (c.toNat : Int)) && decide ((c.toNat : Int) ≤ 57)) || decide ((c.toNat : Int) = 95)
def headB (s : List UInt8) : Bool := decide (s.length ≤ 24) && (match s with | [] => false | c :: _ => ltrB c.toNat) && !kwB s
def nameB (s : List UInt8) : Bool := headB s && s.all okC
def nameE (s : List UInt8) : Int := if nameB s = true then 0 else 3

theorem c_letter (n : Int) : FCall P 76 [.int .u8 n] (fun r => r = .bool (ltrB n)) := by
  refine fcall_of h.f76 rfl (by decide) h.mo (by kernel_rfl) fun X hX => ?_
  by_cases h1 : 97 ≤ n <;> by_cases h2 : n ≤ 122 <;> simp [ltrB, h1, h2]
theorem c_Rletter (n : Int) : FCall P 82 [.int .u8 n] (fun r => r = .bool (ltrB n)) := by
  refine fcall_of h.f82 rfl (by decide) h.mo (by kernel_rfl) fun X hX => ?_
  by_cases h1 : 97 ≤ n <;> by_cases h2 : n ≤ 122 <;> simp [ltrB, h1, h2]

theorem step_all2 {α : Type} {p : α → Bool} {l : List α} {k : Nat} (hinv : ∀ j (hj : j < l.length), j < k → p l[j] = true) (hk : k < l.length) (g : p l[k] = true) : ∀ j (hj : j < l.length), j < k + 1 → p l[j] = true := step_all hinv hk g
theorem nameE_bad {s : List UInt8} (hh : nameB s = false) : nameE s = 3 := by simp [nameE, hh]
theorem nameB_no {s : List UInt8} {k : Nat} (hk : k < s.length) (g : okC s[k] = false) : nameB s = false := by
  unfold nameB
  rw [Bool.and_eq_false_iff]
  right
  rw [List.all_eq_false]
  exact ⟨_, List.getElem_mem hk, by simp [g]⟩
theorem okC_cases (c : UInt8) : okC c = true ↔ ltrB c.toNat = true ∨ (48 ≤ (c.toNat : Int) ∧ (c.toNat : Int) ≤ 57) ∨ (c.toNat : Int) = 95 := by
  unfold okC
  simp only [Bool.or_eq_true, Bool.and_eq_true, decide_eq_true_eq, or_assoc]

theorem c_NCheck (s : List UInt8) (hl : s.length ≤ 9223372036854775807) : FCall P 56 [.str s] (fun r => r = .int .i64 (nameE s)) := by
  refine fcall_of h.f56 rfl (by decide) h.mo (by kernel_rfl) fun X hX => ?_
  cases s with
  | nil => simp [nameE, nameB, headB]
  | cons c0 s0 =>
    by_cases h1 : (c0 :: s0).length ≤ 24
    case neg =>
      have hb : nameE (c0 :: s0) = 3 := nameE_bad (by simp only [nameB, headB, h1, decide_false, Bool.false_and])
      have h2 : ¬ (s0.length : Int) + 1 ≤ 24 := by simp at h1; omega
      have h3 : (24 : Int) < (s0.length : Int) + 1 := by omega
      simp [h3, hb]
    have h2 : (s0.length : Int) + 1 ≤ 24 := by simp at h1; omega
    have h3 : ¬ (24 : Int) < (s0.length : Int) + 1 := by omega
    simp [h3]
    refine xcall_fn (c_letter (c0.toNat : Int)) (by simp) ?_
    by_cases h4 : ltrB c0.toNat = true
    case neg =>
      have hb : nameE (c0 :: s0) = 3 := nameE_bad (by simp [nameB, headB, h4])
      simp [h4, hb]
    simp [h4]
    refine xcall_fn (c_Keyword (c0 :: s0)) (by simp) ?_
    by_cases h5 : kwB (c0 :: s0) = true
    case pos =>
      have hb : nameE (c0 :: s0) = 3 := nameE_bad (by simp [nameB, headB, h5])
      simp [h5, hb]
    have hhd : headB (c0 :: s0) = true := by simp only [headB, h1, decide_true, h4, h5, Bool.not_false, Bool.and_self]
    simp [h5]
    have hlen : (s0.length : Int) + 1 = (c0 :: s0).length := by simp
    generalize hs : c0 :: s0 = s at hl hhd hlen
    clear hs h1 h2 h3 h4 h5
    refine awp_loop (σ := Nat) (fun k => (⟨[.str s, .any, .any, .any, .any, .any, .any, .any, .any, .any, .any, .any, .any, .any, .any, .any, .any, .any, .any, .any, .any, .any, .any, .int .i64 s.length, .int .i64 k, .any, .any, .any, .any, .any, .any, .any, .any, .any, .any, .any, .any, .any, .any, .any, .any, .any, .any, .any, .any, .any], []⟩ : S)) (fun k => k ≤ s.length ∧ ∀ j (hj : j < s.length), j < k → okC s[j] = true) (fun k => s.length - k) 0 (Wk.slots (by simp [hlen])) ⟨by omega, by simp⟩ ?_
    rintro k ⟨hk, hinv⟩
    refine vc_sound h.mo _ _ _ (by kernel_rfl) ?_
    rcases Nat.lt_or_ge k s.length with hlt | hge
    · have hk1 := wrap_succ hlt hl
      have hno := nameB_no hlt
      have hyes := step_all hinv hlt
      obtain ⟨c, hc⟩ : ∃ c, s[k] = c := ⟨_, rfl⟩
      rw [hc] at hno hyes
      have hcs := okC_cases c
      simp [hlt, hc]
      refine xcall_fn (c_letter (c.toNat : Int)) (by simp) ?_
      have hbad : ltrB c.toNat = false → ((c.toNat : Int) < 48 ∨ 57 < (c.toNat : Int)) → ¬ (c.toNat : Int) = 95 → nameE s = 3 := fun a1 a2 a3 => nameE_bad (hno (Bool.eq_false_iff.2 fun q => by
        rcases hcs.1 q with q | q | q
        · rw [a1] at q; cases q
        · omega
        · omega))
      generalize (c.toNat : Int) = n at hcs hbad
      by_cases g1 : ltrB n = true
      · simp [g1]
        exact ⟨k + 1, Wk.ren 0 [] hX rfl (by decide) (by simp [hk1]) (by simp) (by simp) (by simp), ⟨by omega, hyes (hcs.2 (.inl g1))⟩, by omega⟩
      · by_cases g2 : n < 48
        · have g2' : ¬ 48 ≤ n := by omega
          have g3 : ¬ n = 95 := by omega
          have hb := hbad (Bool.eq_false_iff.2 g1) (.inl g2) g3
          simp [g1, g2, g3, hb]
        · have g2' : 48 ≤ n := by omega
          by_cases g4 : 57 < n
          · have g4' : ¬ n ≤ 57 := by omega
            by_cases g3 : n = 95
            · simp [g1, g2, g4, eq_true g3]
              exact ⟨k + 1, Wk.ren 0 [] hX rfl (by decide) (by simp [hk1]) (by simp) (by simp) (by simp), ⟨by omega, hyes (hcs.2 (.inr (.inr g3)))⟩, by omega⟩
            · have hb := hbad (Bool.eq_false_iff.2 g1) (.inr g4) g3
              simp [g1, g2, g4, g3, hb]
          · have g4' : n ≤ 57 := by omega
            simp [g1, g2, g4]
            exact ⟨k + 1, Wk.ren 0 [] hX rfl (by decide) (by simp [hk1]) (by simp) (by simp) (by simp), ⟨by omega, hyes (hcs.2 (.inr (.inl ⟨g2', g4'⟩)))⟩, by omega⟩
    · have hge2 : ¬ k < s.length := by omega
      have hall := all_yes (p := okC) fun j hj => hinv j hj (by omega)
      have hb : nameE s = 0 := by simp only [nameE, nameB, hhd, hall, Bool.and_self, if_true]
      simp [hge2, hb]


theorem c_RNCheck (s : List UInt8) (hl : s.length ≤ 9223372036854775807) : FCall P 61 [.str s] (fun r => r = .int .i64 (nameE s)) := by
  refine fcall_of h.f61 rfl (by decide) h.mo (by kernel_rfl) fun X hX => ?_
  cases s with
  | nil => simp [nameE, nameB, headB]
  | cons c0 s0 =>
    by_cases h1 : (c0 :: s0).length ≤ 24
    case neg =>
      have hb : nameE (c0 :: s0) = 3 := nameE_bad (by simp only [nameB, headB, h1, decide_false, Bool.false_and])
      have h2 : ¬ (s0.length : Int) + 1 ≤ 24 := by simp at h1; omega
      have h3 : (24 : Int) < (s0.length : Int) + 1 := by omega
      simp [h3, hb]
    have h2 : (s0.length : Int) + 1 ≤ 24 := by simp at h1; omega
    have h3 : ¬ (24 : Int) < (s0.length : Int) + 1 := by omega
    have h6 : ¬ (s0.length : Int) + 1 < 1 := by omega
    simp [h3, h6]
    refine xcall_fn (c_Rletter (c0.toNat : Int)) (by simp) ?_
    by_cases h4 : ltrB c0.toNat = true
    case neg =>
      have hb : nameE (c0 :: s0) = 3 := nameE_bad (by simp [nameB, headB, h4])
      simp [h4, hb]
    simp [h4]
    refine xcall_fn (c_RKeyword (c0 :: s0)) (by simp) ?_
    by_cases h5 : kwB (c0 :: s0) = true
    case pos =>
      have hb : nameE (c0 :: s0) = 3 := nameE_bad (by simp [nameB, headB, h5])
      simp [h5, hb]
    have hhd : headB (c0 :: s0) = true := by simp only [headB, h1, decide_true, h4, h5, Bool.not_false, Bool.and_self]
    simp [h5]
    have hlen : (s0.length : Int) + 1 = (c0 :: s0).length := by simp
    generalize hs : c0 :: s0 = s at hl hhd hlen
    clear hs h1 h2 h3 h4 h5
    refine awp_loop (σ := Nat) (fun k => (⟨[.str s, .any, .any, .int .i64 k, .any, .any, .any, .any, .any, .any, .any, .any, .any, .any, .any, .any, .any, .any, .any, .any, .any, .any, .any, .any, .any, .any, .any, .any, .any, .any, .any, .any, .any, .any, .any, .any, .any, .any, .any, .any, .any, .any, .any, .any, .any, .any, .any, .any, .any, .any, .any], []⟩ : S)) (fun k => k ≤ s.length ∧ ∀ j (hj : j < s.length), j < k → okC s[j] = true) (fun k => s.length - k) 0 (Wk.slots (by simp [hlen])) ⟨by omega, by simp⟩ ?_
    rintro k ⟨hk, hinv⟩
    refine vc_sound h.mo _ _ _ (by kernel_rfl) ?_
    rcases Nat.lt_or_ge k s.length with hlt | hge
    · have hk1 := wrap_succ hlt hl
      have hno := nameB_no hlt
      have hyes := step_all hinv hlt
      obtain ⟨c, hc⟩ : ∃ c, s[k] = c := ⟨_, rfl⟩
      rw [hc] at hno hyes
      have hcs := okC_cases c
      simp [hlt, hc]
      refine xcall_fn (c_Rletter (c.toNat : Int)) (by simp) ?_
      have hbad : ltrB c.toNat = false → ((c.toNat : Int) < 48 ∨ 57 < (c.toNat : Int)) → ¬ (c.toNat : Int) = 95 → nameE s = 3 := fun a1 a2 a3 => nameE_bad (hno (Bool.eq_false_iff.2 fun q => by
        rcases hcs.1 q with q | q | q
        · rw [a1] at q; cases q
        · omega
        · omega))
      obtain ⟨n, hn⟩ : ∃ n : Int, (c.toNat : Int) = n := ⟨_, rfl⟩
      rw [hn] at hcs hbad
      by_cases g1 : ltrB n = true
      · simp [hn, g1]
        exact ⟨k + 1, Wk.ren 0 [] hX rfl (by decide) (by simp [hk1]) (by simp) (by simp) (by simp), ⟨by omega, hyes (hcs.2 (.inl g1))⟩, by omega⟩
      · by_cases g2 : n < 48
        · have g2' : ¬ 48 ≤ n := by omega
          have g3 : ¬ n = 95 := by omega
          have hb := hbad (Bool.eq_false_iff.2 g1) (.inl g2) g3
          simp [hlt, hc, hn, g1, g2, g3, hb]
        · have g2' : 48 ≤ n := by omega
          by_cases g4 : 57 < n
          · have g4' : ¬ n ≤ 57 := by omega
            by_cases g3 : n = 95
            · simp [hlt, hc, hn, g1, eq_true g3]
              exact ⟨k + 1, Wk.ren 0 [] hX rfl (by decide) (by simp [hk1]) (by simp) (by simp) (by simp), ⟨by omega, hyes (hcs.2 (.inr (.inr g3)))⟩, by omega⟩
            · have hb := hbad (Bool.eq_false_iff.2 g1) (.inr g4) g3
              simp [hlt, hc, hn, g1, g2, g4, g3, hb]
          · have g4' : n ≤ 57 := by omega
            have g3 : ¬ n = 95 := by omega
            simp [hlt, hc, hn, g1, g2, g3, g4]
            exact ⟨k + 1, Wk.ren 0 [] hX rfl (by decide) (by simp [hk1]) (by simp) (by simp) (by simp), ⟨by omega, hyes (hcs.2 (.inr (.inl ⟨g2', g4'⟩)))⟩, by omega⟩
    · have hge2 : ¬ k < s.length := by omega
      have hall := all_yes (p := okC) fun j hj => hinv j hj (by omega)
      have hb : nameE s = 0 := by simp only [nameE, nameB, hhd, hall, Bool.and_self, if_true]
      simp [hge2, hb]
end Go.Proofs.Ytadllkhmihbfhaa
