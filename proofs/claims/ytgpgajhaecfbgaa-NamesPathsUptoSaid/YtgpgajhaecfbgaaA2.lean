/- Chapter 07: names: Check and Distinct, over any program that has the text. -/
import Derived.Test.YtgpgajhaecfbgaaA1
namespace Go.Proofs.Ytgpgajhaecfbgaa
open Go.AL
variable {P : Program} [h : Facts P]

def ltrB (n : Int) : Bool := decide (97 ≤ n) && decide (n ≤ 122)
def okC (c : UInt8) : Bool := ltrB c.toNat || (decide (48 ≤ (c.toNat : Int)) && decide ((c.toNat : Int) ≤ 57)) || decide ((c.toNat : Int) = 95)
def headB (s : List UInt8) : Bool := decide (s.length ≤ 24) && (match s with | [] => false | c :: _ => ltrB c.toNat) && !kwB s
def nameB (s : List UInt8) : Bool := headB s && s.all okC
def nameE (s : List UInt8) : Int := if nameB s = true then 0 else 3

theorem c_letter (n : Int) : FCall P 22 [.int .u8 n] (fun r => r = .bool (ltrB n)) := by
  refine fcall_of h.f22 rfl (by decide) h.mo (by kernel_rfl) fun X hX => ?_
  by_cases h1 : 97 ≤ n <;> by_cases h2 : n ≤ 122 <;> simp [ltrB, h1, h2]
theorem c_Rletter (n : Int) : FCall P 23 [.int .u8 n] (fun r => r = .bool (ltrB n)) := by
  refine fcall_of h.f23 rfl (by decide) h.mo (by kernel_rfl) fun X hX => ?_
  by_cases h1 : 97 ≤ n <;> by_cases h2 : n ≤ 122 <;> simp [ltrB, h1, h2]

theorem step_all2 {α : Type} {p : α → Bool} {l : List α} {k : Nat} (hinv : ∀ j (hj : j < l.length), j < k → p l[j] = true) (hk : k < l.length) (g : p l[k] = true) : ∀ j (hj : j < l.length), j < k + 1 → p l[j] = true := step_all hinv hk g
theorem nameE_bad {s : List UInt8} (hh : nameB s = false) : nameE s = 3 := by simp [nameE, hh]
theorem nameB_no {s : List UInt8} {k : Nat} (hk : k < s.length) (g : okC s[k] = false) : nameB s = false := by
  unfold nameB
  rw [Bool.and_eq_false_iff]
  right
  rw [List.all_eq_false]
  exact ⟨_, List.getElem_mem hk, by simp [g]⟩
theorem okC_cases (c : UInt8) : okC c = true ↔ ltrB c.toNat = true ∨ (48 ≤ (c.toNat : Int) ∧ (c.toNat : Int) ≤ 57) ∨ (c.toNat : Int) = 95 := by
  unfold okC
  simp only [Bool.or_eq_true, Bool.and_eq_true, decide_eq_true_eq, or_assoc]

theorem c_Check (s : List UInt8) (hl : s.length ≤ 9223372036854775807) : FCall P 11 [.str s] (fun r => r = .int .i64 (nameE s)) := by
  refine fcall_of h.f11 rfl (by decide) h.mo (by kernel_rfl) fun X hX => ?_
  cases s with
  | nil => simp [nameE, nameB, headB]
  | cons c0 s0 =>
    by_cases h1 : (c0 :: s0).length ≤ 24
    case neg =>
      have hb : nameE (c0 :: s0) = 3 := nameE_bad (by simp only [nameB, headB, h1, decide_false, Bool.false_and])
      have h2 : ¬ (s0.length : Int) + 1 ≤ 24 := by simp at h1; omega
      have h3 : (24 : Int) < (s0.length : Int) + 1 := by omega
      simp [h2, h3, hb]
    have h2 : (s0.length : Int) + 1 ≤ 24 := by simp at h1; omega
    have h3 : ¬ (24 : Int) < (s0.length : Int) + 1 := by omega
    simp [h2, h3]
    refine xcall_fn (c_letter (c0.toNat : Int)) (by simp) ?_
    by_cases h4 : ltrB c0.toNat = true
    case neg =>
      have hb : nameE (c0 :: s0) = 3 := nameE_bad (by simp [nameB, headB, h4])
      simp [h4, hb]
    simp [h4]
    refine xcall_fn (c_Keyword (c0 :: s0)) (by simp) ?_
    by_cases h5 : kwB (c0 :: s0) = true
    case pos =>
      have hb : nameE (c0 :: s0) = 3 := nameE_bad (by simp [nameB, headB, h5])
      simp [h5, hb]
    have hhd : headB (c0 :: s0) = true := by simp only [headB, h1, decide_true, h4, h5, Bool.not_false, Bool.and_self, Bool.eq_false_iff.2 h5]
    simp [h5]
    have hlen : (s0.length : Int) + 1 = (c0 :: s0).length := by simp
    generalize hs : c0 :: s0 = s at hl hhd hlen
    clear hs h1 h2 h3 h4 h5
    refine awp_loop (σ := Nat) (fun k => (⟨[.str s, .any, .any, .any, .any, .any, .any, .any, .any, .any, .any, .any, .any, .any, .any, .any, .any, .any, .any, .any, .any, .any, .any, .int .i64 s.length, .int .i64 k, .any, .any, .any, .any, .any, .any, .any, .any, .any, .any, .any, .any, .any, .any, .any, .any, .any, .any, .any, .any, .any], []⟩ : S)) (fun k => k ≤ s.length ∧ ∀ j (hj : j < s.length), j < k → okC s[j] = true) (fun k => s.length - k) 0 (Wk.slots (by simp [hlen])) ⟨by omega, by simp⟩ ?_
    rintro k ⟨hk, hinv⟩
    refine vc_sound h.mo _ _ _ (by kernel_rfl) ?_
    rcases Nat.lt_or_ge k s.length with hlt | hge
    · have hk1 := wrap_succ hlt hl
      have hno := nameB_no hlt
      have hyes := step_all hinv hlt
      obtain ⟨c, hc⟩ : ∃ c, s[k] = c := ⟨_, rfl⟩
      rw [hc] at hno hyes
      have hcs := okC_cases c
      simp [hlt, hc]
      refine xcall_fn (c_letter (c.toNat : Int)) (by simp) ?_
      have hbad : ltrB c.toNat = false → ((c.toNat : Int) < 48 ∨ 57 < (c.toNat : Int)) → ¬ (c.toNat : Int) = 95 → nameE s = 3 := fun a1 a2 a3 => nameE_bad (hno (Bool.eq_false_iff.2 fun q => by
        rcases hcs.1 q with q | q | q
        · rw [a1] at q; cases q
        · omega
        · omega))
      generalize (c.toNat : Int) = n at hcs hbad
      by_cases g1 : ltrB n = true
      · simp [g1]
        exact ⟨k + 1, Wk.ren 0 [] hX rfl (by decide) (by simp [hk1]) (by simp) (by simp) (by simp), ⟨by omega, hyes (hcs.2 (.inl g1))⟩, by omega⟩
      · by_cases g2 : n < 48
        · have g2' : ¬ 48 ≤ n := by omega
          have g3 : ¬ n = 95 := by omega
          have hb := hbad (Bool.eq_false_iff.2 g1) (.inl g2) g3
          simp [g1, g2, g2', g3, hb]
        · have g2' : 48 ≤ n := by omega
          by_cases g4 : 57 < n
          · have g4' : ¬ n ≤ 57 := by omega
            by_cases g3 : n = 95
            · simp [g1, g2, g2', g4, g4', eq_true g3]
              exact ⟨k + 1, Wk.ren 0 [] hX rfl (by decide) (by simp [hk1]) (by simp) (by simp) (by simp), ⟨by omega, hyes (hcs.2 (.inr (.inr g3)))⟩, by omega⟩
            · have hb := hbad (Bool.eq_false_iff.2 g1) (.inr g4) g3
              simp [g1, g2, g2', g4, g4', g3, hb]
          · have g4' : n ≤ 57 := by omega
            simp [g1, g2, g2', g4, g4']
            exact ⟨k + 1, Wk.ren 0 [] hX rfl (by decide) (by simp [hk1]) (by simp) (by simp) (by simp), ⟨by omega, hyes (hcs.2 (.inr (.inl ⟨g2', g4'⟩)))⟩, by omega⟩
    · have hge2 : ¬ k < s.length := by omega
      have hall := all_yes (p := okC) fun j hj => hinv j hj (by omega)
      have hb : nameE s = 0 := by simp only [nameE, nameB, hhd, hall, Bool.and_self, if_true]
      simp [hge2, hb]
end Go.Proofs.Ytgpgajhaecfbgaa
