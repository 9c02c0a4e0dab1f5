/- Chapter 15: values of expressions: the laws of order and of arithmetic, over any program that has the text. -/
import Derived.Test.YtnahhdbheeinfaaA1
namespace Go.Proofs.Ytnahhdbheeinfaa
open Go.AL
variable {P : Program} [h : Facts P]

theorem b14 (a b : Int) : binZ 14 a b = oneZ (decide (a = b)) := by simp [binZ, holdsB]
theorem b15 (a b : Int) : binZ 15 a b = oneZ (!decide (a = b)) := by simp [binZ, holdsB]
theorem b16 (a b : Int) : binZ 16 a b = oneZ (decide (a < b)) := by simp [binZ, holdsB]
theorem b17 (a b : Int) : binZ 17 a b = oneZ (decide (a ≤ b)) := by simp [binZ, holdsB]
theorem b20 (a b : Int) : binZ 20 a b = min a b := by simp [binZ]
theorem b21 (a b : Int) : binZ 21 a b = max a b := by simp [binZ]
set_option maxHeartbeats 2000000 in
theorem c_EvalOrder (a b : Int) : FCall P 5 [.int .i64 a, .int .i64 b] (fun r => r = .bool true) := by
  have c1 := c_Binary (P := P) 16 a b
  have c2 := c_Binary (P := P) 16 b a
  have c3 := c_Binary (P := P) 14 a b
  have c4 := c_Binary (P := P) 17 a b
  have c5 := c_Binary (P := P) 15 a b
  have c6 := c_Binary (P := P) 20 a b
  have c7 := c_Binary (P := P) 21 a b
  rw [b16] at c1 c2
  rw [b14] at c3
  rw [b17] at c4
  rw [b15] at c5
  rw [b20] at c6
  rw [b21] at c7
  have hc : a < b ∨ a = b ∨ b < a := by omega
  have ww : IntKind.i64.wrap (1 + 0) = 1 := by decide
  refine fcall_of h.f5 rfl (by decide) h.mo (by kernel_rfl) fun X hX => ?_
  rcases hc with hc | rfl | hc
  · have n1 : ¬ b < a := by omega
    have n2 : ¬ a = b := by omega
    have n3 : a ≤ b := by omega
    have n4 : min a b = a := by omega
    have n5 : max a b = b := by omega
    simp only [hc, n1, n2, n3, n4, n5, decide_true, decide_false, Bool.not_false, oneZ, if_true, Bool.false_eq_true, if_false] at c1 c2 c3 c4 c5 c6 c7
    simp
    refine xcall_fn c1 (by simp) ?_
    simp [hc, n1, n2, n3]
    refine xcall_fn c2 (by simp) ?_
    simp [hc, n1, n2, n3]
    refine xcall_fn c3 (by simp) ?_
    simp [hc, n1, n2, n3]
    refine xcall_fn c4 (by simp) ?_
    simp [hc, n1, n2, n3]
    refine xcall_fn c5 (by simp) ?_
    simp [hc, n1, n2, n3]
    refine xcall_fn c6 (by simp) ?_
    simp [hc, n1, n2, n3]
    refine xcall_fn c7 (by simp) ?_
    simp [hc, n1, n2, n3]
    refine xcall_fn c_awake (by simp) ?_
    simp
  · have n1 : ¬ a < a := by omega
    have n4 : min a a = a := by omega
    have n5 : max a a = a := by omega
    simp only [n1, n4, n5, Int.le_refl, decide_true, decide_false, Bool.not_true, oneZ, if_true, Bool.false_eq_true, if_false] at c1 c2 c3 c4 c5 c6 c7
    simp
    refine xcall_fn c1 (by simp) ?_
    simp
    refine xcall_fn c2 (by simp) ?_
    simp
    refine xcall_fn c3 (by simp) ?_
    simp
    refine xcall_fn c4 (by simp) ?_
    simp
    refine xcall_fn c5 (by simp) ?_
    simp
    refine xcall_fn c6 (by simp) ?_
    simp
    refine xcall_fn c7 (by simp) ?_
    simp
    refine xcall_fn c_awake (by simp) ?_
    simp
  · have n1 : ¬ a < b := by omega
    have n2 : ¬ a = b := by omega
    have n2' : ¬ b = a := by omega
    have n3 : ¬ a ≤ b := by omega
    have n3' : b ≤ a := by omega
    have n4 : min a b = b := by omega
    have n5 : max a b = a := by omega
    simp only [hc, n1, n2, n3, n4, n5, decide_true, decide_false, Bool.not_false, oneZ, if_true, Bool.false_eq_true, if_false] at c1 c2 c3 c4 c5 c6 c7
    simp
    refine xcall_fn c1 (by simp) ?_
    simp [hc, n1, n2, n2', n3, n3']
    refine xcall_fn c2 (by simp) ?_
    simp [hc, n1, n2, n2', n3, n3']
    refine xcall_fn c3 (by simp) ?_
    simp [hc, n1, n2, n2', n3, n3']
    refine xcall_fn c4 (by simp) ?_
    simp [hc, n1, n2, n2', n3, n3']
    refine xcall_fn c5 (by simp) ?_
    simp [hc, n1, n2, n2', n3, n3']
    refine xcall_fn c6 (by simp) ?_
    simp [hc, n1, n2, n2', n3, n3']
    refine xcall_fn c7 (by simp) ?_
    simp [hc, n1, n2, n2', n3, n3']
    refine xcall_fn c_awake (by simp) ?_
    simp
set_option maxHeartbeats 4000000 in
set_option maxRecDepth 4000 in
theorem c_EvalArithmetic (a b : Int) : FCall P 6 [.int .i64 a, .int .i64 b] (fun r => r = .bool true) := by
  refine fcall_of h.f6 rfl (by decide) h.mo (by kernel_rfl) fun X hX => ?_
  simp
  refine awp_loop (σ := Nat) (fun k => (⟨[.int .i64 a, .int .i64 b, .any, .any, .any, .int .i64 ((k : Int) + 9), .any, .any, .any, .any, .any, .any, .any, .any, .any, .any, .any, .any, .any, .any, .any, .any, .any, .any, .any, .any, .any, .any, .any, .any, .any, .any, .any, .any, .any, .any, .any, .any, .any, .any, .any, .any, .any, .any, .any, .any, .any, .any, .any, .any, .any, .any, .any, .any, .any, .any, .any, .any, .any, .any, .any, .any, .any, .any, .any, .any, .any, .any, .any, .any, .any, .any, .any, .any, .any, .any, .any, .any, .any, .any, .any, .any, .any, .any, .any, .any, .any, .any, .any, .any, .any, .any, .any, .any, .any, .any, .any, .any, .any, .any, .any, .any, .any, .any, .any, .any, .any, .any, .any, .any, .any, .any, .any, .any, .any, .any, .any, .any, .any, .any, .any, .any, .any, .any, .any, .any, .any, .any], []⟩ : S)) (fun k => k ≤ 13) (fun k => 13 - k) 0 (Wk.ren 0 [] hX rfl (by decide) (by simp) (by simp) (by simp) (by simp)) (by omega) ?_
  rintro k hk
  refine vc_sound h.mo _ _ _ (by kernel_rfl) ?_
  by_cases hlt : k < 13
  · have hw : IntKind.i64.wrap ((k : Int) + 9 + 1) = ((k + 1 : Nat) : Int) + 9 := by rw [i64_id (by omega) (by omega)]; omega
    obtain ⟨o, ho⟩ : ∃ o, (k : Int) + 9 = o := ⟨_, rfl⟩
    rw [ho] at hw ⊢
    have hle : o ≤ 21 := by omega
    have c1 := c_Binary (P := P) o a b
    have c2 := c_Binary (P := P) o b a
    by_cases hs : symB o = true
    · rw [← bin_comm hs a b] at c2
      by_cases s1 : o = 9
      case' pos => simp [hle, eq_true s1]
      case' neg =>
        by_cases s2 : o = 11
        case' pos => simp [hle, s1, eq_true s2]
        case' neg =>
          by_cases s3 : o = 14
          case' pos => simp [hle, s1, s2, eq_true s3]
          case' neg =>
            by_cases s4 : o = 15
            case' pos => simp [hle, s1, s2, s3, eq_true s4]
            case' neg =>
              have s5 : 18 ≤ o := by simpa [symB, s1, s2, s3, s4] using hs
              simp [hle, s1, s2, s3, s4, s5]
      all_goals
        refine xcall_fn c1 (by simp) ?_
        simp
        refine xcall_fn c2 (by simp) ?_
        simp
        exact ⟨k + 1, Wk.ren 0 [] hX rfl (by decide) (by simp [hw]) (by simp) (by simp) (by simp), by omega, by omega⟩
    · have s1 : ¬ o = 9 := fun q => hs (by simp [symB, q])
      have s2 : ¬ o = 11 := fun q => hs (by simp [symB, q])
      have s3 : ¬ o = 14 := fun q => hs (by simp [symB, q])
      have s4 : ¬ o = 15 := fun q => hs (by simp [symB, q])
      have s5 : ¬ 18 ≤ o := fun q => hs (by simp [symB, q])
      simp [hle, s1, s2, s3, s4, s5]
      exact ⟨k + 1, Wk.ren 0 [] hX rfl (by decide) (by simp [hw]) (by simp) (by simp) (by simp), by omega, by omega⟩
  · have hk13 : k = 13 := by omega
    subst hk13
    have hna := not_and' a b
    have hsa := sub_add' b
    simp
    refine xcall_fn (c_Binary 18 a b) (by simp) ?_
    simp
    refine xcall_fn (c_Unary 6 (binZ 18 a b)) (by simp) ?_
    simp
    refine xcall_fn (c_Unary 6 a) (by simp) ?_
    simp
    refine xcall_fn (c_Unary 6 b) (by simp) ?_
    simp
    refine xcall_fn (c_Binary 19 (unZ 6 a) (unZ 6 b)) (by simp) ?_
    simp [hna]
    refine xcall_fn (c_Binary 10 0 b) (by simp) ?_
    simp
    refine xcall_fn (c_Binary 9 (binZ 10 0 b) b) (by simp) ?_
    by_cases a1 : a < -1000000
    · simp [hsa, a1]
      refine xcall_fn c_awake (by simp) ?_
      simp
    have a1' : -1000000 ≤ a := by omega
    by_cases a2 : 1000000 < a
    · simp [hsa, a1, a1', a2]
      refine xcall_fn c_awake (by simp) ?_
      simp
    have a2' : a ≤ 1000000 := by omega
    by_cases a3 : b < -1000000
    · simp [hsa, a1, a1', a2, a2', a3]
      refine xcall_fn c_awake (by simp) ?_
      simp
    have a3' : -1000000 ≤ b := by omega
    by_cases a4 : 1000000 < b
    · simp [hsa, a1, a1', a2, a2', a3, a3', a4]
      refine xcall_fn c_awake (by simp) ?_
      simp
    have a4' : b ≤ 1000000 := by omega
    by_cases a5 : b = 0
    · simp [hsa, a1, a1', a2, a2', a3, a3', a4, a4', eq_true a5]
      refine xcall_fn c_awake (by simp) ?_
      simp
    have hdm := div_mod_small (a := a) (b := b) (by omega) (by omega) a5
    have c1 := c_Binary (P := P) 12 a b
    have c2 := c_Binary (P := P) 13 a b
    have c3 := c_Binary (P := P) 10 a b
    have e12 : binZ 12 a b = divZ a b := by simp [binZ]
    have e13 : binZ 13 a b = modZ a b := by simp [binZ]
    have e10 : binZ 10 a b = a - b := by
      have i1 : clipZ a = a := clip_id (by omega) (by omega)
      have i2 : clipZ b = b := clip_id (by omega) (by omega)
      have i3 : clipZ (-b) = -b := clip_id (by omega) (by omega)
      have i4 : clipZ (a + -b) = a + -b := clip_id (by omega) (by omega)
      simp only [binZ, addZ, show ¬ (10 : Int) = 9 by decide, if_false, if_true, i1, i2, i3, i4]
      omega
    rw [e12] at c1
    rw [e13] at c2
    rw [e10] at c3
    generalize divZ a b = q at *
    generalize modZ a b = m at *
    obtain ⟨d1, d2, d3⟩ := hdm
    have w1 : IntKind.i64.wrap (q * b) = q * b := i64_id (by omega) (by omega)
    have w2 : IntKind.i64.wrap (q * b + m) = a := by rw [i64_id (by omega) (by omega)]; omega
    have w3 : IntKind.i64.wrap (-m) = -m := i64_id (by omega) (by omega)
    have w4 : IntKind.i64.wrap (-b) = -b := i64_id (by omega) (by omega)
    have w5 : IntKind.i64.wrap (a - b) = a - b := i64_id (by omega) (by omega)
    simp [hsa, a1, a1', a2, a2', a3, a3', a4, a4', a5]
    refine xcall_fn c1 (by simp) ?_
    simp
    refine xcall_fn c2 (by simp) ?_
    by_cases m0 : m = 0
    case' pos => simp [w1, w2, w3, w4, w5, eq_true m0, d3]
    case' neg =>
      by_cases p : 0 < m
      case' pos =>
        have p' : 0 < b := (d2.resolve_left m0).1 p
        simp [w1, w2, w3, w4, w5, m0, d3, p, p']
      case' neg =>
        have p' : ¬ 0 < b := fun z => p ((d2.resolve_left m0).2 z)
        simp [w1, w2, w3, w4, w5, m0, d3, p, p']
    all_goals
      refine xcall_fn c3 (by simp) ?_
      simp [w5]
      refine xcall_fn c_awake (by simp) ?_
      simp
end Go.Proofs.Ytnahhdbheeinfaa
