/- Chapter 15: values of expressions: quotients and the operators, over any program that has the text. -/
import Derived.Test.YtnahhdbheeinfaaN3
namespace Go.Proofs.Ytnahhdbheeinfaa
open Go.AL
variable {P : Program} [h : Facts P]

theorem tdiv_b {x : Int} (y : Int) (h1 : -1000000000000 ≤ x) (h2 : x ≤ 1000000000000) : -1000000000000 ≤ x.tdiv y ∧ x.tdiv y ≤ 1000000000000 := by
  have e : (x.tdiv y).natAbs = x.natAbs / y.natAbs := Int.natAbs_tdiv x y
  have := Nat.div_le_self x.natAbs y.natAbs
  omega
theorem divC_b {x : Int} (y : Int) (h1 : -1000000000000 ≤ x) (h2 : x ≤ 1000000000000) : -1000000000001 ≤ divC x y ∧ divC x y ≤ 1000000000000 := by
  have := tdiv_b y h1 h2
  unfold divC
  split
  · omega
  split <;> omega
set_option maxHeartbeats 2000000 in
theorem c_Div (a b : Int) : FCall P 28 [.int .i64 a, .int .i64 b] (fun r => r = .int .i64 (divZ a b)) := by
  refine fcall_of h.f28 rfl (by decide) h.mo (by kernel_rfl) fun X hX => ?_
  have h1 := clip_b a
  have h2 := clip_b b
  unfold divZ divC
  simp
  refine xcall_fn (c_Clip a) (by simp) ?_
  simp
  refine xcall_fn (c_Clip b) (by simp) ?_
  generalize clipZ a = x at *
  generalize clipZ b = y at *
  by_cases y0 : y = 0
  · simp [y0]
  have hb := tdiv_b y h1.1 h1.2
  have w1 : IntKind.i64.wrap (x.tdiv y) = x.tdiv y := i64_id (by omega) (by omega)
  have w2 : IntKind.i64.wrap (x.tdiv y - 1) = x.tdiv y - 1 := i64_id (by omega) (by omega)
  by_cases m0 : x.tmod y = 0
  · simp [y0, w1, m0]
  · by_cases p : x < 0 <;> by_cases q : y < 0 <;> simp [y0, w1, w2, m0, p, q]
set_option maxHeartbeats 2000000 in
theorem c_RDiv (a b : Int) : FCall P 33 [.int .i64 a, .int .i64 b] (fun r => r = .int .i64 (divZ a b)) := by
  refine fcall_of h.f33 rfl (by decide) h.mo (by kernel_rfl) fun X hX => ?_
  have h1 := clip_b a
  have h2 := clip_b b
  unfold divZ divC
  simp
  refine xcall_fn (c_RClip a) (by simp) ?_
  simp
  refine xcall_fn (c_RClip b) (by simp) ?_
  generalize clipZ a = x at *
  generalize clipZ b = y at *
  by_cases y0 : y = 0
  · simp [y0]
  have hb := tdiv_b y h1.1 h1.2
  have w1 : IntKind.i64.wrap (x.tdiv y) = x.tdiv y := i64_id (by omega) (by omega)
  have w2 : IntKind.i64.wrap (x.tdiv y - 1) = x.tdiv y - 1 := i64_id (by omega) (by omega)
  by_cases m0 : x.tmod y = 0
  · simp [y0, w1, m0]
  · by_cases p : x < 0 <;> by_cases q : y < 0 <;> simp [y0, w1, w2, m0, p, q]
theorem mul_divC_b {x y : Int} (h1 : -1000000000000 ≤ x) (h2 : x ≤ 1000000000000) (h3 : -1000000000000 ≤ y) (h4 : y ≤ 1000000000000) : -2000000000000 ≤ y * divC x y ∧ y * divC x y ≤ 2000000000000 := by
  unfold divC
  split
  · simp
  rename_i y0
  have hd := Int.mul_tdiv_add_tmod x y
  have hlt : (x.tmod y).natAbs ≤ x.natAbs := by
    rw [Int.natAbs_tmod]; exact Nat.mod_le _ _
  split
  · rw [Int.mul_sub, Int.mul_one]
    have hlt2 : (x.tmod y).natAbs < y.natAbs := by
      rw [Int.natAbs_tmod]; exact Nat.mod_lt _ (by omega)
    rename_i hc
    have hsg : (0 ≤ x → 0 ≤ x.tmod y) ∧ (x ≤ 0 → x.tmod y ≤ 0) := by
      refine ⟨fun q => Int.tmod_nonneg _ q, fun q => ?_⟩
      have := Int.tmod_nonneg y (show 0 ≤ -x by omega)
      rw [Int.neg_tmod] at this; omega
    have hs' : (x < 0 ∧ 0 < y) ∨ (0 ≤ x ∧ y < 0) := by
      have := hc.2
      by_cases p : x < 0 <;> by_cases r : y < 0 <;> simp [p, r] at this <;> omega
    omega
  · omega
theorem c_Mod (a b : Int) : FCall P 29 [.int .i64 a, .int .i64 b] (fun r => r = .int .i64 (modZ a b)) := by
  refine fcall_of h.f29 rfl (by decide) h.mo (by kernel_rfl) fun X hX => ?_
  have h1 := clip_b a
  have h2 := clip_b b
  have hb := mul_divC_b h1.1 h1.2 h2.1 h2.2
  have hd : divZ (clipZ a) (clipZ b) = divZ a b := by unfold divZ; rw [clip_clip, clip_clip]
  have he : divZ a b = divC (clipZ a) (clipZ b) := rfl
  rw [← he] at hb
  have w1 : IntKind.i64.wrap (clipZ b * divZ a b) = clipZ b * divZ a b := i64_id (by omega) (by omega)
  have w2 : IntKind.i64.wrap (clipZ a - clipZ b * divZ a b) = clipZ a - clipZ b * divZ a b := i64_id (by omega) (by omega)
  simp
  refine xcall_fn (c_Clip a) (by simp) ?_
  simp
  refine xcall_fn (c_Clip b) (by simp) ?_
  simp
  refine xcall_fn (c_Div (clipZ a) (clipZ b)) (by simp) ?_
  simp [hd, w1, w2, modZ]
theorem c_RMod (a b : Int) : FCall P 34 [.int .i64 a, .int .i64 b] (fun r => r = .int .i64 (modZ a b)) := by
  refine fcall_of h.f34 rfl (by decide) h.mo (by kernel_rfl) fun X hX => ?_
  have h1 := clip_b a
  have h2 := clip_b b
  have hb := mul_divC_b h1.1 h1.2 h2.1 h2.2
  have he : divZ a b = divC (clipZ a) (clipZ b) := rfl
  rw [← he] at hb
  have w1 : IntKind.i64.wrap (clipZ b * divZ a b) = clipZ b * divZ a b := i64_id (by omega) (by omega)
  have w2 : IntKind.i64.wrap (clipZ a - clipZ b * divZ a b) = clipZ a - clipZ b * divZ a b := i64_id (by omega) (by omega)
  simp
  refine xcall_fn (c_RClip a) (by simp) ?_
  simp
  refine xcall_fn (c_RClip b) (by simp) ?_
  simp
  refine xcall_fn (c_RDiv a b) (by simp) ?_
  simp [w1, w2, modZ]
theorem c_truth (b : Bool) : FCall P 23 [.bool b] (fun r => r = .int .i64 (oneZ b)) := by
  refine fcall_of h.f23 rfl (by decide) h.mo (by kernel_rfl) fun X hX => ?_
  cases b <;> simp [oneZ]
theorem c_One (b : Bool) : FCall P 25 [.bool b] (fun r => r = .int .i64 (oneZ b)) := by
  refine fcall_of h.f25 rfl (by decide) h.mo (by kernel_rfl) fun X hX => ?_
  cases b <;> simp [oneZ]
theorem c_negated (a : Int) : FCall P 22 [.int .i64 a] (fun r => r = .int .i64 (-clipZ a)) := by
  refine fcall_of h.f22 rfl (by decide) h.mo (by kernel_rfl) fun X hX => ?_
  have h1 := clip_b a
  have w : IntKind.i64.wrap (-clipZ a) = -clipZ a := i64_id (by omega) (by omega)
  simp
  refine xcall_fn (c_Clip a) (by simp) ?_
  simp [w]
theorem c_holds (op a b : Int) : FCall P 30 [.int .i64 op, .int .i64 a, .int .i64 b] (fun r => r = .bool (holdsB op a b)) := by
  refine fcall_of h.f30 rfl (by decide) h.mo (by kernel_rfl) fun X hX => ?_
  unfold holdsB
  by_cases e1 : op = 14
  · simp [e1]
  by_cases e2 : op = 15
  · simp [e2]
  by_cases e3 : op = 16
  · simp [e3]
  by_cases e4 : op = 17
  · simp [e4]
  by_cases e5 : op = 18
  · by_cases p : a = 0 <;> simp [e5, p]
  by_cases e6 : op = 19
  · by_cases p : a = 0 <;> simp [e6, p]
  simp [e1, e2, e3, e4, e5, e6]
theorem c_Unary (op a : Int) : FCall P 9 [.int .i64 op, .int .i64 a] (fun r => r = .int .i64 (unZ op a)) := by
  refine fcall_of h.f9 rfl (by decide) h.mo (by kernel_rfl) fun X hX => ?_
  unfold unZ
  by_cases e1 : op = 5
  · simp [e1]
    refine xcall_fn (c_negated a) (by simp) ?_
    simp
  by_cases e2 : op = 6
  · simp [e2]
    refine xcall_fn (c_truth (decide (a = 0))) (by simp) ?_
    simp
  by_cases e3 : op = 7
  · simp [e3]
  by_cases e4 : op = 8
  · simp [e4]
  simp [e1, e2, e3, e4]
theorem c_RUnary (op a : Int) : FCall P 10 [.int .i64 op, .int .i64 a] (fun r => r = .int .i64 (unZ op a)) := by
  refine fcall_of h.f10 rfl (by decide) h.mo (by kernel_rfl) fun X hX => ?_
  unfold unZ
  have h1 := clip_b a
  have w : IntKind.i64.wrap (-clipZ a) = -clipZ a := i64_id (by omega) (by omega)
  by_cases e1 : op = 5
  · simp [e1]
    refine xcall_fn (c_RClip a) (by simp) ?_
    simp [w]
  by_cases e2 : op = 6
  · simp [e2]
    refine xcall_fn (c_One (decide (a = 0))) (by simp) ?_
    simp
  by_cases e3 : op = 7
  · simp [e3]
  by_cases e4 : op = 8
  · simp [e4]
  simp [e1, e2, e3, e4]
set_option maxHeartbeats 1000000 in
theorem c_Binary (op a b : Int) : FCall P 11 [.int .i64 op, .int .i64 a, .int .i64 b] (fun r => r = .int .i64 (binZ op a b)) := by
  refine fcall_of h.f11 rfl (by decide) h.mo (by kernel_rfl) fun X hX => ?_
  unfold binZ
  by_cases e1 : op = 9
  · simp [e1]
    refine xcall_fn (c_Add a b) (by simp) ?_
    simp
  by_cases e2 : op = 10
  · simp [e2]
    refine xcall_fn (c_negated b) (by simp) ?_
    simp
    refine xcall_fn (c_Add a (-clipZ b)) (by simp) ?_
    simp
  by_cases e3 : op = 11
  · simp [e3]
    refine xcall_fn (c_Mul a b) (by simp) ?_
    simp
  by_cases e4 : op = 12
  · simp [e4]
    refine xcall_fn (c_Div a b) (by simp) ?_
    simp
  by_cases e5 : op = 13
  · simp [e5]
    refine xcall_fn (c_Mod a b) (by simp) ?_
    simp
  by_cases e6 : op = 20
  · simp [e6]
  by_cases e7 : op = 21
  · simp [e7]
  simp [e1, e2, e3, e4, e5, e6, e7]
  refine xcall_fn (c_holds op a b) (by simp) ?_
  simp
  refine xcall_fn (c_truth (holdsB op a b)) (by simp) ?_
  simp
end Go.Proofs.Ytnahhdbheeinfaa
