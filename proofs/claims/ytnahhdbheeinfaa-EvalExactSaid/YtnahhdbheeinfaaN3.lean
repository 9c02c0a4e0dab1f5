/- Chapter 15: values of expressions: products and quotients, over any program that has the text. -/
import Derived.Test.YtnahhdbheeinfaaP1
namespace Go.Proofs.Ytnahhdbheeinfaa
open Go.AL
variable {P : Program} [h : Facts P]

theorem half_mul {p q : Int} (h0 : 0 ≤ p) (h1 : p ≤ 4294967295) (k0 : 0 ≤ q) (k1 : q ≤ 4294967295) : 0 ≤ p * q ∧ p * q ≤ 18446744065119617025 :=
  ⟨Int.mul_nonneg h0 k0, by have := Int.mul_le_mul h1 k1 k0 (by decide); omega⟩
theorem split_mulZ (p q r s : Int) : (4294967296 * p + q) * (4294967296 * r + s) = 18446744073709551616 * (p * r) + 4294967296 * (p * s) + 4294967296 * (q * r) + q * s := by
  rw [Int.add_mul, Int.mul_add, Int.mul_add, Int.mul_assoc 4294967296 p (4294967296 * r), Int.mul_left_comm p 4294967296 r, Int.mul_assoc 4294967296 p s, Int.mul_left_comm q 4294967296 r]
  omega
theorem u64_id {a : Int} (h0 : 0 ≤ a) (h1 : a < 18446744073709551616) : IntKind.u64.wrap a = a := by rw [IntKind.wrap_u64]; omega
set_option maxHeartbeats 1000000 in
theorem c_Mul64 (x y : Int) (hx0 : 0 ≤ x) (hx : x < 18446744073709551616) (hy0 : 0 ≤ y) (hy : y < 18446744073709551616) : FCall P 41 [.int .u64 x, .int .u64 y] (fun r => r = .tup [.int .u64 (x * y / 18446744073709551616), .int .u64 (x * y % 18446744073709551616)]) := by
  have ha := half_mul (p := x / 4294967296) (q := y / 4294967296) (by omega) (by omega) (by omega) (by omega)
  have hb := half_mul (p := x / 4294967296) (q := y % 4294967296) (by omega) (by omega) (by omega) (by omega)
  have hc := half_mul (p := x % 4294967296) (q := y / 4294967296) (by omega) (by omega) (by omega) (by omega)
  have hd := half_mul (p := x % 4294967296) (q := y % 4294967296) (by omega) (by omega) (by omega) (by omega)
  have he : x * y = 18446744073709551616 * (x / 4294967296 * (y / 4294967296)) + 4294967296 * (x / 4294967296 * (y % 4294967296)) + 4294967296 * (x % 4294967296 * (y / 4294967296)) + x % 4294967296 * (y % 4294967296) := by
    rw [← split_mulZ, Int.mul_ediv_add_emod, Int.mul_ediv_add_emod]
  have hlo : IntKind.u64.wrap (x * y) = x * y % 18446744073709551616 := by rw [IntKind.wrap_u64]
  refine fcall_of h.f41 rfl (by decide) h.mo (by kernel_rfl) fun X hX => ?_
  have w1 := u64_id hd.1 (by omega)
  have w2 := u64_id hb.1 (by omega)
  have w3 := u64_id hc.1 (by omega)
  have w4 := u64_id ha.1 (by omega)
  simp [hx0, hy0, hlo, w1, w2, w3, w4]
  generalize x / 4294967296 * (y / 4294967296) = a at *
  generalize x / 4294967296 * (y % 4294967296) = b at *
  generalize x % 4294967296 * (y / 4294967296) = c at *
  generalize x % 4294967296 * (y % 4294967296) = d at *
  have v1 : IntKind.u64.wrap (b + d / 4294967296) = b + d / 4294967296 := u64_id (by omega) (by omega)
  have v0 : 0 ≤ b + d / 4294967296 := by omega
  have v2 : IntKind.u64.wrap ((b + d / 4294967296) % 4294967296 + c) = (b + d / 4294967296) % 4294967296 + c := u64_id (by omega) (by omega)
  have v3 : IntKind.u64.wrap (a + (b + d / 4294967296) / 4294967296) = a + (b + d / 4294967296) / 4294967296 := u64_id (by omega) (by omega)
  have v4 : IntKind.u64.wrap (a + (b + d / 4294967296) / 4294967296 + ((b + d / 4294967296) % 4294967296 + c) / 4294967296) = a + (b + d / 4294967296) / 4294967296 + ((b + d / 4294967296) % 4294967296 + c) / 4294967296 := u64_id (by omega) (by omega)
  simp [v0, v1, v2, v3, v4]
  omega
theorem abs_b {n : Int} (h1 : -1000000000000 ≤ n) (h2 : n ≤ 1000000000000) : 0 ≤ absZ n ∧ absZ n ≤ 1000000000000 := by unfold absZ; split <;> omega
theorem mul_abs (x y : Int) : x * y = if decide (x < 0) = decide (y < 0) then absZ x * absZ y else -(absZ x * absZ y) := by
  unfold absZ
  by_cases p : x < 0 <;> by_cases q : y < 0 <;> simp [p, q, Int.neg_mul, Int.mul_neg]
set_option maxHeartbeats 2000000 in
theorem c_Mul (a b : Int) : FCall P 27 [.int .i64 a, .int .i64 b] (fun r => r = .int .i64 (mulZ a b)) := by
  refine fcall_of h.f27 rfl (by decide) h.mo (by kernel_rfl) fun X hX => ?_
  have h1 := clip_b a
  have h2 := clip_b b
  have e0 := mul_abs (clipZ a) (clipZ b)
  unfold mulZ
  simp
  refine xcall_fn (c_Clip a) (by simp) ?_
  simp
  refine xcall_fn (c_Clip b) (by simp) ?_
  generalize clipZ a = x at *
  generalize clipZ b = y at *
  have a1 := abs_b h1.1 h1.2
  have a2 := abs_b h2.1 h2.2
  have m0 : 0 ≤ absZ x * absZ y := Int.mul_nonneg a1.1 a2.1
  have u1 : IntKind.u64.wrap (absZ x) = absZ x := u64_id (by omega) (by omega)
  have u2 : IntKind.u64.wrap (absZ y) = absZ y := u64_id (by omega) (by omega)
  simp
  refine xcall_fn (c_size x h1.1 h1.2) (by simp) ?_
  simp [u1]
  refine xcall_fn (c_size y h2.1 h2.2) (by simp) ?_
  simp [u2]
  refine xcall_fn (c_Mul64 (absZ x) (absZ y) (by omega) (by omega) (by omega) (by omega)) (by simp) ?_
  rw [e0]
  generalize absZ x * absZ y = M at *
  have hcl : clipZ M = (if M / 18446744073709551616 = 0 ∧ M % 18446744073709551616 < 1000000000000 then M % 18446744073709551616 else 1000000000000) := by
    unfold clipZ; split <;> omega
  have hcn : clipZ (-M) = -clipZ M := by unfold clipZ; omega
  have wc : IntKind.i64.wrap (-1000000000000) = -1000000000000 := by decide
  by_cases c1 : M / 18446744073709551616 = 0
  · by_cases c2 : M % 18446744073709551616 < 1000000000000
    · rw [if_pos ⟨c1, c2⟩] at hcl
      have w : IntKind.i64.wrap (M % 18446744073709551616) = M % 18446744073709551616 := i64_id (by omega) (by omega)
      have w' : IntKind.i64.wrap (-(M % 18446744073709551616)) = -(M % 18446744073709551616) := i64_id (by omega) (by omega)
      by_cases p : x < 0 <;> by_cases q : y < 0 <;> simp [c1, c2, p, q, w, w', hcl, hcn]
    · rw [if_neg (fun q => c2 q.2)] at hcl
      by_cases p : x < 0 <;> by_cases q : y < 0 <;> simp [c1, c2, p, q, hcl, hcn, wc]
  · rw [if_neg (fun q => c1 q.1)] at hcl
    by_cases p : x < 0 <;> by_cases q : y < 0 <;> simp [c1, p, q, hcl, hcn, wc]
theorem abs_mul_le {x y : Int} (hx : 0 < absZ x) : absZ y ≤ Int.tdiv 1000000000000 (absZ x) ↔ absZ x * absZ y ≤ 1000000000000 := by
  rw [Int.tdiv_eq_ediv_of_nonneg (by decide), Int.le_ediv_iff_mul_le hx, Int.mul_comm]
set_option maxHeartbeats 2000000 in
theorem c_RMul (a b : Int) : FCall P 32 [.int .i64 a, .int .i64 b] (fun r => r = .int .i64 (mulZ a b)) := by
  refine fcall_of h.f32 rfl (by decide) h.mo (by kernel_rfl) fun X hX => ?_
  have h1 := clip_b a
  have h2 := clip_b b
  have e0 := mul_abs (clipZ a) (clipZ b)
  unfold mulZ
  simp
  refine xcall_fn (c_RClip a) (by simp) ?_
  simp
  refine xcall_fn (c_RClip b) (by simp) ?_
  generalize clipZ a = x at *
  generalize clipZ b = y at *
  have a1 := abs_b h1.1 h1.2
  have a2 := abs_b h2.1 h2.2
  have hz : clipZ 0 = 0 := by decide
  by_cases x0 : x = 0
  · simp [x0, hz]
  by_cases y0 : y = 0
  · simp [x0, y0, hz]
  have ax : 0 < absZ x := by unfold absZ; split <;> omega
  have ax' : ¬ absZ x = 0 := by omega
  have hle := abs_mul_le (y := y) ax
  have hw : IntKind.i64.wrap (Int.tdiv 1000000000000 (absZ x)) = Int.tdiv 1000000000000 (absZ x) := by
    rw [Int.tdiv_eq_ediv_of_nonneg (by decide)]
    have := Int.ediv_le_self (a := 1000000000000) (absZ x) (by decide)
    have := Int.ediv_nonneg (a := 1000000000000) (b := absZ x) (by decide) (by omega)
    exact i64_id (by omega) (by omega)
  have m0 : 0 ≤ absZ x * absZ y := Int.mul_nonneg a1.1 a2.1
  simp [x0, y0]
  refine xcall_fn (c_RAbs y h2.1 h2.2) (by simp) ?_
  simp
  refine xcall_fn (c_RAbs x h1.1 h1.2) (by simp) ?_
  by_cases c1 : absZ y ≤ Int.tdiv 1000000000000 (absZ x)
  · have c2 := hle.1 c1
    have hb : -1000000000000 ≤ x * y ∧ x * y ≤ 1000000000000 := by rw [e0]; split <;> omega
    have hb' : IntKind.i64.wrap (x * y) = x * y := i64_id (by omega) (by omega)
    simp [ax', hw, c1, hb', clip_id hb.1 hb.2]
  · have c2 : ¬ absZ x * absZ y ≤ 1000000000000 := fun q => c1 (hle.2 q)
    have c1' : Int.tdiv 1000000000000 (absZ x) < absZ y := by omega
    rw [e0]
    generalize absZ x * absZ y = M at *
    have k1 : clipZ M = 1000000000000 := by unfold clipZ; omega
    have k2 : clipZ (-M) = -1000000000000 := by unfold clipZ; omega
    by_cases p : x < 0 <;> by_cases q : y < 0 <;> simp [ax', hw, c1, p, q, k1, k2]
end Go.Proofs.Ytnahhdbheeinfaa
