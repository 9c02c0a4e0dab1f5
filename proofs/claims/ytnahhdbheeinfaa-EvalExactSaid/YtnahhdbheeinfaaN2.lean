/- Chapter 15: values of expressions: the bounded integers, over any program that has the text. -/
import Derived.Test.YtnahhdbheeinfaaTy
import Derived.Lib.Mul64
namespace Go.Proofs.Ytnahhdbheeinfaa
open Go.AL
variable {P : Program} [h : Facts P]

def clipZ (n : Int) : Int := max (-1000000000000) (min n 1000000000000)
theorem clip_b (n : Int) : -1000000000000 ≤ clipZ n ∧ clipZ n ≤ 1000000000000 := by unfold clipZ; omega
theorem clip_id {n : Int} (h1 : -1000000000000 ≤ n) (h2 : n ≤ 1000000000000) : clipZ n = n := by unfold clipZ; omega
theorem clip_clip (n : Int) : clipZ (clipZ n) = clipZ n := clip_id (clip_b n).1 (clip_b n).2
def addZ (a b : Int) : Int := clipZ (clipZ a + clipZ b)
def mulZ (a b : Int) : Int := clipZ (clipZ a * clipZ b)
def divC (x y : Int) : Int := if y = 0 then 0 else if x.tmod y ≠ 0 ∧ ¬ (decide (x < 0) = decide (y < 0)) then x.tdiv y - 1 else x.tdiv y
def divZ (a b : Int) : Int := divC (clipZ a) (clipZ b)
def modZ (a b : Int) : Int := clipZ a - clipZ b * divZ a b
theorem c_Clip (n : Int) : FCall P 40 [.int .i64 n] (fun r => r = .int .i64 (clipZ n)) := by
  refine fcall_of h.f40 rfl (by decide) h.mo (by kernel_rfl) fun X hX => ?_
  simp [clipZ]
theorem c_RClip (n : Int) : FCall P 24 [.int .i64 n] (fun r => r = .int .i64 (clipZ n)) := by
  refine fcall_of h.f24 rfl (by decide) h.mo (by kernel_rfl) fun X hX => ?_
  by_cases a : 1000000000000 < n
  · have e : clipZ n = 1000000000000 := by unfold clipZ; omega
    simp [a, e]
  by_cases b : n < -1000000000000
  · have e : clipZ n = -1000000000000 := by unfold clipZ; omega
    simp [a, b, e]
  have e : clipZ n = n := clip_id (by omega) (by omega)
  simp [a, b, e]
theorem c_Add (a b : Int) : FCall P 26 [.int .i64 a, .int .i64 b] (fun r => r = .int .i64 (addZ a b)) := by
  refine fcall_of h.f26 rfl (by decide) h.mo (by kernel_rfl) fun X hX => ?_
  have h1 := clip_b a
  have h2 := clip_b b
  have w : IntKind.i64.wrap (clipZ a + clipZ b) = clipZ a + clipZ b := i64_id (by omega) (by omega)
  simp
  refine xcall_fn (c_Clip a) (by simp) ?_
  simp
  refine xcall_fn (c_Clip b) (by simp) ?_
  simp [w]
  refine xcall_fn (c_Clip (clipZ a + clipZ b)) (by simp) ?_
  simp [addZ]
theorem c_RAdd (a b : Int) : FCall P 31 [.int .i64 a, .int .i64 b] (fun r => r = .int .i64 (addZ a b)) := by
  refine fcall_of h.f31 rfl (by decide) h.mo (by kernel_rfl) fun X hX => ?_
  have h1 := clip_b a
  have h2 := clip_b b
  have w : IntKind.i64.wrap (clipZ a + clipZ b) = clipZ a + clipZ b := i64_id (by omega) (by omega)
  simp
  refine xcall_fn (c_RClip a) (by simp) ?_
  simp
  refine xcall_fn (c_RClip b) (by simp) ?_
  simp [w]
  refine xcall_fn (c_RClip (clipZ a + clipZ b)) (by simp) ?_
  simp [addZ]
def absZ (n : Int) : Int := if n < 0 then -n else n
theorem c_size (n : Int) (h1 : -1000000000000 ≤ n) (h2 : n ≤ 1000000000000) : FCall P 42 [.int .i64 n] (fun r => r = .int .i64 (absZ n)) := by
  refine fcall_of h.f42 rfl (by decide) h.mo (by kernel_rfl) fun X hX => ?_
  have w : IntKind.i64.wrap (0 - n) = 0 - n := i64_id (by omega) (by omega)
  have e : max n (-n) = absZ n := by unfold absZ; split <;> omega
  simp at w
  simp [w, e]
theorem c_RAbs (n : Int) (h1 : -1000000000000 ≤ n) (h2 : n ≤ 1000000000000) : FCall P 43 [.int .i64 n] (fun r => r = .int .i64 (absZ n)) := by
  refine fcall_of h.f43 rfl (by decide) h.mo (by kernel_rfl) fun X hX => ?_
  have w : IntKind.i64.wrap (0 - n) = 0 - n := i64_id (by omega) (by omega)
  simp at w
  by_cases q : n < 0 <;> simp [q, w, absZ]
end Go.Proofs.Ytnahhdbheeinfaa
