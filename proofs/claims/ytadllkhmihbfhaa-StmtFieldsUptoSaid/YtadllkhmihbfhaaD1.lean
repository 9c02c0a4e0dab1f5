/- Chapter 10: statements: the form of a distribution, over any program that has the text. -/
import Derived.Test.YtadllkhmihbfhaaC1
namespace Go.Proofs.Ytadllkhmihbfhaa
open Go.AL
variable {P : Program} [h : Facts P]

def bwB (lo hi n : Int) : Bool := decide (lo ≤ n) && decide (n ≤ hi)
theorem c_IndexFunc (p : Int → Bool) (fid : FuncId) (caps : List A) (l : List (Int)) (hl : l.length ≤ 9223372036854775807) (hn : noidL caps = true) (hp : ∀ x ∈ l, FCall P fid (.int .i64 x :: caps) (fun r => r = .bool (p x))) :
    FCall P 103 [Ls false l, .fn fid caps] (fun r => r = .int .i64 (idxZ p l)) := by
  refine fcall_of h.f103 rfl (by decide) h.mo (by kernel_rfl) fun X hX => ?_
  simp
  refine awp_loop (σ := Nat) (fun k => (⟨[Ls false l, .fn fid caps, .any, .any, .any, .any, .any, .int .i64 l.length, .int .i64 k, .any, .any, .any, .any, .any, .any, .any, .any, .any, .any], []⟩ : S)) (fun k => k ≤ l.length ∧ ∀ j (hj : j < l.length), j < k → p l[j] = false) (fun k => l.length - k) 0 (Wk.slots (by simp)) ⟨by omega, by simp⟩ ?_
  rintro k ⟨hk, hinv⟩
  refine vc_sound h.mo _ _ _ (by kernel_rfl) ?_
  rcases Nat.lt_or_ge k l.length with hlt | hge
  · have hk1 := wrap_succ hlt hl
    simp [hlt]
    refine xcall_noid (hp _ (List.getElem_mem hlt)) (by simp [hn]) ?_
    rintro _ rfl
    simp
    refine ⟨fun g => (idxZ_at hlt g hinv).symm, fun g => ⟨k + 1, Wk.ren 0 [] hX rfl (by decide) (by simp [hk1, leL_noid hn]) (by simp [hasRL_noid hn]) (by simp) (by simp), ⟨by omega, step_no hinv hlt g⟩, by omega⟩⟩
  · have hge2 : ¬ k < l.length := by omega
    simp [hge2]
    exact (idxZ_no fun j hj => hinv j hj (by omega)).symm

theorem c_ContainsFunc (p : Int → Bool) (fid : FuncId) (caps : List A) (l : List (Int)) (hl : l.length ≤ 9223372036854775807) (hn : noidL caps = true) (hp : ∀ x ∈ l, FCall P fid (.int .i64 x :: caps) (fun r => r = .bool (p x))) :
    FCall P 97 [Ls false l, .fn fid caps] (fun r => r = .bool (l.any p)) := by
  refine fcall_of h.f97 rfl (by decide) h.mo (by kernel_rfl) fun X hX => ?_
  simp
  refine xcall_noid (c_IndexFunc p fid caps l hl hn hp) (by simp [hn]) ?_
  rintro _ rfl
  simp [idxZ_nonneg, -List.any_eq_true]


theorem c_within1 (lo hi n : Int) : FCall P 98 [.int .i64 n, .ptr (.int .i64 lo), .ptr (.int .i64 hi)] (fun r => r = .bool (!bwB lo hi n)) := by
  refine fcall_of h.f98 rfl (by decide) h.mo (by kernel_rfl) fun X hX => ?_
  by_cases h1 : lo ≤ n <;> by_cases h2 : n ≤ hi <;> simp [bwB, h1, h2] <;> omega
theorem any_bw (lo hi : Int) (l : List Int) : l.any (fun n => !bwB lo hi n) = !l.all (bwB lo hi) := by
  induction l with
  | nil => rfl
  | cons x l ih => rw [List.any_cons, List.all_cons, ih, Bool.not_and]
theorem c_within (lo hi : Int) (l : List Int) (hl : l.length ≤ 9223372036854775807) : FCall P 80 [.int .i64 lo, .int .i64 hi, Ls false l] (fun r => r = .bool (l.all (bwB lo hi))) := by
  refine fcall_ofB [1] h.f80 rfl (by decide) h.mo (by kernel_rfl) fun X hX => ?_
  simp
  refine awp_fz 0 (by rfl) (by simp) ?_
  refine awp_fz 1 (by rfl) (by simp) ?_
  simp
  refine awp_ops ?_
  simp
  refine xcall_noid (c_ContainsFunc (fun n => !bwB lo hi n) _ _ l hl rfl fun n _ => c_within1 lo hi n) (by simp) ?_
  rintro _ rfl
  rw [any_bw]
  cases hq : l.all (bwB lo hi) <;> simp
theorem len_zero (vs ws : List Int) (hv : vs.length ≤ 9223372036854775807) (hw : ws.length ≤ 9223372036854775807) : IntKind.i64.wrap ((vs.length : Int) + (ws.length : Int)) = 0 ↔ vs = [] ∧ ws = [] := by
  rw [IntKind.wrap_i64]
  constructor
  · intro q
    exact ⟨List.eq_nil_of_length_eq_zero (by omega), List.eq_nil_of_length_eq_zero (by omega)⟩
  · rintro ⟨rfl, rfl⟩
    rfl
def noL (vs ws : List Int) : Bool := decide (vs = [] ∧ ws = [])
/-- The fields that a form does not use are zero. -/
def unuB (d : TDist) : Bool :=
  if d.fOp = 1 then noL d.fValues d.fWeights && (decide (d.fB = 0) && decide (d.fN = 0))
  else if d.fOp = 2 ∨ d.fOp = 5 then noL d.fValues d.fWeights && decide (d.fN = 0)
  else if d.fOp = 4 then noL d.fValues d.fWeights
  else if d.fOp = 3 then decide (d.fA = 0) && (decide (d.fB = 0) && decide (d.fN = 0))
  else false
set_option maxHeartbeats 4000000 in
theorem c_unused (d : TDist) (hv : d.fValues.length ≤ 9223372036854775807) (hw : d.fWeights.length ≤ 9223372036854775807) : FCall P 79 [.agg d.cells] (fun r => r = .bool (unuB d)) := by
  refine fcall_of h.f79 rfl (by decide) h.mo (by kernel_rfl) fun X hX => ?_
  obtain ⟨op, A, B, N, vs, ws⟩ := d
  simp only at hv hw
  have hq : (IntKind.i64.wrap ((vs.length : Int) + (ws.length : Int)) = 0) = (noL vs ws = true) := propext (by rw [len_zero vs ws hv hw, noL, decide_eq_true_iff])
  unfold unuB
  by_cases o1 : op = 1
  · simp [o1, hq]
    cases noL vs ws <;> by_cases b : B = 0 <;> by_cases n : N = 0 <;> simp [b, n]
  by_cases o2 : op = 2
  · simp [o2, hq]
    cases noL vs ws <;> by_cases n : N = 0 <;> simp [n]
  by_cases o5 : op = 5
  · simp [o5, hq]
    cases noL vs ws <;> by_cases n : N = 0 <;> simp [n]
  by_cases o4 : op = 4
  · simp [o4, hq]
  by_cases o3 : op = 3
  · simp [o3]
    by_cases a : A = 0 <;> by_cases b : B = 0 <;> by_cases n : N = 0 <;> simp [a, b, n]
  simp [o1, o2, o3, o4, o5]
set_option maxHeartbeats 4000000 in
theorem c_Runused (d : TDist) : FCall P 85 [.agg d.cells] (fun r => r = .bool (unuB d)) := by
  refine fcall_of h.f85 rfl (by decide) h.mo (by kernel_rfl) fun X hX => ?_
  obtain ⟨op, A, B, N, vs, ws⟩ := d
  unfold unuB noL
  by_cases o1 : op = 1
  · simp [o1]
    by_cases v0 : vs = [] <;> by_cases w0 : ws = [] <;> by_cases b : B = 0 <;> by_cases n : N = 0 <;> simp [v0, w0, b, n]
  by_cases o2 : op = 2
  · simp [o2]
    by_cases v0 : vs = [] <;> by_cases w0 : ws = [] <;> by_cases n : N = 0 <;> simp [v0, w0, n]
  by_cases o5 : op = 5
  · simp [o5]
    by_cases v0 : vs = [] <;> by_cases w0 : ws = [] <;> by_cases n : N = 0 <;> simp [v0, w0, n]
  by_cases o4 : op = 4
  · simp [o4]
    by_cases v0 : vs = [] <;> by_cases w0 : ws = [] <;> simp [v0, w0]
  by_cases o3 : op = 3
  · simp [o3]
    by_cases a : A = 0 <;> by_cases b : B = 0 <;> by_cases n : N = 0 <;> simp [a, b, n]
  simp [o1, o2, o3, o4, o5]
end Go.Proofs.Ytadllkhmihbfhaa
