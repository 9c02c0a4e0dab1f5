/- Chapter 10: expressions: forms, over any program that has the text. -/
import Derived.Test.YtadllkhmihbfhaaN1
namespace Go.Proofs.Ytadllkhmihbfhaa
open Go.AL
variable {P : Program} [h : Facts P]

def arity (op : Int) : Int := if op = 1 ∨ op = 2 ∨ op = 3 ∨ op = 4 then 0 else if 5 ≤ op ∧ op ≤ 8 then 1 else if 9 ≤ op ∧ op ≤ 21 then 2 else if 22 ≤ op ∧ op ≤ 26 then 0 else -1
def objB (op : Int) : Bool := decide (22 ≤ op) && decide (op ≤ 24)
def knownB (code : Bool) (op : Int) : Bool := if op = 3 then !code else if op = 25 ∨ op = 26 then code else decide (0 ≤ arity op)
def namedB (code : Bool) (op : Int) : Bool := decide (op = 3) || (objB op && !code)
def numP (code : Bool) (op : Int) : Int × Int × Bool := if op = 2 then (0, 1, true) else if op = 25 then (0, 15, true) else if op = 26 then (0, 31, true) else if objB op = true ∧ code = true then (0, 63, true) else (0, 0, false)
def inB (n : Int) : Bool := decide (-1000000000000 ≤ n) && decide (n ≤ 1000000000000)
theorem op_cases (op : Int) : (op = 1 ∨ op = 2 ∨ op = 3 ∨ op = 4) ∨ op < 1 ∨ (5 ≤ op ∧ op ≤ 8) ∨ (9 ≤ op ∧ op ≤ 21) ∨ (22 ≤ op ∧ op ≤ 26) ∨ 26 < op := by omega

theorem c_kids (op : Int) : FCall P 107 [.int .i64 op] (fun r => r = .int .i64 (arity op)) := by
  refine fcall_of h.f107 rfl (by decide) h.mo (by kernel_rfl) fun X hX => ?_
  unfold arity
  rcases op_cases op with (rfl | rfl | rfl | rfl) | c | c | c | c | c
  · simp
  · simp
  · simp
  · simp
  all_goals
    have n1 : ¬ op = 1 := by omega
    have n2 : ¬ op = 2 := by omega
    have n3 : ¬ op = 3 := by omega
    have n4 : ¬ op = 4 := by omega
    rw [if_neg (by omega)]
  · have a1 : ¬ 5 ≤ op := by omega
    have a2 : ¬ 9 ≤ op := by omega
    have a3 : ¬ 22 ≤ op := by omega
    simp [n1, n2, n3, n4, a1, a2, a3]
  · simp [n1, n2, n3, n4, c.1, c.2]
  · have a1 : 5 ≤ op := by omega
    have a2 : ¬ op ≤ 8 := by omega
    simp [n1, n2, n3, n4, a1, a2, c.1, c.2]
  · have a1 : 5 ≤ op := by omega
    have a2 : ¬ op ≤ 8 := by omega
    have a3 : 9 ≤ op := by omega
    have a4 : ¬ op ≤ 21 := by omega
    simp [n1, n2, n3, n4, a1, a2, a3, a4, c.1, c.2]
  · have a1 : 5 ≤ op := by omega
    have a2 : ¬ op ≤ 8 := by omega
    have a3 : 9 ≤ op := by omega
    have a4 : ¬ op ≤ 21 := by omega
    have a5 : 22 ≤ op := by omega
    have a6 : ¬ op ≤ 26 := by omega
    simp [n1, n2, n3, n4, a1, a2, a3, a4, a5, a6]
theorem c_Arity (op : Int) : FCall P 111 [.int .i64 op] (fun r => r = .int .i64 (arity op)) := by
  refine fcall_of h.f111 rfl (by decide) h.mo (by kernel_rfl) fun X hX => ?_
  unfold arity
  rcases op_cases op with (rfl | rfl | rfl | rfl) | c | c | c | c | c
  · simp
  · simp
  · simp
  · simp
  all_goals
    have n1 : ¬ op = 1 := by omega
    have n2 : ¬ op = 2 := by omega
    have n3 : ¬ op = 3 := by omega
    have n4 : ¬ op = 4 := by omega
    rw [if_neg (by omega)]
  · have a1 : ¬ 5 ≤ op := by omega
    have a2 : ¬ 9 ≤ op := by omega
    have a3 : ¬ 22 ≤ op := by omega
    simp [c, a1, a2, a3]
  · have a1 : ¬ op < 1 := by omega
    have a2 : ¬ 26 < op := by omega
    simp [a1, a2, c.1, c.2]
  · have a1 : ¬ op < 1 := by omega
    have a2 : ¬ 26 < op := by omega
    have a3 : 5 ≤ op := by omega
    have a4 : ¬ op ≤ 8 := by omega
    simp [a1, a2, a3, a4, c.1, c.2]
  · have a1 : ¬ op < 1 := by omega
    have a2 : ¬ 26 < op := by omega
    have a3 : 5 ≤ op := by omega
    have a4 : ¬ op ≤ 8 := by omega
    have a5 : 9 ≤ op := by omega
    have a6 : ¬ op ≤ 21 := by omega
    simp [a1, a2, a3, a4, a5, a6, c.1, c.2]
  · have a1 : ¬ op < 1 := by omega
    have a3 : 5 ≤ op := by omega
    have a4 : ¬ op ≤ 8 := by omega
    have a5 : 9 ≤ op := by omega
    have a6 : ¬ op ≤ 21 := by omega
    have a7 : 22 ≤ op := by omega
    have a8 : ¬ op ≤ 26 := by omega
    simp [a1, c, a3, a4, a5, a6, a7, a8]
theorem c_object (op : Int) : FCall P 115 [.int .i64 op] (fun r => r = .bool (objB op)) := by
  refine fcall_of h.f115 rfl (by decide) h.mo (by kernel_rfl) fun X hX => ?_
  by_cases a : 22 ≤ op <;> by_cases b : op ≤ 24 <;> simp [a, b, objB]
theorem c_Robject (op : Int) : FCall P 112 [.int .i64 op] (fun r => r = .bool (objB op)) := by
  refine fcall_of h.f112 rfl (by decide) h.mo (by kernel_rfl) fun X hX => ?_
  by_cases a : 22 ≤ op <;> by_cases b : op ≤ 24 <;> simp [a, b, objB]
theorem c_In (n : Int) : FCall P 109 [.int .i64 n] (fun r => r = .bool (inB n)) := by
  refine fcall_of h.f109 rfl (by decide) h.mo (by kernel_rfl) fun X hX => ?_
  by_cases a : -1000000000000 ≤ n <;> by_cases b : n ≤ 1000000000000 <;> simp [a, b, inB]
theorem c_RIn (n : Int) : FCall P 113 [.int .i64 n] (fun r => r = .bool (inB n)) := by
  refine fcall_of h.f113 rfl (by decide) h.mo (by kernel_rfl) fun X hX => ?_
  by_cases a : -1000000000000 ≤ n <;> by_cases b : n ≤ 1000000000000 <;> simp [a, b, inB]
theorem c_known (code : Bool) (op : Int) : FCall P 106 [.agg [.bool code], .int .i64 op] (fun r => r = .bool (knownB code op)) := by
  refine fcall_of h.f106 rfl (by decide) h.mo (by kernel_rfl) fun X hX => ?_
  by_cases a : op = 3
  · simp [a, knownB]
  by_cases b : op = 25
  · simp [b, knownB]
  by_cases c : op = 26
  · simp [c, knownB]
  simp [a, b, c, knownB]
  refine xcall_fn (c_kids op) (by simp) ?_
  simp
theorem c_named (code : Bool) (op : Int) : FCall P 108 [.agg [.bool code], .int .i64 op] (fun r => r = .bool (namedB code op)) := by
  refine fcall_of h.f108 rfl (by decide) h.mo (by kernel_rfl) fun X hX => ?_
  by_cases a : op = 3
  · simp [a, namedB]
  simp [a, namedB]
  refine xcall_fn (c_object op) (by simp) ?_
  cases objB op <;> simp
theorem c_numbers (code : Bool) (op : Int) : FCall P 110 [.agg [.bool code], .int .i64 op] (fun r => r = .tup [.int .i64 (numP code op).1, .int .i64 (numP code op).2.1, .bool (numP code op).2.2]) := by
  refine fcall_of h.f110 rfl (by decide) h.mo (by kernel_rfl) fun X hX => ?_
  by_cases a : op = 2
  · simp [a, numP]
  by_cases b : op = 25
  · simp [b, numP]
  by_cases c : op = 26
  · simp [c, numP]
  simp [a, b, c, numP]
  refine xcall_fn (c_object op) (by simp) ?_
  cases objB op <;> cases code <;> simp
end Go.Proofs.Ytadllkhmihbfhaa
