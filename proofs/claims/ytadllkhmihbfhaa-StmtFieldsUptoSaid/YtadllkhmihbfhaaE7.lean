/- Chapter 10: expressions: the reference's node, over any program that has the text. -/
import Derived.Test.YtadllkhmihbfhaaE6
namespace Go.Proofs.Ytadllkhmihbfhaa
open Go.AL
variable {P : Program} [h : Facts P]

omit h in
/-- A cut behind a part of the code: the state there, under a name. -/
theorem awp_cut {X : Ctx} {x y : Code} {Q : AX → S → Prop} {s : S} (s1 : S) (h1 : awp P X x (fun e s' => e = .normal ∧ Wk P X s' s1) s) (h2 : awp P X y Q s1) : awp P X (.seq x y) Q s :=
  awp_seq (awp_mono h1 (by rintro e s' ⟨rfl, hw⟩; exact awp_weaken hw h2))

omit h in
/-- The same, where the part may also return. -/
theorem awp_cut2 {X : Ctx} {x y : Code} {Q : AX → S → Prop} {s : S} (s1 : S) (C : Prop) (h1 : awp P X x (thenK (fun s' => C ∧ Wk P X s' s1) Q) s) (h2 : C → awp P X y Q s1) : awp P X (.seq x y) Q s :=
  awp_seq (awp_mono h1 (by
    rintro (_ | _ | _) s' hq
    · exact awp_weaken hq.2 (h2 hq.1)
    · exact hq
    · exact hq))

def knownR (code : Bool) (op : Int) : Bool := decide (0 ≤ arity op) && ((code && !decide (op = 3)) || (!code && decide (op ≤ 24)))
def namedR (code : Bool) (op : Int) : Bool := !code && (decide (op = 3) || objB op)
def countR (code : Bool) (op : Int) : Bool := code && (objB op || (decide (op = 25) || decide (op = 26)))
def numR (c : Bool) (op : Int) : Bool := decide (op = 1) || (decide (op = 2) || c)
def badR (k n u e0 z l : Bool) : Bool := !k || (!n && !e0) || (!u && !z) || !l
def rangeR (op num : Int) (c : Bool) : Bool := (decide (op = 1) && !inB num) || (decide (op = 2) && (!decide (num = 0) && !decide (num = 1))) || (c && (decide (num < 0) || decide (mostN op < num)))
def rnode (code : Bool) (op : Int) (nm : List UInt8) (num : Int) (n : Nat) : Int :=
  if badR (knownR code op) (namedR code op) (numR (countR code op) op) (decide (nm = [])) (decide (num = 0)) (decide ((n : Int) = arity op)) = true then 1
  else if rangeR op num (countR code op) = true then 2
  else if namedR code op = true then nameE nm else 0
theorem rnode_eq (code : Bool) (op : Int) (nm : List UInt8) (num : Int) (ks : List TExpr) : rnode code op nm num ks.length = nodeE code ⟨op, nm, num, ks⟩ := by
  unfold rnode nodeE badB
  simp only
  have hc : op = 1 ∨ op = 2 ∨ op = 3 ∨ (4 ≤ op ∧ op ≤ 21) ∨ (22 ≤ op ∧ op ≤ 24) ∨ op = 25 ∨ op = 26 ∨ (op < 1 ∨ 26 < op) := by omega
  generalize hl : (ks.length : Int) = L
  rcases hc with rfl | rfl | rfl | c | c | rfl | rfl | c
  · cases code <;> simp [badR, knownR, namedR, numR, countR, rangeR, knownB, namedB, arity, objB] <;> (by_cases a : nm = [] <;> by_cases b : L = 0 <;> cases hi : inB num <;> simp [a, b])
  · cases code <;> simp [badR, knownR, namedR, numR, countR, rangeR, knownB, namedB, numP, arity, objB] <;> (by_cases a : nm = [] <;> by_cases b : L = 0 <;> simp [a, b] <;> (by_cases z : num = 0 <;> by_cases z1 : num = 1 <;> simp [z, z1] <;> omega))
  · cases code <;> simp [badR, knownR, namedR, numR, countR, rangeR, knownB, namedB, numP, arity, objB] <;> (by_cases b : L = 0 <;> by_cases z : num = 0 <;> simp [b, z])
  · have n1 : ¬ op = 1 := by omega
    have n2 : ¬ op = 2 := by omega
    have n3 : ¬ op = 3 := by omega
    have n4 : ¬ op = 25 := by omega
    have n5 : ¬ op = 26 := by omega
    have n6 : op ≤ 24 := by omega
    have n7 : ¬ 22 ≤ op := by omega
    have ha : 0 ≤ arity op := by unfold arity; (repeat' split) <;> omega
    cases code <;> simp [badR, knownR, namedR, numR, countR, rangeR, knownB, namedB, numP, objB, n1, n2, n3, n4, n5, n6, n7, ha] <;> (by_cases a : nm = [] <;> by_cases b : L = arity op <;> by_cases z : num = 0 <;> simp [a, b, z])
  · have n1 : ¬ op = 1 := by omega
    have n2 : ¬ op = 2 := by omega
    have n3 : ¬ op = 3 := by omega
    have n4 : ¬ op = 25 := by omega
    have n5 : ¬ op = 26 := by omega
    have ha : 0 ≤ arity op := by unfold arity; (repeat' split) <;> omega
    cases code <;> simp [badR, knownR, namedR, numR, countR, rangeR, knownB, namedB, numP, objB, mostN, n1, n2, n3, n4, n5, c.1, c.2, ha] <;> (by_cases a : nm = [] <;> by_cases b : L = arity op <;> by_cases z : num = 0 <;> simp [a, b, z])
  · cases code <;> simp [badR, knownR, namedR, numR, countR, rangeR, knownB, namedB, numP, arity, objB, mostN] <;> (by_cases a : nm = [] <;> by_cases b : L = 0 <;> simp [a, b])
  · cases code <;> simp [badR, knownR, namedR, numR, countR, rangeR, knownB, namedB, numP, arity, objB, mostN] <;> (by_cases a : nm = [] <;> by_cases b : L = 0 <;> simp [a, b])
  · have n1 : ¬ op = 1 := by omega
    have n2 : ¬ op = 2 := by omega
    have n3 : ¬ op = 3 := by omega
    have n4 : ¬ op = 25 := by omega
    have n5 : ¬ op = 26 := by omega
    have ha : arity op = -1 := by unfold arity; (repeat' split) <;> omega
    simp [badR, knownR, knownB, n3, n4, n5, ha]

set_option maxRecDepth 8000 in
set_option maxHeartbeats 8000000 in
theorem c_Rnode (code : Bool) : ∀ (e : TExpr), e.ok → FCall P 105 [.agg e.cells, .bool code] (fun r => r = .int .i64 (ndsE code e)) := by
  refine TExpr.ind fun e ih => ?_
  intro hok
  rw [ndsE_eq]
  obtain ⟨_, _, hn, _, hkl, hko⟩ := hok
  obtain ⟨op, nm, num, ks⟩ := e
  rw [← rnode_eq]
  unfold rnode
  simp only at hn hkl hko ih ⊢
  refine fcall_ofA h.f105 rfl (by decide) fun X hX => ?_
  refine awp_seq (vc_sound h.mo _ _ _ (by kernel_rfl) ?_)
  simp
  refine awp_seq (vc_sound h.mo _ _ _ (by kernel_rfl) ?_)
  simp
  refine xcall_fn (c_Arity op) (by simp) ?_
  simp
  refine awp_cut (⟨[.any, .bool code, .pto 0 4 0 0, .any, .any, .int .i64 (arity op), .bool (knownR code op), .any, .any, .any, .any, .any, .any, .any, .any, .any, .any, .any, .any, .any, .any, .any, .any, .any, .any, .any, .any, .any, .any, .any, .any, .any, .any, .any, .any, .any, .any, .any, .any, .any, .any, .any, .any, .any, .any, .any, .any, .any, .any, .any, .any, .any, .any, .any, .any, .any, .any, .any, .any, .any, .any, .any, .any, .any, .any, .any, .any, .any, .any, .any, .any, .any, .any, .any, .any, .any, .any, .any, .any, .any, .any, .any, .any, .any, .any, .any, .any, .any, .any, .any, .any, .any, .any, .any, .any, .any, .any, .any, .any, .any, .any, .any, .any, .any, .any, .any, .any, .any, .any, .any, .any, .any, .any, .any, .any, .any, .any, .any, .any, .any, .any, .any, .any, .any, .any, .any, .any, .any, .any, .any, .any, .any, .any, .any, .any, .any, .any, .any, .any, .any, .any, .any, .any, .any, .any, .any, .any, .any, .any, .any, .any, .any, .any, .any, .any, .any, .any, .any, .any, .any, .any, .any, .any, .any, .any, .any, .any], [⟨41, 4, [.agg (⟨op, nm, num, ks⟩ : TExpr).cells], 0, true⟩]⟩ : S) (vc_sound h.mo _ _ _ (by kernel_rfl) ?_) ?_
  case refine_1 =>
    unfold knownR
    generalize arity op = ar
    by_cases a1 : 0 ≤ ar <;> by_cases a2 : op = 3 <;> by_cases a3 : op ≤ 24 <;> cases code <;> simp [a1, a2, a3] <;> exact Wk.ren 0 [0] hX rfl (by decide) (by simp) (by simp) (by simp) (by simp)
  refine awp_cut (⟨[.any, .bool code, .pto 0 4 0 0, .any, .any, .int .i64 (arity op), .bool (knownR code op), .bool (namedR code op), .any, .any, .any, .any, .any, .any, .any, .any, .any, .any, .any, .any, .any, .any, .any, .any, .any, .any, .any, .any, .any, .any, .any, .any, .any, .any, .any, .any, .any, .any, .any, .any, .any, .any, .any, .any, .any, .any, .any, .any, .any, .any, .any, .any, .any, .any, .any, .any, .any, .any, .any, .any, .any, .any, .any, .any, .any, .any, .any, .any, .any, .any, .any, .any, .any, .any, .any, .any, .any, .any, .any, .any, .any, .any, .any, .any, .any, .any, .any, .any, .any, .any, .any, .any, .any, .any, .any, .any, .any, .any, .any, .any, .any, .any, .any, .any, .any, .any, .any, .any, .any, .any, .any, .any, .any, .any, .any, .any, .any, .any, .any, .any, .any, .any, .any, .any, .any, .any, .any, .any, .any, .any, .any, .any, .any, .any, .any, .any, .any, .any, .any, .any, .any, .any, .any, .any, .any, .any, .any, .any, .any, .any, .any, .any, .any, .any, .any, .any, .any, .any, .any, .any, .any, .any, .any, .any, .any, .any, .any], [⟨41, 4, [.agg (⟨op, nm, num, ks⟩ : TExpr).cells], 0, true⟩]⟩ : S) (vc_sound h.mo _ _ _ (by kernel_rfl) ?_) ?_
  case refine_1 =>
    cases code
    · by_cases a2 : op = 3
      · simp [a2, namedR]
        exact Wk.ren 0 [0] hX rfl (by decide) (by simp) (by simp) (by simp) (by simp)
      · simp [a2, namedR]
        refine xcall_fn (c_Robject op) (by simp) ?_
        simp
        exact Wk.ren 0 [0] hX rfl (by decide) (by simp) (by simp) (by simp) (by simp)
    · simp [namedR]
      exact Wk.ren 0 [0] hX rfl (by decide) (by simp) (by simp) (by simp) (by simp)
  refine awp_cut (⟨[.any, .bool code, .pto 0 4 0 0, .any, .any, .int .i64 (arity op), .bool (knownR code op), .bool (namedR code op), .bool (countR code op), .any, .any, .any, .any, .any, .any, .any, .any, .any, .any, .any, .any, .any, .any, .any, .any, .any, .any, .any, .any, .any, .any, .any, .any, .any, .any, .any, .any, .any, .any, .any, .any, .any, .any, .any, .any, .any, .any, .any, .any, .any, .any, .any, .any, .any, .any, .any, .any, .any, .any, .any, .any, .any, .any, .any, .any, .any, .any, .any, .any, .any, .any, .any, .any, .any, .any, .any, .any, .any, .any, .any, .any, .any, .any, .any, .any, .any, .any, .any, .any, .any, .any, .any, .any, .any, .any, .any, .any, .any, .any, .any, .any, .any, .any, .any, .any, .any, .any, .any, .any, .any, .any, .any, .any, .any, .any, .any, .any, .any, .any, .any, .any, .any, .any, .any, .any, .any, .any, .any, .any, .any, .any, .any, .any, .any, .any, .any, .any, .any, .any, .any, .any, .any, .any, .any, .any, .any, .any, .any, .any, .any, .any, .any, .any, .any, .any, .any, .any, .any, .any, .any, .any, .any, .any, .any, .any, .any, .any], [⟨41, 4, [.agg (⟨op, nm, num, ks⟩ : TExpr).cells], 0, true⟩]⟩ : S) (vc_sound h.mo _ _ _ (by kernel_rfl) ?_) ?_
  case refine_1 =>
    cases code
    · simp [countR]
      exact Wk.ren 0 [0] hX rfl (by decide) (by simp) (by simp) (by simp) (by simp)
    · simp [countR]
      refine xcall_fn (c_Robject op) (by simp) ?_
      cases objB op
      · by_cases a2 : op = 25 <;> by_cases a3 : op = 26 <;> simp [a2, a3] <;> exact Wk.ren 0 [0] hX rfl (by decide) (by simp) (by simp) (by simp) (by simp)
      · simp
        exact Wk.ren 0 [0] hX rfl (by decide) (by simp) (by simp) (by simp) (by simp)
  refine awp_cut (⟨[.any, .bool code, .pto 0 4 0 0, .any, .any, .int .i64 (arity op), .bool (knownR code op), .bool (namedR code op), .bool (countR code op), .bool (numR (countR code op) op), .any, .any, .any, .any, .any, .any, .any, .any, .any, .any, .any, .any, .any, .any, .any, .any, .any, .any, .any, .any, .any, .any, .any, .any, .any, .any, .any, .any, .any, .any, .any, .any, .any, .any, .any, .any, .any, .any, .any, .any, .any, .any, .any, .any, .any, .any, .any, .any, .any, .any, .any, .any, .any, .any, .any, .any, .any, .any, .any, .any, .any, .any, .any, .any, .any, .any, .any, .any, .any, .any, .any, .any, .any, .any, .any, .any, .any, .any, .any, .any, .any, .any, .any, .any, .any, .any, .any, .any, .any, .any, .any, .any, .any, .any, .any, .any, .any, .any, .any, .any, .any, .any, .any, .any, .any, .any, .any, .any, .any, .any, .any, .any, .any, .any, .any, .any, .any, .any, .any, .any, .any, .any, .any, .any, .any, .any, .any, .any, .any, .any, .any, .any, .any, .any, .any, .any, .any, .any, .any, .any, .any, .any, .any, .any, .any, .any, .any, .any, .any, .any, .any, .any, .any, .any, .any, .any, .any], [⟨41, 4, [.agg (⟨op, nm, num, ks⟩ : TExpr).cells], 0, true⟩]⟩ : S) (vc_sound h.mo _ _ _ (by kernel_rfl) ?_) ?_
  case refine_1 =>
    by_cases a1 : op = 1 <;> by_cases a2 : op = 2 <;> simp [a1, a2, numR] <;> exact Wk.ren 0 [0] hX rfl (by decide) (by simp) (by simp) (by simp) (by simp)
  refine awp_cut2 (⟨[.any, .bool code, .pto 0 4 0 0, .any, .any, .any, .any, .bool (namedR code op), .bool (countR code op), .any, .any, .any, .any, .any, .any, .any, .any, .any, .any, .any, .any, .any, .any, .any, .any, .any, .any, .any, .any, .any, .any, .any, .any, .any, .any, .any, .any, .any, .any, .any, .any, .any, .any, .any, .any, .any, .any, .any, .any, .any, .any, .any, .any, .any, .any, .any, .any, .any, .any, .any, .any, .any, .any, .any, .any, .any, .any, .any, .any, .any, .any, .any, .any, .any, .any, .any, .any, .any, .any, .any, .any, .any, .any, .any, .any, .any, .any, .any, .any, .any, .any, .any, .any, .any, .any, .any, .any, .any, .any, .any, .any, .any, .any, .any, .any, .any, .any, .any, .any, .any, .any, .any, .any, .any, .any, .any, .any, .any, .any, .any, .any, .any, .any, .any, .any, .any, .any, .any, .any, .any, .any, .any, .any, .any, .any, .any, .any, .any, .any, .any, .any, .any, .any, .any, .any, .any, .any, .any, .any, .any, .any, .any, .any, .any, .any, .any, .any, .any, .any, .any, .any, .any, .any, .any, .any, .any, .any], [⟨41, 4, [.agg (⟨op, nm, num, ks⟩ : TExpr).cells], 0, true⟩]⟩ : S) (badR (knownR code op) (namedR code op) (numR (countR code op) op) (decide (nm = [])) (decide (num = 0)) (decide ((ks.length : Int) = arity op)) = false) (vc_sound h.mo _ _ _ (by kernel_rfl) ?_) ?_
  case refine_1 =>
    generalize knownR code op = k
    generalize namedR code op = n
    generalize numR (countR code op) op = u
    cases k
    · simp [badR]
    have key : n = true ∨ (n = false ∧ nm = []) ∨ (n = false ∧ ¬ nm = []) := by cases n <;> by_cases q : nm = [] <;> simp [q]
    have key2 : u = true ∨ (u = false ∧ num = 0) ∨ (u = false ∧ ¬ num = 0) := by cases u <;> by_cases q : num = 0 <;> simp [q]
    rcases key with rfl | ⟨rfl, e0⟩ | ⟨rfl, e0⟩
    · rcases key2 with rfl | ⟨rfl, z0⟩ | ⟨rfl, z0⟩
      · by_cases l0 : (ks.length : Int) = arity op <;> simp [l0, badR]
        exact Wk.ren 0 [0] hX rfl (by decide) (by simp) (by simp) (by simp) (by simp)
      · by_cases l0 : (ks.length : Int) = arity op <;> simp [z0, l0, badR]
        exact Wk.ren 0 [0] hX rfl (by decide) (by simp) (by simp) (by simp) (by simp)
      · simp [z0, badR]
    · rcases key2 with rfl | ⟨rfl, z0⟩ | ⟨rfl, z0⟩
      · by_cases l0 : (ks.length : Int) = arity op <;> simp [e0, l0, badR]
        exact Wk.ren 0 [0] hX rfl (by decide) (by simp) (by simp) (by simp) (by simp)
      · by_cases l0 : (ks.length : Int) = arity op <;> simp [e0, z0, l0, badR]
        exact Wk.ren 0 [0] hX rfl (by decide) (by simp) (by simp) (by simp) (by simp)
      · simp [e0, z0, badR]
    · simp [e0, badR]
  intro hbad
  rw [hbad]
  simp only [Bool.false_eq_true, if_false]
  refine awp_cut2 (⟨[.any, .bool code, .pto 0 4 0 0, .any, .any, .any, .any, .bool (namedR code op), .any, .any, .any, .any, .any, .any, .any, .any, .any, .any, .any, .any, .any, .any, .any, .any, .any, .any, .any, .any, .any, .any, .any, .any, .any, .any, .any, .any, .any, .any, .any, .any, .any, .any, .any, .any, .any, .any, .any, .any, .any, .any, .any, .any, .any, .any, .any, .any, .any, .any, .any, .any, .any, .any, .any, .any, .any, .any, .any, .any, .any, .any, .any, .any, .any, .any, .any, .any, .any, .any, .any, .any, .any, .any, .any, .any, .any, .any, .any, .any, .any, .any, .any, .any, .any, .any, .any, .any, .any, .any, .any, .any, .any, .any, .any, .any, .any, .any, .any, .any, .any, .any, .any, .any, .any, .any, .any, .any, .any, .any, .any, .any, .any, .any, .any, .any, .any, .any, .any, .any, .any, .any, .any, .any, .any, .any, .any, .any, .any, .any, .any, .any, .any, .any, .any, .any, .any, .any, .any, .any, .any, .any, .any, .any, .any, .any, .any, .any, .any, .any, .any, .any, .any, .any, .any, .any, .any, .any, .any], [⟨41, 4, [.agg (⟨op, nm, num, ks⟩ : TExpr).cells], 0, true⟩]⟩ : S) (rangeR op num (countR code op) = false) (awp_cut (⟨[.any, .bool code, .pto 0 4 0 0, .any, .any, .any, .any, .bool (namedR code op), .any, .any, .any, .any, .any, .any, .any, .any, .any, .any, .any, .any, .any, .any, .any, .any, .any, .any, .any, .any, .any, .any, .any, .any, .any, .any, .any, .any, .any, .any, .any, .any, .any, .any, .any, .any, .any, .any, .any, .any, .any, .any, .any, .any, .any, .any, .any, .any, .any, .any, .any, .any, .any, .any, .any, .any, .any, .any, .any, .any, .any, .any, .any, .any, .any, .any, .any, .any, .any, .any, .any, .any, .any, .any, .any, .any, .any, .any, .any, .any, .any, .any, .any, .any, .any, .any, .any, .any, .any, .any, .any, .any, .any, .any, .any, .any, .any, .any, .any, .any, .any, .any, .any, .any, .any, .any, .any, .any, .any, .any, .any, .any, .any, .any, .any, .any, .any, .any, .any, .any, .any, .any, .any, .any, .any, .any, .any, .any, .any, .any, .any, .bool (rangeR op num (countR code op)), .any, .any, .any, .any, .any, .any, .any, .any, .any, .any, .any, .any, .any, .any, .any, .any, .any, .any, .any, .any, .any, .any, .any, .any, .any, .any, .any], [⟨41, 4, [.agg (⟨op, nm, num, ks⟩ : TExpr).cells], 0, true⟩]⟩ : S) (awp_quiet [0, 1, 2, 3, 4, 5, 6, 7, 8, 9, 10, 11, 12, 13, 14, 15, 16, 17, 18, 19, 20, 21, 22, 23, 24, 25, 26, 27, 28, 29, 30, 31, 32, 33, 34, 35, 36, 37, 38, 39] _ h.mo (by kernel_rfl) (by decide) (by kernel_rfl) (by rfl) ?_) (vc_sound h.mo _ _ _ (by kernel_rfl) ?_)) ?_
  case refine_2 =>
    cases rangeR op num (countR code op)
    · simp
      exact Wk.ren 0 [0] hX rfl (by decide) (by simp) (by simp) (by simp) (by simp)
    · simp
  case refine_1 =>
    by_cases h1 : op = 1
    · have hc : countR code op = false := by simp [countR, objB, h1]
      rw [hc]
      cases hin : inB num
      · simp [h1]
        refine ⟨_, c_RIn num, ?_⟩
        simp [hin, rangeR]
        exact Wk.ren 0 [0] hX rfl (by decide) (by simp) (by simp) (by simp) (by simp)
      · simp [h1]
        refine ⟨_, c_RIn num, ?_⟩
        simp [hin, rangeR]
        exact Wk.ren 0 [0] hX rfl (by decide) (by simp) (by simp) (by simp) (by simp)
    by_cases h2 : op = 2
    · have hc : countR code op = false := by simp [countR, objB, h2]
      rw [hc]
      by_cases z0 : num = 0
      · simp [h2, z0, rangeR]
        exact Wk.ren 0 [0] hX rfl (by decide) (by simp) (by simp) (by simp) (by simp)
      · by_cases z1 : num = 1
        · simp [h2, z1, rangeR]
          exact Wk.ren 0 [0] hX rfl (by decide) (by simp) (by simp) (by simp) (by simp)
        · simp [h2, z0, z1, rangeR]
          exact Wk.ren 0 [0] hX rfl (by decide) (by simp) (by simp) (by simp) (by simp)
    generalize countR code op = c
    cases c
    · simp [h1, h2, rangeR]
      exact Wk.ren 0 [0] hX rfl (by decide) (by simp) (by simp) (by simp) (by simp)
    · by_cases l0 : num < 0
      · simp [h1, h2, rangeR, l0]
        exact Wk.ren 0 [0] hX rfl (by decide) (by simp) (by simp) (by simp) (by simp)
      · simp [h1, h2, l0]
        refine ⟨_, c_most op, ?_⟩
        simp [rangeR, h1, h2, l0]
        exact Wk.ren 0 [0] hX rfl (by decide) (by simp) (by simp) (by simp) (by simp)
  intro hrange
  rw [hrange]
  simp only [Bool.false_eq_true, if_false]
  refine awp_cut2 (⟨[.any, .bool code, .pto 0 4 0 0, .any, .any, .any, .any, .any, .any, .any, .any, .any, .any, .any, .any, .any, .any, .any, .any, .any, .any, .any, .any, .any, .any, .any, .any, .any, .any, .any, .any, .any, .any, .any, .any, .any, .any, .any, .any, .any, .any, .any, .any, .any, .any, .any, .any, .any, .any, .any, .any, .any, .any, .any, .any, .any, .any, .any, .any, .any, .any, .any, .any, .any, .any, .any, .any, .any, .any, .any, .any, .any, .any, .any, .any, .any, .any, .any, .any, .any, .any, .any, .any, .any, .any, .any, .any, .any, .any, .any, .any, .any, .any, .any, .any, .any, .any, .any, .any, .any, .any, .any, .any, .any, .any, .any, .any, .any, .any, .any, .any, .any, .any, .any, .any, .any, .any, .any, .any, .any, .any, .any, .any, .any, .any, .any, .any, .any, .any, .any, .any, .any, .any, .any, .any, .any, .any, .any, .any, .any, .any, .any, .any, .any, .any, .any, .any, .any, .any, .any, .any, .any, .any, .any, .any, .any, .any, .any, .any, .any, .any, .any, .any, .any, .any, .any, .any], [⟨41, 4, [.agg (⟨op, nm, num, ks⟩ : TExpr).cells], 0, true⟩]⟩ : S) ((if namedR code op = true then nameE nm else 0) = 0) (vc_sound h.mo _ _ _ (by kernel_rfl) ?_) ?_
  case refine_1 =>
    cases hnd : namedR code op
    · simp
      exact Wk.ren 0 [0] hX rfl (by decide) (by simp) (by simp) (by simp) (by simp)
    · by_cases hz : nameE nm = 0
      · simp
        refine xcall_fn (c_RNCheck nm hn) (by simp) ?_
        simp [hz]
        exact Wk.ren 0 [0] hX rfl (by decide) (by simp) (by simp) (by simp) (by simp)
      · simp
        refine xcall_fn (c_RNCheck nm hn) (by simp) ?_
        simp [hz]
        refine xcall_fn (c_RNCheck nm hn) (by simp) ?_
        simp
  intro hname
  rw [hname]
  simp only
  refine awp_seq (vc_sound h.mo _ _ _ (by kernel_rfl) ?_)
  simp
  refine awp_loop (σ := Nat) (fun k => (⟨[.any, .bool code, .pto 0 4 0 0, .any, .any, .any, .any, .any, .any, .any, .int .i64 k, .any, .any, .any, .any, .any, .any, .any, .any, .any, .any, .any, .any, .any, .any, .any, .any, .any, .any, .any, .any, .any, .any, .any, .any, .any, .any, .any, .any, .any, .any, .any, .any, .any, .any, .any, .any, .any, .any, .any, .any, .any, .any, .any, .any, .any, .any, .any, .any, .any, .any, .any, .any, .any, .any, .any, .any, .any, .any, .any, .any, .any, .any, .any, .any, .any, .any, .any, .any, .any, .any, .any, .any, .any, .any, .any, .any, .any, .any, .any, .any, .any, .any, .any, .any, .any, .any, .any, .any, .any, .any, .any, .any, .any, .any, .any, .any, .any, .any, .any, .any, .any, .any, .any, .any, .any, .any, .any, .any, .any, .any, .any, .any, .any, .any, .any, .any, .any, .any, .any, .any, .any, .any, .any, .any, .any, .any, .any, .any, .any, .any, .any, .any, .any, .any, .any, .any, .any, .any, .any, .any, .any, .any, .any, .any, .any, .any, .any, .any, .any, .any, .any, .any, .any, .any, .any, .any], [⟨41, 4, [.agg (⟨op, nm, num, ks⟩ : TExpr).cells], 0, true⟩]⟩ : S)) (fun k => k ≤ ks.length ∧ ndsL code ks = ndsL code (ks.drop k)) (fun k => ks.length - k) 0 (Wk.ren 0 [0] hX rfl (by decide) (by simp) (by simp) (by simp) (by simp)) ⟨by simp, by simp⟩ ?_
  rintro k ⟨hk, hinv⟩
  refine vc_sound h.mo _ _ _ (by kernel_rfl) ?_
  rcases Nat.lt_or_ge k ks.length with hlt | hge
  · have hk1 := wrap_succ hlt hkl
    have hmem := List.getElem_mem hlt
    rw [List.drop_eq_getElem_cons hlt, ndsL_cons] at hinv
    simp [hlt]
    refine xcall_fn (ih ks[k] hmem (hko _ hmem)) (by simp) ?_
    by_cases hz : ndsE code ks[k] = 0
    · rw [if_neg (by simp [hz])] at hinv
      simp [hz]
      exact ⟨k + 1, Wk.ren 0 [0] hX rfl (by decide) (by simp [hk1]) (by simp) (by simp) (by simp), ⟨by omega, hinv⟩, by omega⟩
    · rw [if_pos hz] at hinv
      simp [hz, hinv]
  · have hkl : k = ks.length := by omega
    subst hkl
    rw [List.drop_length, ndsL_nil] at hinv
    simp [hinv]
    refine vc_sound h.mo _ _ _ (by kernel_rfl) ?_
    simp
theorem c_Rcheck (e : TExpr) (hok : e.ok) : FCall P 100 [.agg e.cells, .bool false] (fun r => r = .int .i64 (chkE e)) := by
  refine fcall_of h.f100 rfl (by decide) h.mo (by kernel_rfl) fun X hX => ?_
  simp
  refine xcall_fn (c_RNodes e hok) (by simp) ?_
  by_cases h1 : 60 < wr (cntE e)
  · simp [h1, chkE]
  simp [h1, chkE]
  refine xcall_fn (c_RDepth e hok) (by simp) ?_
  by_cases h2 : 12 < depW e
  · simp [h2]
  simp [h2]
  refine xcall_fn (c_Rnode false e hok) (by simp) ?_
  simp
theorem c_RECheck (e : TExpr) (hok : e.ok) : FCall P 84 [.agg e.cells] (fun r => r = .int .i64 (chkE e)) := by
  refine fcall_of h.f84 rfl (by decide) h.mo (by kernel_rfl) fun X hX => ?_
  simp
  refine xcall_fn (c_Rcheck e hok) (by simp) ?_
  simp
end Go.Proofs.Ytadllkhmihbfhaa
