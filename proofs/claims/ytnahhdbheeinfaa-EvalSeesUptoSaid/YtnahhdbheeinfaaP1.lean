/- Chapter 15: values of expressions: the plain laws of the bounded integers. -/
import Derived.Test.YtnahhdbheeinfaaN2
namespace Go.Proofs.Ytnahhdbheeinfaa
open Go.AL

def oneZ (b : Bool) : Int := if b = true then 1 else 0
def unZ (op a : Int) : Int := if op = 5 then -clipZ a else if op = 6 then oneZ (decide (a = 0)) else if op = 7 ∨ op = 8 then a else 0
def holdsB (op a b : Int) : Bool := if op = 14 then decide (a = b) else if op = 15 then !decide (a = b) else if op = 16 then decide (a < b) else if op = 17 then decide (a ≤ b) else if op = 18 then !decide (a = 0) && !decide (b = 0) else if op = 19 then !decide (a = 0) || !decide (b = 0) else false
def binZ (op a b : Int) : Int := if op = 9 then addZ a b else if op = 10 then addZ a (-clipZ b) else if op = 11 then mulZ a b else if op = 12 then divZ a b else if op = 13 then modZ a b else if op = 20 then min a b else if op = 21 then max a b else oneZ (holdsB op a b)
theorem add_comm' (a b : Int) : addZ a b = addZ b a := by unfold addZ; rw [Int.add_comm]
theorem mul_comm' (a b : Int) : mulZ a b = mulZ b a := by unfold mulZ; rw [Int.mul_comm]
def symB (op : Int) : Bool := decide (op = 9) || decide (op = 11) || decide (op = 14) || decide (op = 15) || decide (18 ≤ op)
theorem bin_comm {op : Int} (hs : symB op = true) (a b : Int) : binZ op a b = binZ op b a := by
  have he : decide (a = b) = decide (b = a) := by by_cases q : a = b <;> simp [q, eq_comm]
  unfold binZ
  split
  · exact add_comm' a b
  split
  · rename_i h9 h10; subst h10; simp [symB] at hs
  split
  · exact mul_comm' a b
  split
  · rename_i h; subst h; simp [symB] at hs
  split
  · rename_i h; subst h; simp [symB] at hs
  split
  · exact Int.min_comm a b
  split
  · exact Int.max_comm a b
  unfold holdsB
  split
  · rw [he]
  split
  · rw [he]
  split
  · rename_i h; subst h; simp [symB] at hs
  split
  · rename_i h; subst h; simp [symB] at hs
  split
  · rw [Bool.and_comm]
  split
  · rw [Bool.or_comm]
  rfl
theorem not_and' (a b : Int) : unZ 6 (binZ 18 a b) = binZ 19 (unZ 6 a) (unZ 6 b) := by
  by_cases p : a = 0 <;> by_cases q : b = 0 <;> simp [unZ, binZ, holdsB, oneZ, p, q]
theorem sub_add' (b : Int) : binZ 9 (binZ 10 0 b) b = 0 := by
  have h1 := clip_b b
  have e : clipZ (-clipZ b) = -clipZ b := clip_id (by omega) (by omega)
  have e0 : clipZ 0 = 0 := by decide
  simp only [binZ, addZ, if_true, show ¬ (10 : Int) = 9 by decide, if_false, e, e0, Int.zero_add, clip_clip]
  rw [Int.add_left_neg, e0]
theorem div_mod_small {a b : Int} (ha : -1000000 ≤ a ∧ a ≤ 1000000) (hb : -1000000 ≤ b ∧ b ≤ 1000000) (h0 : b ≠ 0) :
    divZ a b * b + modZ a b = a ∧ (modZ a b = 0 ∨ (0 < modZ a b ↔ 0 < b)) ∧ max (modZ a b) (-modZ a b) < max b (-b) := by
  have ea : clipZ a = a := clip_id (by omega) (by omega)
  have eb : clipZ b = b := clip_id (by omega) (by omega)
  unfold modZ divZ divC
  rw [ea, eb, if_neg h0]
  have hd := Int.mul_tdiv_add_tmod a b
  have hlt : (a.tmod b).natAbs < b.natAbs := by
    rw [Int.natAbs_tmod]; exact Nat.mod_lt _ (by omega)
  have hsg : (0 ≤ a → 0 ≤ a.tmod b) ∧ (a ≤ 0 → a.tmod b ≤ 0) := by
    refine ⟨fun q => Int.tmod_nonneg _ q, fun q => ?_⟩
    have := Int.tmod_nonneg b (show 0 ≤ -a by omega)
    rw [Int.neg_tmod] at this; omega
  generalize a.tmod b = m at *
  generalize a.tdiv b = q at *
  split
  · rename_i hc
    have e1 : b * (q - 1) = b * q - b := by rw [Int.mul_sub, Int.mul_one]
    have e2 : (q - 1) * b = b * q - b := by rw [Int.mul_comm, e1]
    rw [e1, e2]
    obtain ⟨hm, hs⟩ := hc
    have hs' : (a < 0 ∧ 0 < b) ∨ (0 ≤ a ∧ b < 0) := by
      by_cases p : a < 0 <;> by_cases r : b < 0 <;> simp [p, r] at hs <;> omega
    generalize b * q = z at *
    omega
  · rename_i hc
    have e2 : q * b = b * q := Int.mul_comm _ _
    rw [e2]
    have hs' : m = 0 ∨ (a < 0 ∧ b < 0) ∨ (0 ≤ a ∧ 0 < b) := by
      by_cases hm : m = 0
      · exact .inl hm
      · by_cases p : a < 0 <;> by_cases r : b < 0 <;> simp [p, r, hm] at hc <;> omega
    generalize b * q = z at *
    omega
end Go.Proofs.Ytnahhdbheeinfaa
