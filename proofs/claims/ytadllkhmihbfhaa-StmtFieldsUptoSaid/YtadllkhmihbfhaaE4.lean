/- Chapter 10: expressions: a node, over any program that has the text. -/
import Derived.Test.YtadllkhmihbfhaaE3
namespace Go.Proofs.Ytadllkhmihbfhaa
open Go.AL
variable {P : Program} [h : Facts P]

def badB (code : Bool) (e : TExpr) : Prop := knownB code e.fOp = false ∨ (e.fKids.length : Int) ≠ arity e.fOp ∨ (e.fName ≠ [] ∧ namedB code e.fOp = false)
instance (code : Bool) (e : TExpr) : Decidable (badB code e) := by unfold badB; infer_instance
def nodeE (code : Bool) (e : TExpr) : Int :=
  if badB code e then 1
  else if e.fOp = 1 then (if inB e.fN = true then 0 else 2)
  else if (numP code e.fOp).2.2 = false ∧ e.fN ≠ 0 then 1
  else if (numP code e.fOp).2.2 = true ∧ (e.fN < (numP code e.fOp).1 ∨ (numP code e.fOp).2.1 < e.fN) then 2
  else if namedB code e.fOp = true then nameE e.fName else 0
set_option maxHeartbeats 2000000 in
theorem c_node (code : Bool) (e : TExpr) (hn : e.fName.length ≤ 9223372036854775807) : FCall P 102 [.agg [.bool code], .agg e.cells] (fun r => r = .int .i64 (nodeE code e)) := by
  refine fcall_ofB [1] h.f102 rfl (by decide) h.mo (by kernel_rfl) fun X hX => ?_
  obtain ⟨op, nm, num, ks⟩ := e
  simp only at hn
  simp
  refine awp_quiet [0, 1, 2, 3, 4, 5, 6, 7, 8, 9, 10, 11, 12, 13, 14, 15, 16, 17, 18, 19, 20, 21, 22, 23, 24, 25] _ h.mo (by kernel_rfl) (by decide) (by kernel_rfl) (by rfl) ?_
  simp
  refine ⟨_, c_known code op, ?_⟩
  cases hk : knownB code op
  · have hb : badB code ⟨op, nm, num, ks⟩ := .inl hk
    simp [nodeE, hb]
  simp
  refine ⟨_, c_kids op, ?_⟩
  by_cases ha : (ks.length : Int) = arity op
  case neg =>
    have hb : badB code ⟨op, nm, num, ks⟩ := .inr (.inl ha)
    simp [ha, nodeE, hb]
  by_cases hgood : nm = [] ∨ namedB code op = true
  case neg =>
    have hnm : ¬ nm = [] := fun q => hgood (.inl q)
    have hnd : namedB code op = false := by simpa using fun q => hgood (.inr q)
    have hb : badB code ⟨op, nm, num, ks⟩ := .inr (.inr ⟨hnm, hnd⟩)
    simp [ha, hnm]
    refine ⟨_, c_named code op, ?_⟩
    simp [hnd, nodeE, hb]
  have hb : ¬ badB code ⟨op, nm, num, ks⟩ := by
    rintro (q | q | ⟨q1, q2⟩)
    · simp only at q; rw [hk] at q; cases q
    · exact q ha
    · rcases hgood with g | g
      · exact q1 g
      · simp only at q2; rw [g] at q2; cases q2
  rw [nodeE, if_neg hb]
  simp only
  have hnn : nm = [] ∨ nm ≠ [] ∧ namedB code op = true := by
    by_cases q : nm = []
    · exact .inl q
    · exact .inr ⟨q, hgood.resolve_left q⟩
  clear hb hgood
  rcases hnn with hnm | ⟨hnm, hnd⟩
  case' inl => simp [ha, hnm]
  case' inr =>
    simp [ha, hnm]
    refine ⟨_, c_named code op, ?_⟩
    simp [hnd]
  all_goals
    by_cases h1 : op = 1
    · simp [h1]
      refine xcall_fn (c_In num) (by simp) ?_
      cases inB num <;> simp
    simp [h1]
    refine xcall_fn (c_numbers code op) (by simp) ?_
    obtain ⟨⟨lo, hi, used⟩, hq⟩ : ∃ q, numP code op = q := ⟨_, rfl⟩
    rw [hq]
    cases used
    · by_cases hz : num = 0
      · simp [hz]
        refine xcall_fn (c_named code op) (by simp) ?_
        cases hnd2 : namedB code op
        · first
            | (simp; done)
            | (rw [hnd] at hnd2; cases hnd2)
        · simp
          refine xcall_fn (c_NCheck nm hn) (by first | (simp; done) | simp [hnm]) ?_
          first
            | (simp; done)
            | simp [hnm]
      · simp [hz]
    · by_cases hlo : num < lo
      · simp [hlo]
      by_cases hhi : hi < num
      · have hlo' : lo ≤ num := by omega
        simp [hlo, hhi]
      have hlo' : lo ≤ num := by omega
      have hhi' : num ≤ hi := by omega
      simp [hlo, hhi]
      refine xcall_fn (c_named code op) (by simp) ?_
      cases hnd2 : namedB code op
      · first
          | (simp; done)
          | (exfalso; rw [hnd] at hnd2; cases hnd2)
      · simp
        refine xcall_fn (c_NCheck nm hn) (by first | (simp; done) | simp [hnm]) ?_
        first
          | (simp; done)
          | simp [hnm]
end Go.Proofs.Ytadllkhmihbfhaa
