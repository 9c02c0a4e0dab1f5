/- Chapter 10: statements: the reference's equality, over any program that has the text. -/
import Derived.Test.YtadllkhmihbfhaaG6
namespace Go.Proofs.Ytadllkhmihbfhaa
open Go.AL
variable {P : Program} [h : Facts P]

theorem c_sameExprs (a b : List TExpr) (hl : a.length ≤ 9223372036854775807) (hao : ∀ x ∈ a, x.ok) : FCall P 40 [Ls false a, Ls false b] (fun r => r = .bool (eqB a b)) := by
  refine fcall_ofB [6] h.f40 rfl (by decide) h.mo (by kernel_rfl) fun X hX => ?_
  by_cases q4 : a.length = b.length
  case neg =>
    have q4' : ¬ (a.length : Int) = (b.length : Int) := by omega
    rw [eqB_no (by intro q; exact q4 (by rw [q]))]
    simp [q4']
  have q4' : (a.length : Int) = (b.length : Int) := by omega
  simp [eq_true q4']
  refine awp_loop (σ := Nat) (fun k => (⟨[Ls false a, Ls false b, .any, .any, .any, .int .i64 k, .any, .any, .any, .any, .any, .any, .any, .any, .any, .any, .any, .any, .any, .any, .any, .any, .any, .any, .any, .any, .any], []⟩ : S)) (fun k => k ≤ a.length ∧ a.take k = b.take k) (fun k => a.length - k) 0 (Wk.ren 0 [] hX rfl (by decide) (by simp) (by simp) (by simp) (by simp)) ⟨by simp, by simp⟩ ?_
  rintro k ⟨hk, hinv⟩
  refine vcB_sound [6] h.mo _ _ _ (by kernel_rfl) ?_
  rcases Nat.lt_or_ge k a.length with hlt | hge
  · have hlt2 : k < b.length := by omega
    have hk1 := wrap_succ hlt hl
    have hmem := List.getElem_mem hlt
    simp [hlt]
    refine awp_quiet [0, 1, 2, 3, 4, 5, 6, 7, 8, 9] _ h.mo (by kernel_rfl) (by decide) (by kernel_rfl) (by rfl) ?_
    simp [hlt, hlt2]
    refine ⟨_, c_RSame a[k] (hao _ hmem) b[k], ?_⟩
    by_cases q5 : a[k] = b[k]
    · rw [q5, sameB_self]
      simp
      exact ⟨k + 1, Wk.ren 0 [] hX rfl (by decide) (by simp [hk1]) (by simp) (by simp) (by simp), ⟨by omega, take_step hlt hlt2 hinv q5⟩, by omega⟩
    · rw [sameB_no q5]
      simp
      rw [eqB_no (take_no hlt hlt2 q5)]
  · have hkl : k = a.length := by omega
    subst hkl
    have hall := take_eq_all q4 hinv
    rw [eqB_yes hall]
    simp

set_option maxRecDepth 20000 in
set_option maxHeartbeats 8000000 in
theorem c_SRSame : ∀ a : List TStmt, a.length ≤ 9223372036854775807 → (∀ s ∈ a, s.ok) → ∀ b : List TStmt, FCall P 24 [Ls false a, Ls false b] (fun r => r = .bool (eqB a b)) := by
  refine stmt_ind (C := fun a => ∀ b : List TStmt, FCall P 24 [Ls false a, Ls false b] (fun r => r = .bool (eqB a b))) fun a hl hok hC b => ?_
  refine fcall_ofB [6] h.f24 rfl (by decide) h.mo (by kernel_rfl) fun X hX => ?_
  by_cases q4 : a.length = b.length
  case neg =>
    have q4' : ¬ (a.length : Int) = (b.length : Int) := by omega
    rw [eqB_no (by intro q; exact q4 (by rw [q]))]
    simp [q4']
  have q4' : (a.length : Int) = (b.length : Int) := by omega
  simp [eq_true q4']
  refine awp_loop (σ := Nat) (fun k => (⟨[Ls false a, Ls false b, .any, .any, .any, .int .i64 k, .any, .any, .any, .any, .any, .any, .any, .any, .any, .any, .any, .any, .any, .any, .any, .any, .any, .any, .any, .any, .any, .any, .any, .any, .any, .any, .any, .any, .any, .any, .any, .any, .any, .any, .any, .any, .any, .any, .any, .any, .any, .any, .any, .any, .any, .any, .any, .any, .any, .any, .any, .any, .any, .any, .any, .any, .any, .any, .any, .any, .any, .any, .any, .any, .any, .any, .any, .any, .any, .any, .any, .any, .any, .any, .any, .any, .any, .any, .any, .any, .any, .any, .any, .any, .any, .any, .any, .any, .any, .any, .any, .any, .any], []⟩ : S)) (fun k => k ≤ a.length ∧ a.take k = b.take k) (fun k => a.length - k) 0 (Wk.ren 0 [] hX rfl (by decide) (by simp) (by simp) (by simp) (by simp)) ⟨by simp, by simp⟩ ?_
  rintro k ⟨hk, hinv⟩
  refine vcB_sound [6] h.mo _ _ _ (by kernel_rfl) ?_
  rcases Nat.lt_or_ge k a.length with hlt | hge
  case inr =>
    have hkl : k = a.length := by omega
    subst hkl
    have hall := take_eq_all q4 hinv
    rw [eqB_yes hall]
    simp
  have hlt2 : k < b.length := by omega
  have hk1 := wrap_succ hlt hl
  have hmem := List.getElem_mem hlt
  obtain ⟨cb, ce⟩ := hC _ hmem
  have hso := hok _ hmem
  have hno : a[k] ≠ b[k] → eqB a b = false := fun q => eqB_no (take_no hlt hlt2 q)
  have hyes : a[k] = b[k] → a.take (k + 1) = b.take (k + 1) := take_step hlt hlt2 hinv
  have hge1 : a[k]? = some a[k] := List.getElem?_eq_getElem hlt
  have hge2 : b[k]? = some b[k] := List.getElem?_eq_getElem hlt2
  simp [hlt]
  refine awp_tree (.take 0 (.take 1 (.take 2 (.take 3 (.take 4 (.take 5 (.take 6 (.take 7 (.alt 8 (.alt 9 (.alt 10 (.alt 11 .done .stop) .stop) .stop) (.alt 9 (.alt 8 (.alt 10 (.alt 11 .done .stop) .stop) .stop) .stop)))))))))) _ h.mo (by kernel_rfl) (by decide) (by kernel_rfl) (by rfl) ?_
  simp (config := {maxSteps := 8000000}) [hlt, hlt2]
  generalize a[k] = s at *
  generalize b[k] = t at *
  obtain ⟨_, _, hE, hF, ⟨hal, hao⟩, ⟨hv, hw⟩, _, _⟩ := okS hso
  have hsB := sB_iff s t
  simp only [sB8, sB7, sB6, sB5, sB4, sB3, sB2, sB1, sB0] at hsB
  refine ⟨?_, ?_⟩
  all_goals
    by_cases q1 : s.fOp = t.fOp
    case neg => simp [q1, hno (by rintro rfl; exact q1 rfl)]
    by_cases q2 : s.fName = t.fName
    case neg => simp [q1, q2, hno (by rintro rfl; exact q2 rfl)]
    by_cases q3 : s.fOf = t.fOf
    case neg => simp [q1, q2, q3, hno (by rintro rfl; exact q3 rfl)]
    by_cases q5 : s.fFlag = t.fFlag
    case neg => simp [q1, q2, q3, q5, hno (by rintro rfl; exact q5 rfl)]
    simp [q1, q2, q3, q5]
    refine xcall_fn (c_RSame s.fE hE t.fE) (by simp) ?_
    by_cases q6 : s.fE = t.fE
    case neg => rw [sameB_no q6]; simp [hno (by rintro rfl; exact q6 rfl)]
    rw [q6, sameB_self]
    simp
    refine xcall_fn (c_RSame s.fF hF t.fF) (by simp) ?_
    by_cases q7 : s.fF = t.fF
    case neg => rw [sameB_no q7]; simp [hno (by rintro rfl; exact q7 rfl)]
    rw [q7, sameB_self]
    simp
    refine xcall_fn (c_sameExprs s.fArgs t.fArgs hal hao) (by simp) ?_
    by_cases q8 : s.fArgs = t.fArgs
    case neg => rw [eqB_no q8]; simp [hno (by rintro rfl; exact q8 rfl)]
    rw [eqB_yes q8]
    simp
    refine xcall_fn (c_RDSame s.fDist t.fDist hv hw) (by simp) ?_
    by_cases q9 : s.fDist = t.fDist
    case neg => simp [q9, hno (by rintro rfl; exact q9 rfl)]
    simp [q9]
    refine xcall_fn (cb t.fBody) (by simp) ?_
    by_cases q10 : s.fBody = t.fBody
    case neg => rw [eqB_no q10]; simp [hno (by rintro rfl; exact q10 rfl)]
    rw [eqB_yes q10]
    simp
    refine xcall_fn (ce t.fElse) (by simp) ?_
    by_cases q11 : s.fElse = t.fElse
    case neg => rw [eqB_no q11]; simp [hno (by rintro rfl; exact q11 rfl)]
    rw [eqB_yes q11]
    have hst : s = t := by
      rw [← eqB_iff, ← hsB]
      simp [q1, q2, q3, q5, q9, eqB_iff, q6, q7, q8, q10, q11]
    simp
    exact ⟨k + 1, Wk.ren 0 [] hX rfl (by decide) (by simp [hk1]) (by simp) (by simp) (by simp), ⟨by omega, hyes hst⟩, by omega⟩
end Go.Proofs.Ytadllkhmihbfhaa
