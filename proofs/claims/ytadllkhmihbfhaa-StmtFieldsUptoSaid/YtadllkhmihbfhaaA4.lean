/- Chapter 10: statements: the reference's Targets, over any program that has the text. -/
import Derived.Test.YtadllkhmihbfhaaA2
namespace Go.Proofs.Ytadllkhmihbfhaa
open Go.AL
variable {P : Program} [h : Facts P]

theorem cntT_take {l : List TStmt} {k : Nat} (hlt : k < l.length) : cntT (l.take k) + (1 + cntT l[k].fBody + cntT l[k].fElse) ≤ cntT l := by
  have := cntT_app (l.take k) (l.drop k)
  rw [List.take_append_drop, List.drop_eq_getElem_cons hlt, cntT_cons, cntS_eq] at this
  omega
theorem flT_take {α : Type} (f : TStmt → List α) {l : List TStmt} {k : Nat} (hlt : k < l.length) : flT f (l.take (k + 1)) = flT f (l.take k) ++ f l[k] ++ flT f l[k].fBody ++ flT f l[k].fElse := by
  rw [List.take_succ_eq_append_getElem hlt, flT_app, flT_cons, flT_nil, List.append_nil, flS_eq]
  simp only [List.append_assoc]
set_option maxHeartbeats 4000000 in
theorem c_RTargets : ∀ l : List TStmt, l.length ≤ 9223372036854775807 → (∀ s ∈ l, s.ok) → cntT l ≤ 1000000 → FCall P 19 [Ls false l] (fun r => r = Ls false (flT tgF l)) := by
  refine stmt_ind (C := fun l => cntT l ≤ 1000000 → FCall P 19 [Ls false l] (fun r => r = Ls false (flT tgF l))) fun l hl hok hC hc => ?_
  refine fcall_ofB [6] h.f19 rfl (by decide) h.mo (by kernel_rfl) fun X hX => ?_
  simp
  refine awp_loop (σ := Nat) (fun k => (⟨[Ls false l, .any, .any, B 0 (flT tgF (l.take k)), .int .i64 k, .any, .any, .any, .any, .any, .any, .any, .any, .any, .any, .any, .any, .any, .any, .any, .any, .any, .any, .any, .any, .any, .any, .any, .any, .any, .any, .any, .any, .any, .any, .any, .any, .any, .any, .any, .any, .any, .any, .any, .any, .any, .any, .any, .any, .any, .any, .any, .any, .any, .any, .any, .any, .any, .any, .any, .any, .any, .any], [RF 51 (flT tgF (l.take k)) 0]⟩ : S)) (fun k => k ≤ l.length) (fun k => l.length - k) 0 (Wk.ren 0 [0] hX rfl (by decide) (by simp [flT_nil, B]) (by simp [flT_nil, B]) (by simp) (by simp [flT_nil])) (by omega) ?_
  rintro k hk
  refine vcB_sound [6] h.mo _ _ _ (by kernel_rfl) ?_
  rcases Nat.lt_or_ge k l.length with hlt | hge
  case inr =>
    have hge' : ¬ k < l.length := by omega
    rw [List.take_of_length_le (by omega)]
    simp [hge']
  have hk1 := wrap_succ hlt hl
  have hmem := List.getElem_mem hlt
  obtain ⟨cb, ce⟩ := hC _ hmem
  have hct := cntT_take hlt
  have htl := flT_len tgF tgF_len (l.take k)
  have hbl := flT_len tgF tgF_len l[k].fBody
  have hel := flT_len tgF tgF_len l[k].fElse
  have cb := cb (by omega)
  have ce := ce (by omega)
  have hft := flT_take tgF hlt
  generalize flT tgF (l.take k) = out at *
  generalize flT tgF l[k].fBody = bb at *
  generalize flT tgF l[k].fElse = ee at *
  by_cases o1 : l[k].fOp = 13
  · have hs : tgF l[k] = [⟨l[k].fOf, l[k].fName⟩] := by unfold tgF; rw [if_pos o1]
    rw [hs] at hft
    have o2 : ¬ l[k].fOp = 14 := by omega
    simp [hlt, o1]
    refine awp_tree (.take 0 (.take 1 (.take 2 (.take 3 (.take 4 (.take 5 (.take 6 (.take 7 (.take 8 (.take 9 (.take 10 (.take 11 (.alt 12 (.alt 13 (.take 14 .done) .stop) .stop))))))))))))) _ h.mo (by kernel_rfl) (by decide) (by kernel_rfl) (by rfl) ?_
    simp [hlt, o1]
    refine ⟨⟨by omega, by omega⟩, ?_⟩
    have e1 : (A.own 2 0 (out.length + 1) (out.length + 1) false) = B 2 (out ++ [⟨l[k].fOf, l[k].fName⟩]) := by simp [B]
    have e2 : (⟨51, 2, out.map Enc.enc ++ [A.agg [A.str l[k].fOf, A.str l[k].fName]], 0, true⟩ : Row) = RF 51 (out ++ [(⟨l[k].fOf, l[k].fName⟩ : TPair)]) 0 := by rw [RF_ne (by simp)]; simp
    rw [e1, e2]
    have hml : (out ++ [(⟨l[k].fOf, l[k].fName⟩ : TPair)]).length = out.length + 1 := by simp
    generalize out ++ [(⟨l[k].fOf, l[k].fName⟩ : TPair)] = m at *
    refine xcall_fn cb (by simp) ?_
    simp [hlt]
    refine ⟨⟨by omega, by omega⟩, ?_⟩
    refine xcall_fn ce (by simp) ?_
    simp
    refine ⟨⟨by omega, by omega⟩, ?_⟩
    rw [List.append_assoc] at hft
    exact ⟨k + 1, Wk.ren 0 [4] hX rfl (by decide) (by simp [hk1, hft]) (by simp) (by simp) (by simp [hft]), by omega, by omega⟩
  by_cases o2 : l[k].fOp = 14
  · have hs : tgF l[k] = [⟨[], l[k].fName⟩] := by unfold tgF; rw [if_neg o1, if_pos o2]
    rw [hs] at hft
    simp [hlt, o2]
    refine ⟨⟨by omega, by omega⟩, ?_⟩
    have e1 : (A.own 2 0 (out.length + 1) (out.length + 1) false) = B 2 (out ++ [⟨[], l[k].fName⟩]) := by simp [B]
    have e2 : (⟨51, 2, out.map Enc.enc ++ [A.agg [A.str [], A.str l[k].fName]], 0, true⟩ : Row) = RF 51 (out ++ [(⟨[], l[k].fName⟩ : TPair)]) 0 := by rw [RF_ne (by simp)]; simp
    rw [e1, e2]
    have hml : (out ++ [(⟨[], l[k].fName⟩ : TPair)]).length = out.length + 1 := by simp
    generalize out ++ [(⟨[], l[k].fName⟩ : TPair)] = m at *
    refine xcall_fn cb (by simp) ?_
    simp [hlt]
    refine ⟨⟨by omega, by omega⟩, ?_⟩
    refine xcall_fn ce (by simp) ?_
    simp
    refine ⟨⟨by omega, by omega⟩, ?_⟩
    rw [List.append_assoc] at hft
    exact ⟨k + 1, Wk.ren 0 [4] hX rfl (by decide) (by simp [hk1, hft]) (by simp) (by simp) (by simp [hft]), by omega, by omega⟩
  · have hs : tgF l[k] = [] := by unfold tgF; rw [if_neg o1, if_neg o2]
    rw [hs, List.append_nil] at hft
    simp [hlt, o1, o2]
    refine xcall_fn cb (by simp) ?_
    simp [hlt]
    refine ⟨⟨by omega, by omega⟩, ?_⟩
    refine xcall_fn ce (by simp) ?_
    simp
    refine ⟨⟨by omega, by omega⟩, ?_⟩
    rw [List.append_assoc] at hft
    exact ⟨k + 1, Wk.ren 0 [2] hX rfl (by decide) (by simp [hk1, hft]) (by simp) (by simp) (by simp [hft]), by omega, by omega⟩
end Go.Proofs.Ytadllkhmihbfhaa
