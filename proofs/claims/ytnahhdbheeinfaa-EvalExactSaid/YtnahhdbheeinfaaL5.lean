/- Chapter 15: values of expressions: the law of all results, over any program that has the text. -/
import Derived.Test.YtnahhdbheeinfaaA1
import Derived.Test.YtnahhdbheeinfaaE9
namespace Go.Proofs.Ytnahhdbheeinfaa
open Go.AL
variable {P : Program} [h : Facts P]

theorem c_All (v : TView) (l : List TExpr) (hl : l.length ≤ 20) (hok : ∀ e ∈ l, e.ok ∧ cntE e ≤ 4000000000000000000) : FCall P 19 [.agg v.cells, Ls false l] (fun r => r = Ls false (l.map (exprZ v))) := by
  refine fcall_of h.f19 rfl (by decide) h.mo (by kernel_rfl) fun X hX => ?_
  simp
  refine awp_loop (σ := Nat) (fun k => (⟨[.any, .any, .pto 0 6 0 0, .any, .any, B 1 ((l.take k).map (exprZ v)), .any, .any, Ls false l, .int .i64 l.length, .int .i64 k, .any, .any, .any, .any, .any, .any, .any, .any, .any, .any, .any], [⟨29, 6, [.agg v.cells], 0, true⟩, RW 3 ((l.take k).map (exprZ v))]⟩ : S)) (fun k => k ≤ l.length) (fun k => l.length - k) 0 (Wk.ren 0 [0, 1] hX rfl (by decide) (by simp) (by simp) (by simp) (by simp)) (by omega) ?_
  rintro k hk
  refine vc_sound h.mo _ _ _ (by kernel_rfl) ?_
  rcases Nat.lt_or_ge k l.length with hlt | hge
  · have hk1 := wrap_succ hlt (by omega)
    obtain ⟨o1, o2⟩ := hok _ (List.getElem_mem hlt)
    have hlt2 : ((l.take k).map (exprZ v)).length = k := by simp; omega
    have htk : (l.take (k + 1)).map (exprZ v) = (l.take k).map (exprZ v) ++ [exprZ v l[k]] := by rw [List.take_succ_eq_append_getElem hlt, List.map_append]; rfl
    generalize (l.take k).map (exprZ v) = m at *
    simp [hlt]
    refine xcall_fn (c_Expr v l[k] o1 o2) (by simp) ?_
    simp -- G
    refine ⟨⟨by omega, by omega⟩, ?_⟩
    rw [List.map_take] at htk
    exact ⟨k + 1, Wk.ren 0 [0, 4] hX rfl (by decide) (by simp [hk1, htk]) (by simp) (by simp) (by simp [htk]), by omega, by omega⟩
  · have hkl : k = l.length := by omega
    subst hkl
    simp
set_option maxHeartbeats 4000000 in
theorem c_EvalExact (v : TView) (l : List TExpr) (hok : ∀ e ∈ l, e.ok) : FCall P 8 [.agg v.cells, Ls false l] (fun r => r = .bool true) := by
  refine fcall_ofB [14, 15] h.f8 rfl (by decide) h.mo (by kernel_rfl) fun X hX => ?_
  by_cases h20 : 20 < l.length
  · have h20i : (20 : Int) < (l.length : Int) := by omega
    simp [h20i]
    refine xcall_fn c_awake (by simp) ?_
    simp
  have h20' : l.length ≤ 20 := by omega
  have h20i : ¬ (20 : Int) < (l.length : Int) := by omega
  have h20j : (l.length : Int) ≤ 20 := by omega
  simp [h20i]
  refine awp_loop (σ := Nat) (fun k => (⟨[.any, Ls false l, .pto 0 6 0 0, .any, .any, .int .i64 k, .any, .any, .any, .any, .any, .any, .any, .any, .any, .any, .any, .any, .any, .any, .any, .any, .any, .any, .any, .any, .any, .any, .any, .any, .any, .any, .any, .any, .any, .any, .any, .any, .any, .any, .any, .any, .any, .any, .any, .any, .any, .any, .any, .any, .any, .any, .any, .any, .any, .any, .any, .any, .any, .any, .any, .any, .any, .any, .any, .any, .any, .any, .any, .any, .any, .any, .any, .any], [⟨29, 6, [.agg v.cells], 0, true⟩]⟩ : S)) (fun k => k ≤ l.length ∧ ∀ j (hj : j < l.length), j < k → fewB l[j] = true) (fun k => l.length - k) 0 (Wk.ren 0 [0] hX rfl (by decide) (by simp) (by simp) (by simp) (by simp)) ⟨by omega, by simp⟩ ?_
  rintro k ⟨hk, hinv⟩
  refine vcB_sound [14, 15] h.mo _ _ _ (by kernel_rfl) ?_
  rcases Nat.lt_or_ge k l.length with hlt | hge
  · have hk1 := wrap_succ hlt (by omega)
    have hmem := List.getElem_mem hlt
    simp [hlt]
    refine xcall_fn (c_few l[k] (hok _ hmem)) (by simp) ?_
    cases hf : fewB l[k]
    · simp
      refine xcall_fn c_awake (by simp) ?_
      simp
    · simp
      refine ⟨k + 1, Wk.ren 0 [0] hX rfl (by decide) (by simp [hk1]) (by simp) (by simp) (by simp), ⟨by omega, fun j hj hjk => ?_⟩, by omega⟩
      by_cases e : j = k
      · subst e; exact hf
      · exact hinv j hj (by omega)
  have hkl : k = l.length := by omega
  subst hkl
  have hall : ∀ e ∈ l, e.ok ∧ cntE e ≤ 4000000000000000000 := fun e he => by
    obtain ⟨j, hj, rfl⟩ := List.getElem_of_mem he
    have := (fewB_cnt (hinv j hj hj)).1
    exact ⟨hok _ he, by omega⟩
  simp
  refine xcall_fn (c_All v l h20' hall) (by simp) ?_
  simp
  refine awp_loop (σ := Nat) (fun k => (⟨[.any, Ls false l, .pto 0 6 0 0, .any, .any, .any, Ls false (l.map (exprZ v)), .int .i64 k, .any, .any, .any, .any, .any, .any, .any, .any, .any, .any, .any, .any, .any, .any, .any, .any, .any, .any, .any, .any, .any, .any, .any, .any, .any, .any, .any, .any, .any, .any, .any, .any, .any, .any, .any, .any, .any, .any, .any, .any, .any, .any, .any, .any, .any, .any, .any, .any, .any, .any, .any, .any, .any, .any, .any, .any, .any, .any, .any, .any, .any, .any, .any, .any, .any, .any], [⟨29, 6, [.agg v.cells], 0, true⟩]⟩ : S)) (fun k => k ≤ l.length) (fun k => l.length - k) 0 (Wk.ren 0 [0] hX rfl (by decide) (by simp) (by simp) (by simp) (by simp)) (by omega) ?_
  rintro k hk
  refine vcB_sound [14, 15] h.mo _ _ _ (by kernel_rfl) ?_
  rcases Nat.lt_or_ge k l.length with hlt | hge
  · have hk1 := wrap_succ hlt (by omega)
    obtain ⟨o1, o2⟩ := hall _ (List.getElem_mem hlt)
    have c1 := c_Expr (P := P) v l[k] o1 o2
    have c2 := c_RExpr (P := P) v l[k] o1 o2
    have c3 := c_Truth (P := P) v l[k] o1 o2
    simp [hlt]
    refine awp_quiet [0, 1, 2, 3, 4, 5, 6] _ h.mo (by kernel_rfl) (by decide) (by kernel_rfl) (by rfl) ?_
    simp [hlt]
    refine ⟨_, c1, ?_⟩
    refine awp_quiet [0, 1, 2, 3, 4, 5, 6, 7, 8, 9, 10, 11, 12, 13, 14, 15, 16, 17, 18, 19, 20, 21, 23, 24, 22, 25, 26] _ h.mo (by kernel_rfl) (by decide) (by kernel_rfl) (by rfl) ?_
    simp [hlt]
    refine ⟨_, c2, ?_⟩
    simp [hlt]
    refine ⟨_, c3, ?_⟩
    simp
    exact ⟨k + 1, Wk.ren 0 [0] hX rfl (by decide) (by simp [hk1]) (by simp) (by simp) (by simp), by omega, by omega⟩
  · have hkl : k = l.length := by omega
    subst hkl
    simp
    refine xcall_fn c_awake (by simp) ?_
    simp
end Go.Proofs.Ytnahhdbheeinfaa
