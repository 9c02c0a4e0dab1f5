/- Chapter 10: statements: the reference's Uses, over any program that has the text. -/
import Derived.Test.YtadllkhmihbfhaaK3
namespace Go.Proofs.Ytadllkhmihbfhaa
open Go.AL
variable {P : Program} [h : Facts P]

omit h in
theorem use_step {A' B' C' D' : List (List UInt8)} : insL (insL (insL [] A') B') (insL [] C' ++ insL [] D') = insL [] (A' ++ B' ++ C' ++ D') := by
  have i0 : ∀ ns, incr (insL [] ns) := fun ns => insL_incr ns [] List.Pairwise.nil
  refine incr_unique (insL_incr _ _ (insL_incr _ _ (i0 _))) (i0 _) fun x => ?_
  simp only [insL_mem, List.mem_append, List.not_mem_nil, false_or]
  constructor
  · rintro ((h | h) | h | h) <;> simp [h]
  · rintro (((h | h) | h) | h) <;> simp [h]
omit h in
theorem useL_len (l : List TStmt) : (useL l).length ≤ cntT l := by
  have h1 := insL_len (flT usF l) []
  have h2 := flT_len usF usF_len l
  unfold useL
  simp at h1
  omega
omit h in
theorem useL_incr (l : List TStmt) : incr (useL l) := insL_incr _ [] List.Pairwise.nil
theorem shA_B (n : Nat) (m : List (List UInt8)) : shA n (B 0 m) = B n m := rfl
theorem grA_B0 (id n : Nat) (m : List (List UInt8)) : grA id n (B 0 m) = B id m := rfl
theorem grA_B4 (id n : Nat) (m : List (List UInt8)) : grA id n (B 4 m) = B (n + 3) m := rfl
omit h in
theorem insL_step {acc inner : List (List UInt8)} {j : Nat} (hj : j < inner.length) : insL acc (inner.take (j + 1)) = insF inner[j] (insL acc (inner.take j)) false := by
  rw [List.take_succ_eq_append_getElem hj, insL_app]
  rfl
set_option maxHeartbeats 8000000 in
theorem c_RUses : ∀ l : List TStmt, l.length ≤ 9223372036854775807 → (∀ s ∈ l, s.ok) → cntT l ≤ 1000000 → XCall P 22 [Ls false l] [] (fun r L => (∀ x ∈ L, noidL x.es = true) ∧ frsh r = true ∧ r = B 0 (useL l) ∧ L = [RF 9 (useL l) 0]) := by
  refine stmt_ind (C := fun l => cntT l ≤ 1000000 → XCall P 22 [Ls false l] [] (fun r L => (∀ x ∈ L, noidL x.es = true) ∧ frsh r = true ∧ r = B 0 (useL l) ∧ L = [RF 9 (useL l) 0])) fun l hl hok hC hc => ?_
  refine xcall_ofB [8] h.f22 rfl (by decide) h.mo (by kernel_rfl) fun X hX => ?_
  have hX : X.μ.length ≤ 0 := by simpa using hX
  simp
  refine awp_loop (σ := Nat) (fun k => (⟨[Ls false l, .any, .any, B 0 (useL (l.take k)), .int .i64 k, .any, .any, .any, .any, .any, .any, .any, .any, .any, .any, .any, .any, .any, .any, .any, .any, .any, .any, .any, .any, .any, .any, .any, .any, .any, .any, .any, .any, .any, .any, .any, .any, .any, .any, .any, .any, .any, .any, .any, .any, .any, .any, .any, .any, .any, .any, .any, .any, .any], [RF 9 (useL (l.take k)) 0]⟩ : S)) (fun k => k ≤ l.length) (fun k => l.length - k) 0 (Wk.ren 0 [0] hX rfl (by decide) (by simp [useL, flT_nil, insL_nil, B]) (by simp [useL, flT_nil, insL_nil, B]) (by simp) (by simp [useL, flT_nil, insL_nil])) (by omega) ?_
  rintro k hk
  refine vcB_sound [8] h.mo _ _ _ (by kernel_rfl) ?_
  rcases Nat.lt_or_ge k l.length with hlt | hge
  case inr =>
    have hge' : ¬ k < l.length := by omega
    rw [List.take_of_length_le (by omega)]
    simp [hge']
  have hk1 := wrap_succ hlt hl
  have hmem := List.getElem_mem hlt
  obtain ⟨cb, ce⟩ := hC _ hmem
  have hct := cntT_take hlt
  have cb := cb (by omega)
  have ce := ce (by omega)
  have hft := flT_take usF hlt
  have hout : useL (l.take (k + 1)) = insL (insL (useL (l.take k)) (usF l[k])) (useL l[k].fBody ++ useL l[k].fElse) := by
    unfold useL
    rw [use_step, hft]
  have hol := useL_len (l.take k)
  have hoi := useL_incr (l.take k)
  have hbl := useL_len l[k].fBody
  have hel := useL_len l[k].fElse
  have hus := usF_len l[k]
  have hob := c_object10 (P := P) l[k]
  have hil := insL_len (usF l[k]) (useL (l.take k))
  have hii := insL_incr (usF l[k]) _ hoi
  generalize useL (l.take k) = out at *
  generalize useL l[k].fBody = bb at *
  generalize useL l[k].fElse = ee at *
  rcases hq : usF l[k] with _ | ⟨x, t⟩
  · rw [hq] at hob hout hil hii
    simp only [List.isEmpty_nil, Bool.not_true] at hob
    rw [insL_nil] at hout hil hii
    simp [hlt]
    refine xcall_fn hob (by simp) ?_
    simp
    refine awp_weaken (s' := (⟨[Ls false l, .any, .any, B 0 out, .int .i64 k, .any, .any, .any, .any, .any, .any, .any, .any, .any, .any, .any, .any, .any, .any, .any, .any, .any, .any, .any, .any, .any, .any, .any, .any, .any, .any, .any, .any, .any, .any, .any, .any, .any, .any, .any, .any, .any, .any, .any, .any, .any, .any, .any, .any, .any, .any, .any, .any, .any], [RF 9 out 0]⟩ : S)) (Wk.ren 0 [0] hX rfl (by decide) (by simp) (by simp) (by simp) (by simp)) ?_
    refine awp_ops ?_
    simp [hlt]
    refine xcall_fresh cb (by simp) ?_
    rintro _ _ ⟨rfl, rfl⟩
    rw [shA_B]
    simp [hlt]
    refine xcall_fresh ce (by simp) ?_
    rintro _ _ ⟨rfl, rfl⟩
    rw [shA_B]
    simp
    refine ⟨⟨by omega, by omega⟩, ?_⟩
    have hnl : (bb ++ ee).length ≤ 1000000 := by rw [List.length_append]; omega
    generalize bb ++ ee = inner at *
    refine awp_loop (σ := Nat) (fun j => (⟨[Ls false l, .any, .any, B 0 (insL out (inner.take j)), .int .i64 k, .any, .any, B 1 inner, .int .i64 j, .any, .any, .any, .any, .any, .any, .any, .any, .any, .any, .any, .any, .any, .any, .any, .any, .any, .any, .any, .any, .any, .any, .any, .any, .any, .any, .any, .any, .any, .any, .any, .any, .any, .any, .any, .any, .any, .any, .any, .any, .any, .any, .any, .any, .any], [RF 9 (insL out (inner.take j)) 0, RF 9 inner 0]⟩ : S)) (fun j => j ≤ inner.length) (fun j => inner.length - j) 0 (Wk.ren 0 [0, 3] hX rfl (by decide) (by simp [insL_nil]) (by simp [insL_nil]) (by simp) (by simp [insL_nil])) (by omega) ?_
    rintro j hj
    refine vcB_sound [8] h.mo _ _ _ (by kernel_rfl) ?_
    rcases Nat.lt_or_ge j inner.length with hjt | hjg
    · have hj1 := wrap_succ hjt (by omega)
      have hst := insL_step (acc := out) hjt
      have hai := insL_incr (inner.take j) _ hii
      have hal := insL_len (inner.take j) out
      rw [List.length_take] at hal
      generalize insL out (inner.take j) = acc at *
      simp [hjt]
      refine xcall_grow 0 (c_with acc inner[j] (by omega) hai) (by simp) (by simp) (by simp) (by simp) ?_
      rintro r r1 L (⟨he, rfl, rfl, rfl⟩ | ⟨rfl, rfl, rfl⟩)
      · rw [← he] at hst
        rw [grA_B0]
        simp
        exact ⟨j + 1, Wk.ren 0 [0, 1] hX rfl (by decide) (by simp [hj1, hst]) (by simp [hst]) (by simp) (by simp [hst]), by omega, by omega⟩
      · rw [grA_B4]
        simp
        exact ⟨j + 1, Wk.ren 0 [5, 1] hX rfl (by decide) (by simp [hj1, hst]) (by simp [hst]) (by simp) (by simp [hst]), by omega, by omega⟩
    · have hge' : ¬ j < inner.length := by omega
      rw [List.take_of_length_le (by omega), ← hout]
      simp [hge']
      exact ⟨k + 1, Wk.ren 0 [0] hX rfl (by decide) (by simp [hk1]) (by simp) (by simp) (by simp), by omega, by omega⟩
  · have ht : t = [] := by
      rw [hq] at hus
      simp at hus
      exact hus
    subst ht
    rw [hq] at hob hout hil hii
    simp only [List.isEmpty_cons, Bool.not_false] at hob
    rw [insL_cons, insL_nil] at hout hil hii
    simp only [List.length_cons, List.length_nil] at hil
    simp [hlt]
    refine xcall_fn hob (by simp) ?_
    simp
    refine xcall_grow 0 (c_with out x (by omega) hoi) (by simp) (by simp) (by simp) (by simp) ?_
    rintro r r1 L (⟨he, rfl, rfl, rfl⟩ | ⟨rfl, rfl, rfl⟩)
    · rw [← he] at hout hil hii
      rw [grA_B0]
      simp
      refine awp_weaken (s' := (⟨[Ls false l, .any, .any, B 0 out, .int .i64 k, .any, .any, .any, .any, .any, .any, .any, .any, .any, .any, .any, .any, .any, .any, .any, .any, .any, .any, .any, .any, .any, .any, .any, .any, .any, .any, .any, .any, .any, .any, .any, .any, .any, .any, .any, .any, .any, .any, .any, .any, .any, .any, .any, .any, .any, .any, .any, .any, .any], [RF 9 out 0]⟩ : S)) (Wk.ren 0 [0] hX rfl (by decide) (by simp) (by simp) (by simp) (by simp)) ?_
      refine awp_ops ?_
      simp [hlt]
      refine xcall_fresh cb (by simp) ?_
      rintro _ _ ⟨rfl, rfl⟩
      rw [shA_B]
      simp [hlt]
      refine xcall_fresh ce (by simp) ?_
      rintro _ _ ⟨rfl, rfl⟩
      rw [shA_B]
      simp
      refine ⟨⟨by omega, by omega⟩, ?_⟩
      have hnl : (bb ++ ee).length ≤ 1000000 := by rw [List.length_append]; omega
      generalize bb ++ ee = inner at *
      refine awp_loop (σ := Nat) (fun j => (⟨[Ls false l, .any, .any, B 0 (insL out (inner.take j)), .int .i64 k, .any, .any, B 1 inner, .int .i64 j, .any, .any, .any, .any, .any, .any, .any, .any, .any, .any, .any, .any, .any, .any, .any, .any, .any, .any, .any, .any, .any, .any, .any, .any, .any, .any, .any, .any, .any, .any, .any, .any, .any, .any, .any, .any, .any, .any, .any, .any, .any, .any, .any, .any, .any], [RF 9 (insL out (inner.take j)) 0, RF 9 inner 0]⟩ : S)) (fun j => j ≤ inner.length) (fun j => inner.length - j) 0 (Wk.ren 0 [0, 3] hX rfl (by decide) (by simp [insL_nil]) (by simp [insL_nil]) (by simp) (by simp [insL_nil])) (by omega) ?_
      rintro j hj
      refine vcB_sound [8] h.mo _ _ _ (by kernel_rfl) ?_
      rcases Nat.lt_or_ge j inner.length with hjt | hjg
      · have hj1 := wrap_succ hjt (by omega)
        have hst := insL_step (acc := out) hjt
        have hai := insL_incr (inner.take j) _ hii
        have hal := insL_len (inner.take j) out
        rw [List.length_take] at hal
        generalize insL out (inner.take j) = acc at *
        simp [hjt]
        refine xcall_grow 0 (c_with acc inner[j] (by omega) hai) (by simp) (by simp) (by simp) (by simp) ?_
        rintro r r1 L (⟨he, rfl, rfl, rfl⟩ | ⟨rfl, rfl, rfl⟩)
        · rw [← he] at hst
          rw [grA_B0]
          simp
          exact ⟨j + 1, Wk.ren 0 [0, 1] hX rfl (by decide) (by simp [hj1, hst]) (by simp [hst]) (by simp) (by simp [hst]), by omega, by omega⟩
        · rw [grA_B4]
          simp
          exact ⟨j + 1, Wk.ren 0 [5, 1] hX rfl (by decide) (by simp [hj1, hst]) (by simp [hst]) (by simp) (by simp [hst]), by omega, by omega⟩
      · have hge' : ¬ j < inner.length := by omega
        rw [List.take_of_length_le (by omega), ← hout]
        simp [hge']
        exact ⟨k + 1, Wk.ren 0 [0] hX rfl (by decide) (by simp [hk1]) (by simp) (by simp) (by simp), by omega, by omega⟩
    · rw [grA_B4]
      generalize insF x out false = out at *
      simp
      refine awp_weaken (s' := (⟨[Ls false l, .any, .any, B 0 out, .int .i64 k, .any, .any, .any, .any, .any, .any, .any, .any, .any, .any, .any, .any, .any, .any, .any, .any, .any, .any, .any, .any, .any, .any, .any, .any, .any, .any, .any, .any, .any, .any, .any, .any, .any, .any, .any, .any, .any, .any, .any, .any, .any, .any, .any, .any, .any, .any, .any, .any, .any], [RF 9 out 0]⟩ : S)) (Wk.ren 0 [4] hX rfl (by decide) (by simp) (by simp) (by simp) (by simp)) ?_
      refine awp_ops ?_
      simp [hlt]
      refine xcall_fresh cb (by simp) ?_
      rintro _ _ ⟨rfl, rfl⟩
      rw [shA_B]
      simp [hlt]
      refine xcall_fresh ce (by simp) ?_
      rintro _ _ ⟨rfl, rfl⟩
      rw [shA_B]
      simp
      refine ⟨⟨by omega, by omega⟩, ?_⟩
      have hnl : (bb ++ ee).length ≤ 1000000 := by rw [List.length_append]; omega
      generalize bb ++ ee = inner at *
      refine awp_loop (σ := Nat) (fun j => (⟨[Ls false l, .any, .any, B 0 (insL out (inner.take j)), .int .i64 k, .any, .any, B 1 inner, .int .i64 j, .any, .any, .any, .any, .any, .any, .any, .any, .any, .any, .any, .any, .any, .any, .any, .any, .any, .any, .any, .any, .any, .any, .any, .any, .any, .any, .any, .any, .any, .any, .any, .any, .any, .any, .any, .any, .any, .any, .any, .any, .any, .any, .any, .any, .any], [RF 9 (insL out (inner.take j)) 0, RF 9 inner 0]⟩ : S)) (fun j => j ≤ inner.length) (fun j => inner.length - j) 0 (Wk.ren 0 [0, 3] hX rfl (by decide) (by simp [insL_nil]) (by simp [insL_nil]) (by simp) (by simp [insL_nil])) (by omega) ?_
      rintro j hj
      refine vcB_sound [8] h.mo _ _ _ (by kernel_rfl) ?_
      rcases Nat.lt_or_ge j inner.length with hjt | hjg
      · have hj1 := wrap_succ hjt (by omega)
        have hst := insL_step (acc := out) hjt
        have hai := insL_incr (inner.take j) _ hii
        have hal := insL_len (inner.take j) out
        rw [List.length_take] at hal
        generalize insL out (inner.take j) = acc at *
        simp [hjt]
        refine xcall_grow 0 (c_with acc inner[j] (by omega) hai) (by simp) (by simp) (by simp) (by simp) ?_
        rintro r r1 L (⟨he, rfl, rfl, rfl⟩ | ⟨rfl, rfl, rfl⟩)
        · rw [← he] at hst
          rw [grA_B0]
          simp
          exact ⟨j + 1, Wk.ren 0 [0, 1] hX rfl (by decide) (by simp [hj1, hst]) (by simp [hst]) (by simp) (by simp [hst]), by omega, by omega⟩
        · rw [grA_B4]
          simp
          exact ⟨j + 1, Wk.ren 0 [5, 1] hX rfl (by decide) (by simp [hj1, hst]) (by simp [hst]) (by simp) (by simp [hst]), by omega, by omega⟩
      · have hge' : ¬ j < inner.length := by omega
        rw [List.take_of_length_le (by omega), ← hout]
        simp [hge']
        exact ⟨k + 1, Wk.ren 0 [0] hX rfl (by decide) (by simp [hk1]) (by simp) (by simp) (by simp), by omega, by omega⟩
end Go.Proofs.Ytadllkhmihbfhaa
