/- Chapter 10: statements: sizes of a list, over any program that has the text. -/
import Derived.Test.YtadllkhmihbfhaaG4
namespace Go.Proofs.Ytadllkhmihbfhaa
open Go.AL
variable {P : Program} [h : Facts P]

omit h in
theorem wr3 (m a b : Nat) : wr (wr (wr (wr (m : Int) + 1) + wr (a : Int)) + wr (b : Int)) = wr ((m + (1 + a + b) : Nat) : Int) := by
  rw [wr_add (m : Int), wr_add ((m : Int) + 1), wr_add2 ((m : Int) + 1) a, wr_add ((m : Int) + 1 + a), wr_add2 ((m : Int) + 1 + a) b]
  exact congrArg wr (by omega)
theorem c_RCount : ∀ l : List TStmt, l.length ≤ 9223372036854775807 → (∀ s ∈ l, s.ok) → FCall P 14 [Ls false l] (fun r => r = .int .i64 (wr (cntT l))) := by
  refine stmt_ind fun l hl hok hC => ?_
  refine fcall_ofB [5] h.f14 rfl (by decide) h.mo (by kernel_rfl) fun X hX => ?_
  simp
  refine awp_loop (σ := Nat × Nat) (fun q => (⟨[Ls false l, .any, .any, .int .i64 (wr q.2), .int .i64 q.1, .any, .any, .any, .any, .any, .any, .any, .any, .any, .any, .any, .any, .any, .any, .any, .any, .any, .any, .any, .any, .any, .any, .any], []⟩ : S)) (fun q => q.1 ≤ l.length ∧ q.2 + cntT (l.drop q.1) = cntT l) (fun q => l.length - q.1) (0, 0) (Wk.ren 0 [] hX rfl (by decide) (by simp) (by simp) (by simp) (by simp)) ⟨by simp, by simp⟩ ?_
  rintro ⟨k, m⟩ ⟨hk, hinv⟩
  simp only at hk hinv
  refine vcB_sound [5] h.mo _ _ _ (by kernel_rfl) ?_
  rcases Nat.lt_or_ge k l.length with hlt | hge
  · have hk1 := wrap_succ hlt hl
    have hmem := List.getElem_mem hlt
    obtain ⟨cb, ce⟩ := hC _ hmem
    rw [List.drop_eq_getElem_cons hlt, cntT_cons, cntS_eq] at hinv
    have w1 := wr3 m (cntT l[k].fBody) (cntT l[k].fElse)
    simp [hlt, -Prod.exists]
    refine awp_quiet [0, 1, 2, 3, 4, 5, 6, 9, 10, 11, 12, 13, 7, 8, 14, 15, 16] _ h.mo (by kernel_rfl) (by decide) (by kernel_rfl) (by rfl) ?_
    simp [hlt, -Prod.exists]
    refine ⟨_, cb, ?_⟩
    simp [-Prod.exists]
    refine ⟨_, ce, ?_⟩
    simp [-Prod.exists]
    exact ⟨(k + 1, m + (1 + cntT l[k].fBody + cntT l[k].fElse)), Wk.ren 0 [] hX rfl (by decide) (by simp [hk1]; exact w1) (by simp) (by simp) (by simp), ⟨by omega, by simp only; omega⟩, by omega⟩
  · have hge' : ¬ k < l.length := by omega
    rw [List.drop_eq_nil_of_le (by omega), cntT_nil] at hinv
    have : m = cntT l := by omega
    subst this
    simp [hge']
theorem c_SDepth : ∀ l : List TStmt, l.length ≤ 9223372036854775807 → (∀ s ∈ l, s.ok) → FCall P 15 [Ls false l] (fun r => r = .int .i64 (dpT l)) := by
  refine stmt_ind fun l hl hok hC => ?_
  refine fcall_ofB [5] h.f15 rfl (by decide) h.mo (by kernel_rfl) fun X hX => ?_
  simp
  refine awp_loop (σ := Nat × Int) (fun q => (⟨[.any, .any, .any, .int .i64 q.2, .any, .any, Ls false l, .int .i64 l.length, .int .i64 q.1, .any, .any, .any, .any, .any, .any, .any, .any, .any, .any, .any, .any, .any, .any, .any], []⟩ : S)) (fun q => q.1 ≤ l.length ∧ 0 ≤ q.2 ∧ max q.2 (dpT (l.drop q.1)) = dpT l) (fun q => l.length - q.1) (0, 0) (Wk.ren 0 [] hX rfl (by decide) (by simp) (by simp) (by simp) (by simp)) ⟨by simp, by simp, by simp only [List.drop_zero]; exact Int.max_eq_right (dpT_nn l)⟩ ?_
  rintro ⟨k, m⟩ ⟨hk, hm, hinv⟩
  simp only at hk hm hinv
  refine vcB_sound [5] h.mo _ _ _ (by kernel_rfl) ?_
  rcases Nat.lt_or_ge k l.length with hlt | hge
  · have hk1 := wrap_succ hlt hl
    have hmem := List.getElem_mem hlt
    obtain ⟨cb, ce⟩ := hC _ hmem
    rw [List.drop_eq_getElem_cons hlt, dpT_cons, dpS_eq] at hinv
    simp [hlt, -Prod.exists]
    refine awp_quiet [0, 1, 2, 5, 6, 3, 4, 7, 8, 9, 10] _ h.mo (by kernel_rfl) (by decide) (by kernel_rfl) (by rfl) ?_
    simp [-Prod.exists]
    refine ⟨_, cb, ?_⟩
    simp [-Prod.exists]
    refine ⟨_, ce, ?_⟩
    simp [-Prod.exists]
    exact ⟨(k + 1, max (max m (wr (1 + dpT l[k].fBody))) (wr (1 + dpT l[k].fElse))), Wk.ren 0 [] hX rfl (by decide) (by simp [hk1]) (by simp) (by simp) (by simp), ⟨by omega, by simp only; omega, by simp only; omega⟩, by omega⟩
  · have hge' : ¬ k < l.length := by omega
    rw [List.drop_eq_nil_of_le (by omega), dpT_nil] at hinv
    have : m = dpT l := by omega
    subst this
    simp [hge']
theorem c_SRDepth : ∀ l : List TStmt, l.length ≤ 9223372036854775807 → (∀ s ∈ l, s.ok) → FCall P 16 [Ls false l] (fun r => r = .int .i64 (dpT l)) := by
  refine stmt_ind fun l hl hok hC => ?_
  refine fcall_ofB [5] h.f16 rfl (by decide) h.mo (by kernel_rfl) fun X hX => ?_
  simp
  refine awp_loop (σ := Nat × Int) (fun q => (⟨[Ls false l, .any, .any, .int .i64 q.2, .int .i64 q.1, .any, .any, .any, .any, .any, .any, .any, .any, .any, .any, .any, .any, .any, .any, .any, .any, .any, .any, .any, .any, .any, .any, .any], []⟩ : S)) (fun q => q.1 ≤ l.length ∧ 0 ≤ q.2 ∧ max q.2 (dpT (l.drop q.1)) = dpT l) (fun q => l.length - q.1) (0, 0) (Wk.ren 0 [] hX rfl (by decide) (by simp) (by simp) (by simp) (by simp)) ⟨by simp, by simp, by simp only [List.drop_zero]; exact Int.max_eq_right (dpT_nn l)⟩ ?_
  rintro ⟨k, m⟩ ⟨hk, hm, hinv⟩
  simp only at hk hm hinv
  refine vcB_sound [5] h.mo _ _ _ (by kernel_rfl) ?_
  rcases Nat.lt_or_ge k l.length with hlt | hge
  · have hk1 := wrap_succ hlt hl
    have hmem := List.getElem_mem hlt
    obtain ⟨cb, ce⟩ := hC _ hmem
    rw [List.drop_eq_getElem_cons hlt, dpT_cons, dpS_eq] at hinv
    simp [hlt, -Prod.exists]
    refine awp_quiet [0, 1, 2, 3, 4, 5, 8, 9, 10, 11, 12, 6, 7, 13, 14, 15, 16] _ h.mo (by kernel_rfl) (by decide) (by kernel_rfl) (by rfl) ?_
    simp [hlt, -Prod.exists]
    refine ⟨_, cb, ?_⟩
    simp [-Prod.exists]
    refine ⟨_, ce, ?_⟩
    simp [-Prod.exists]
    exact ⟨(k + 1, max (max m (wr (1 + dpT l[k].fBody))) (wr (1 + dpT l[k].fElse))), Wk.ren 0 [] hX rfl (by decide) (by simp [hk1]) (by simp) (by simp) (by simp), ⟨by omega, by simp only; omega, by simp only; omega⟩, by omega⟩
  · have hge' : ¬ k < l.length := by omega
    rw [List.drop_eq_nil_of_le (by omega), dpT_nil] at hinv
    have : m = dpT l := by omega
    subst this
    simp [hge']
omit h in
theorem wr8 (m a b c d e f : Nat) : wr (wr (wr (wr (wr (wr (wr (wr (m : Int) + 1) + wr (a : Int)) + wr (b : Int)) + (c : Int)) + (d : Int)) + wr (e : Int)) + wr (f : Int)) = wr ((m + (1 + a + b + c + d + e + f) : Nat) : Int) := by
  rw [wr_add (m : Int), wr_add ((m : Int) + 1), wr_add2 ((m : Int) + 1) a, wr_add ((m : Int) + 1 + a), wr_add2 ((m : Int) + 1 + a) b, wr_add ((m : Int) + 1 + a + b), wr_add ((m : Int) + 1 + a + b + c), wr_add ((m : Int) + 1 + a + b + c + d), wr_add2 ((m : Int) + 1 + a + b + c + d) e, wr_add ((m : Int) + 1 + a + b + c + d + e), wr_add2 ((m : Int) + 1 + a + b + c + d + e) f]
  exact congrArg wr (by omega)
theorem c_Size : ∀ l : List TStmt, l.length ≤ 9223372036854775807 → (∀ s ∈ l, s.ok) → FCall P 27 [Ls false l] (fun r => r = .int .i64 (wr (sizT l))) := by
  refine stmt_ind fun l hl hok hC => ?_
  refine fcall_ofB [6] h.f27 rfl (by decide) h.mo (by kernel_rfl) fun X hX => ?_
  simp
  refine awp_loop (σ := Nat × Nat) (fun q => (⟨[Ls false l, .any, .any, .int .i64 (wr q.2), .int .i64 q.1, .any, .any, .any, .any, .any, .any, .any, .any, .any, .any, .any, .any, .any, .any, .any, .any, .any, .any, .any, .any, .any, .any, .any, .any, .any, .any, .any, .any, .any, .any, .any, .any, .any, .any, .any, .any, .any, .any, .any, .any, .any, .any, .any, .any, .any, .any, .any, .any, .any, .any, .any, .any, .any, .any, .any, .any], []⟩ : S)) (fun q => q.1 ≤ l.length ∧ q.2 + sizT (l.drop q.1) = sizT l) (fun q => l.length - q.1) (0, 0) (Wk.ren 0 [] hX rfl (by decide) (by simp) (by simp) (by simp) (by simp)) ⟨by simp, by simp⟩ ?_
  rintro ⟨k, m⟩ ⟨hk, hinv⟩
  simp only at hk hinv
  refine vcB_sound [6] h.mo _ _ _ (by kernel_rfl) ?_
  rcases Nat.lt_or_ge k l.length with hlt | hge
  · have hk1 := wrap_succ hlt hl
    have hmem := List.getElem_mem hlt
    obtain ⟨cb, ce⟩ := hC _ hmem
    obtain ⟨_, _, hE, hF, ⟨hal, hao⟩, ⟨hv, hw⟩, _, _⟩ := okS (hok _ hmem)
    rw [List.drop_eq_getElem_cons hlt, sizT_cons, sizS_eq] at hinv
    simp [hlt, -Prod.exists]
    generalize l[k] = s at *
    have w1 := wr8 m (cntE s.fE) (cntE s.fF) s.fDist.fValues.length s.fDist.fWeights.length (sizT s.fBody) (sizT s.fElse)
    obtain ⟨M, hM⟩ : ∃ M, M = m + (1 + cntE s.fE + cntE s.fF + s.fDist.fValues.length + s.fDist.fWeights.length + sizT s.fBody + sizT s.fElse) := ⟨_, rfl⟩
    rw [← hM] at w1
    refine awp_quiet [0, 1, 2, 3, 6, 7, 10, 11, 12, 13, 15, 16, 17, 18, 20, 21, 24, 25, 4, 5, 8, 9, 14, 19, 22, 23, 26, 27, 28] _ h.mo (by kernel_rfl) (by decide) (by kernel_rfl) (by rfl) ?_
    simp [-Prod.exists]
    refine ⟨_, c_RNodes s.fE hE, ?_⟩
    simp [-Prod.exists]
    refine ⟨_, c_RNodes s.fF hF, ?_⟩
    simp [-Prod.exists]
    refine ⟨_, cb, ?_⟩
    simp [-Prod.exists]
    refine ⟨_, ce, ?_⟩
    simp [w1, -Prod.exists]
    refine awp_loop (σ := Nat × Nat) (fun q => (⟨[Ls false l, .any, .any, .int .i64 (wr q.2), .int .i64 k, .pto 0 21 0 0, .int .i64 q.1, .any, .any, .any, .any, .any, .any, .any, .any, .any, .any, .any, .any, .any, .any, .any, .any, .any, .any, .any, .any, .any, .any, .any, .any, .any, .any, .any, .any, .any, .any, .any, .any, .any, .any, .any, .any, .any, .any, .any, .any, .any, .any, .any, .any, .any, .any, .any, .any, .any, .any, .any, .any, .any, .any], [⟨47, 21, [.agg s.cells], 0, true⟩]⟩ : S)) (fun q => q.1 ≤ s.fArgs.length ∧ q.2 + cntL (s.fArgs.drop q.1) = M + cntL s.fArgs) (fun q => s.fArgs.length - q.1) (0, M) (Wk.ren 0 [0] hX rfl (by decide) (by simp) (by simp) (by simp) (by simp)) ⟨by simp, by simp⟩ ?_
    rintro ⟨j, n⟩ ⟨hj, hinv2⟩
    simp only at hj hinv2
    refine vcB_sound [6] h.mo _ _ _ (by kernel_rfl) ?_
    rcases Nat.lt_or_ge j s.fArgs.length with hjt | hjg
    · have hj1 := wrap_succ hjt hal
      have hjm := List.getElem_mem hjt
      rw [List.drop_eq_getElem_cons hjt, cntL_cons] at hinv2
      have w2 : IntKind.i64.wrap (wr (n : Int) + wr (cntE s.fArgs[j] : Int)) = wr ((n + cntE s.fArgs[j] : Nat) : Int) := by show wr _ = _; rw [wr_add, wr_add2]; rfl
      simp [hjt, -Prod.exists]
      refine xcall_fn (c_RNodes s.fArgs[j] (hao _ hjm)) (by simp) ?_
      simp [-Prod.exists]
      exact ⟨(j + 1, n + cntE s.fArgs[j]), Wk.ren 0 [0] hX rfl (by decide) (by simp [hj1, w2]) (by simp) (by simp) (by simp), ⟨by omega, by simp only; omega⟩, by omega⟩
    · have hge' : ¬ j < s.fArgs.length := by omega
      rw [List.drop_eq_nil_of_le (by omega), cntL_nil] at hinv2
      simp [hge', -Prod.exists]
      exact ⟨(k + 1, n), Wk.ren 0 [] hX rfl (by decide) (by simp [hk1]) (by simp) (by simp) (by simp), ⟨by omega, by simp only; omega⟩, by omega⟩
  · have hge' : ¬ k < l.length := by omega
    rw [List.drop_eq_nil_of_le (by omega), sizT_nil] at hinv
    have : m = sizT l := by omega
    subst this
    simp [hge']
end Go.Proofs.Ytadllkhmihbfhaa
