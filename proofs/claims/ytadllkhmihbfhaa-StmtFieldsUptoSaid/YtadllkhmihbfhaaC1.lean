/- Chapter 10: statements: numbers that go round; Nodes and Depth of any expression, over any program that has the text. -/
import Derived.Test.YtadllkhmihbfhaaTy
namespace Go.Proofs.Ytadllkhmihbfhaa
open Go.AL
variable {P : Program} [h : Facts P]

abbrev wr (n : Int) : Int := IntKind.i64.wrap n
omit h in
theorem wr_add (a b : Int) : wr (wr a + b) = wr (a + b) := by simp only [wr, IntKind.wrap_i64]; omega
omit h in
theorem wr_add2 (a b : Int) : wr (a + wr b) = wr (a + b) := by simp only [wr, IntKind.wrap_i64]; omega
omit h in
theorem wr_id {n : Int} (h0 : -9223372036854775808 ≤ n) (h1 : n ≤ 9223372036854775807) : wr n = n := i64_id h0 h1
omit h in
theorem wr_lo (n : Int) : -9223372036854775808 ≤ wr n := by simp only [wr, IntKind.wrap_i64]; omega
omit h in
theorem wr_hi (n : Int) : wr n ≤ 9223372036854775807 := by simp only [wr, IntKind.wrap_i64]; omega

mutual
def cntE : TExpr → Nat
  | ⟨_, _, _, ks⟩ => cntL ks + 1
def cntL : List TExpr → Nat
  | [] => 0
  | x :: l => cntE x + cntL l
end
mutual
/-- The number of levels, as the code counts it. -/
def depW : TExpr → Int
  | ⟨_, _, _, ks⟩ => wr (dpwL ks + 1)
def dpwL : List TExpr → Int
  | [] => 0
  | x :: l => max (depW x) (dpwL l)
end
mutual
def depE : TExpr → Nat
  | ⟨_, _, _, ks⟩ => depL ks + 1
def depL : List TExpr → Nat
  | [] => 0
  | x :: l => max (depE x) (depL l)
end
theorem cntE_eq (e : TExpr) : cntE e = cntL e.fKids + 1 := by cases e; rw [cntE]
theorem depE_eq (e : TExpr) : depE e = depL e.fKids + 1 := by cases e; rw [depE]
theorem depW_eq (e : TExpr) : depW e = wr (dpwL e.fKids + 1) := by cases e; rw [depW]
theorem cntL_nil : cntL [] = 0 := by rw [cntL]
theorem cntL_cons (x : TExpr) (l : List TExpr) : cntL (x :: l) = cntE x + cntL l := by rw [cntL]
theorem depL_nil : depL [] = 0 := by rw [depL]
theorem depL_cons (x : TExpr) (l : List TExpr) : depL (x :: l) = max (depE x) (depL l) := by rw [depL]
theorem dpwL_nil : dpwL [] = 0 := by rw [dpwL]
theorem dpwL_cons (x : TExpr) (l : List TExpr) : dpwL (x :: l) = max (depW x) (dpwL l) := by rw [dpwL]
theorem dpwL_nn (l : List TExpr) : 0 ≤ dpwL l := by
  induction l with
  | nil => rw [dpwL_nil]; exact Int.le_refl _
  | cons x l ih => rw [dpwL_cons]; omega
theorem depE_cnt : ∀ e : TExpr, depE e ≤ cntE e := by
  refine TExpr.ind fun e ih => ?_
  rw [cntE_eq, depE_eq]
  have key : ∀ l : List TExpr, (∀ y ∈ l, depE y ≤ cntE y) → depL l ≤ cntL l := by
    intro l
    induction l with
    | nil => intro _; rw [depL_nil, cntL_nil]; exact Nat.le_refl _
    | cons x l ihl =>
      intro hl
      rw [depL_cons, cntL_cons]
      have h1 := hl x (List.mem_cons_self ..)
      have h2 := ihl fun y hy => hl y (List.mem_cons_of_mem _ hy)
      omega
  have := key e.fKids ih
  omega
/-- Where nothing goes round, the levels are those of the tree. -/
theorem depW_dep : ∀ e : TExpr, cntE e ≤ 4000000000000000000 → depW e = depE e := by
  refine TExpr.ind fun e ih => ?_
  intro hc
  have hd := depE_cnt e
  rw [cntE_eq] at hc
  rw [cntE_eq, depE_eq] at hd
  rw [depW_eq, depE_eq]
  have key : ∀ l : List TExpr, (∀ y ∈ l, cntE y ≤ 4000000000000000000 → depW y = depE y) → cntL l ≤ 4000000000000000000 → dpwL l = depL l := by
    intro l
    induction l with
    | nil => intro _ _; rw [depL_nil, dpwL_nil]; rfl
    | cons x l ihl =>
      intro hl hb
      rw [cntL_cons] at hb
      rw [depL_cons, dpwL_cons, hl x (List.mem_cons_self ..) (by omega), ihl (fun y hy => hl y (List.mem_cons_of_mem _ hy)) (by omega)]
      omega
  rw [key e.fKids ih (by omega), wr_id (by omega) (by omega)]
  omega

theorem c_Nodes : ∀ (e : TExpr), e.ok → FCall P 94 [.agg e.cells] (fun r => r = .int .i64 (wr (cntE e))) := by
  refine TExpr.ind fun e ih => ?_
  intro hok
  obtain ⟨_, _, _, _, hkl, hko⟩ := hok
  rw [cntE_eq]
  obtain ⟨op, nm, num, ks⟩ := e
  simp only at hkl hko ih ⊢
  refine fcall_of h.f94 rfl (by decide) h.mo (by kernel_rfl) fun X hX => ?_
  simp
  refine awp_loop (σ := Nat × Nat) (fun q => (⟨[.any, .any, .any, .int .i64 (wr q.2), .any, .any, .any, Ls false ks, .int .i64 ks.length, .int .i64 q.1, .any, .any, .any, .any, .any, .any, .any, .any, .any], []⟩ : S)) (fun q => q.1 ≤ ks.length ∧ q.2 + cntL (ks.drop q.1) = cntL ks + 1) (fun q => ks.length - q.1) (0, 1) (Wk.ren 0 [] hX rfl (by decide) (by simp) (by simp) (by simp) (by simp)) ⟨by simp, by simp; omega⟩ ?_
  rintro ⟨k, m⟩ ⟨hk, hinv⟩
  simp only at hk hinv
  refine vc_sound h.mo _ _ _ (by kernel_rfl) ?_
  rcases Nat.lt_or_ge k ks.length with hlt | hge
  · have hk1 := wrap_succ hlt (by omega)
    have hmem := List.getElem_mem hlt
    rw [List.drop_eq_getElem_cons hlt, cntL_cons] at hinv
    have w1 : IntKind.i64.wrap (wr (m : Int) + wr (cntE ks[k] : Int)) = wr ((m + cntE ks[k] : Nat) : Int) := by show wr _ = _; rw [wr_add, wr_add2]; rfl
    have hc := ih ks[k] hmem (hko _ hmem)
    simp [hlt, -Prod.exists]
    refine xcall_fn hc (by simp) ?_
    simp [-Prod.exists]
    exact ⟨(k + 1, m + cntE ks[k]), Wk.ren 0 [] hX rfl (by decide) (by simp [hk1, w1]) (by simp) (by simp) (by simp), ⟨by omega, by simp only; omega⟩, by omega⟩
  · have hkl : k = ks.length := by omega
    subst hkl
    rw [List.drop_length, cntL_nil] at hinv
    have : m = cntL ks + 1 := by omega
    subst this
    simp
theorem c_RNodes : ∀ (e : TExpr), e.ok → FCall P 43 [.agg e.cells] (fun r => r = .int .i64 (wr (cntE e))) := by
  refine TExpr.ind fun e ih => ?_
  intro hok
  obtain ⟨_, _, _, _, hkl, hko⟩ := hok
  rw [cntE_eq]
  obtain ⟨op, nm, num, ks⟩ := e
  simp only at hkl hko ih ⊢
  refine fcall_of h.f43 rfl (by decide) h.mo (by kernel_rfl) fun X hX => ?_
  simp
  refine awp_loop (σ := Nat × Nat) (fun q => (⟨[.any, .pto 0 4 0 0, .any, .int .i64 (wr q.2), .int .i64 q.1, .any, .any, .any, .any, .any, .any, .any, .any, .any, .any, .any, .any, .any, .any, .any, .any], [⟨41, 4, [.agg (⟨op, nm, num, ks⟩ : TExpr).cells], 0, true⟩]⟩ : S)) (fun q => q.1 ≤ ks.length ∧ q.2 + cntL (ks.drop q.1) = cntL ks + 1) (fun q => ks.length - q.1) (0, 1) (Wk.ren 0 [0] hX rfl (by decide) (by simp) (by simp) (by simp) (by simp)) ⟨by simp, by simp; omega⟩ ?_
  rintro ⟨k, m⟩ ⟨hk, hinv⟩
  simp only at hk hinv
  refine vc_sound h.mo _ _ _ (by kernel_rfl) ?_
  rcases Nat.lt_or_ge k ks.length with hlt | hge
  · have hk1 := wrap_succ hlt (by omega)
    have hmem := List.getElem_mem hlt
    rw [List.drop_eq_getElem_cons hlt, cntL_cons] at hinv
    have w1 : IntKind.i64.wrap (wr (m : Int) + wr (cntE ks[k] : Int)) = wr ((m + cntE ks[k] : Nat) : Int) := by show wr _ = _; rw [wr_add, wr_add2]; rfl
    have hc := ih ks[k] hmem (hko _ hmem)
    simp [hlt, -Prod.exists]
    refine xcall_fn hc (by simp) ?_
    simp [-Prod.exists]
    exact ⟨(k + 1, m + cntE ks[k]), Wk.ren 0 [0] hX rfl (by decide) (by simp [hk1, w1]) (by simp) (by simp) (by simp), ⟨by omega, by simp only; omega⟩, by omega⟩
  · have hkl : k = ks.length := by omega
    subst hkl
    rw [List.drop_length, cntL_nil] at hinv
    have : m = cntL ks + 1 := by omega
    subst this
    simp
theorem c_Depth : ∀ (e : TExpr), e.ok → FCall P 95 [.agg e.cells] (fun r => r = .int .i64 (depW e)) := by
  refine TExpr.ind fun e ih => ?_
  intro hok
  obtain ⟨_, _, _, _, hkl, hko⟩ := hok
  rw [depW_eq]
  obtain ⟨op, nm, num, ks⟩ := e
  simp only at hkl hko ih ⊢
  refine fcall_of h.f95 rfl (by decide) h.mo (by kernel_rfl) fun X hX => ?_
  simp
  refine awp_loop (σ := Nat × Int) (fun q => (⟨[.any, .any, .any, .int .i64 q.2, .any, .any, .any, Ls false ks, .int .i64 ks.length, .int .i64 q.1, .any, .any, .any, .any, .any, .any, .any, .any, .any, .any], []⟩ : S)) (fun q => q.1 ≤ ks.length ∧ 0 ≤ q.2 ∧ max q.2 (dpwL (ks.drop q.1)) = dpwL ks) (fun q => ks.length - q.1) (0, 0) (Wk.ren 0 [] hX rfl (by decide) (by simp) (by simp) (by simp) (by simp)) ⟨by simp, by simp, by simp only [List.drop_zero]; exact Int.max_eq_right (dpwL_nn ks)⟩ ?_
  rintro ⟨k, m⟩ ⟨hk, hm, hinv⟩
  simp only at hk hm hinv
  refine vc_sound h.mo _ _ _ (by kernel_rfl) ?_
  rcases Nat.lt_or_ge k ks.length with hlt | hge
  · have hk1 := wrap_succ hlt (by omega)
    have hmem := List.getElem_mem hlt
    rw [List.drop_eq_getElem_cons hlt, dpwL_cons] at hinv
    have hc := ih ks[k] hmem (hko _ hmem)
    simp [hlt, -Prod.exists]
    refine xcall_fn hc (by simp) ?_
    simp [-Prod.exists]
    exact ⟨(k + 1, max m (depW ks[k])), Wk.ren 0 [] hX rfl (by decide) (by simp [hk1]) (by simp) (by simp) (by simp), ⟨by omega, by simp only; omega, by simp only; omega⟩, by omega⟩
  · have hkl : k = ks.length := by omega
    subst hkl
    rw [List.drop_length, dpwL_nil] at hinv
    have : m = dpwL ks := by omega
    subst this
    simp
theorem c_RDepth : ∀ (e : TExpr), e.ok → FCall P 104 [.agg e.cells] (fun r => r = .int .i64 (depW e)) := by
  refine TExpr.ind fun e ih => ?_
  intro hok
  obtain ⟨_, _, _, _, hkl, hko⟩ := hok
  rw [depW_eq]
  obtain ⟨op, nm, num, ks⟩ := e
  simp only at hkl hko ih ⊢
  refine fcall_of h.f104 rfl (by decide) h.mo (by kernel_rfl) fun X hX => ?_
  simp
  refine awp_loop (σ := Nat × Int) (fun q => (⟨[.any, .pto 0 4 0 0, .any, .int .i64 q.2, .int .i64 q.1, .any, .any, .any, .any, .any, .any, .any, .any, .any, .any, .any, .any, .any, .any, .any, .any, .any], [⟨41, 4, [.agg (⟨op, nm, num, ks⟩ : TExpr).cells], 0, true⟩]⟩ : S)) (fun q => q.1 ≤ ks.length ∧ 0 ≤ q.2 ∧ max q.2 (dpwL (ks.drop q.1)) = dpwL ks) (fun q => ks.length - q.1) (0, 0) (Wk.ren 0 [0] hX rfl (by decide) (by simp) (by simp) (by simp) (by simp)) ⟨by simp, by simp, by simp only [List.drop_zero]; exact Int.max_eq_right (dpwL_nn ks)⟩ ?_
  rintro ⟨k, m⟩ ⟨hk, hm, hinv⟩
  simp only at hk hm hinv
  refine vc_sound h.mo _ _ _ (by kernel_rfl) ?_
  rcases Nat.lt_or_ge k ks.length with hlt | hge
  · have hk1 := wrap_succ hlt (by omega)
    have hmem := List.getElem_mem hlt
    rw [List.drop_eq_getElem_cons hlt, dpwL_cons] at hinv
    have hc := ih ks[k] hmem (hko _ hmem)
    simp [hlt, -Prod.exists]
    refine xcall_fn hc (by simp) ?_
    simp [-Prod.exists]
    exact ⟨(k + 1, max m (depW ks[k])), Wk.ren 0 [0] hX rfl (by decide) (by simp [hk1]) (by simp) (by simp) (by simp), ⟨by omega, by simp only; omega, by simp only; omega⟩, by omega⟩
  · have hkl : k = ks.length := by omega
    subst hkl
    rw [List.drop_length, dpwL_nil] at hinv
    have : m = dpwL ks := by omega
    subst this
    simp
end Go.Proofs.Ytadllkhmihbfhaa
