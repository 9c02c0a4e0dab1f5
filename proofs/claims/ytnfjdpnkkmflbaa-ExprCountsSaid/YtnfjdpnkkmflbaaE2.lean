/- Chapter 09: expressions: Nodes, Depth, over any program that has the text. -/
import Derived.Test.YtnfjdpnkkmflbaaE1
namespace Go.Proofs.Ytnfjdpnkkmflbaa
open Go.AL
variable {P : Program} [h : Facts P]

mutual
def cntE : TExpr → Nat
  | ⟨_, _, _, ks⟩ => cntL ks + 1
def cntL : List TExpr → Nat
  | [] => 0
  | x :: l => cntE x + cntL l
end
mutual
def depE : TExpr → Nat
  | ⟨_, _, _, ks⟩ => depL ks + 1
def depL : List TExpr → Nat
  | [] => 0
  | x :: l => max (depE x) (depL l)
end
theorem cntE_eq (e : TExpr) : cntE e = cntL e.fKids + 1 := by cases e; rw [cntE]
theorem depE_eq (e : TExpr) : depE e = depL e.fKids + 1 := by cases e; rw [depE]
theorem cntL_nil : cntL [] = 0 := by rw [cntL]
theorem cntL_cons (x : TExpr) (l : List TExpr) : cntL (x :: l) = cntE x + cntL l := by rw [cntL]
theorem depL_nil : depL [] = 0 := by rw [depL]
theorem depL_cons (x : TExpr) (l : List TExpr) : depL (x :: l) = max (depE x) (depL l) := by rw [depL]
theorem cntL_mem : ∀ (l : List TExpr) (x : TExpr), x ∈ l → cntE x ≤ cntL l
  | [], _, hx => by cases hx
  | y :: l, x, hx => by
    rw [cntL_cons]
    rcases List.mem_cons.1 hx with rfl | hx
    · omega
    · have := cntL_mem l x hx
      omega
theorem depL_mem : ∀ (l : List TExpr) (x : TExpr), x ∈ l → depE x ≤ depL l
  | [], _, hx => by cases hx
  | y :: l, x, hx => by
    rw [depL_cons]
    rcases List.mem_cons.1 hx with rfl | hx
    · omega
    · have := depL_mem l x hx
      omega
theorem depE_cnt : ∀ e : TExpr, depE e ≤ cntE e := by
  refine TExpr.ind fun e ih => ?_
  rw [cntE_eq, depE_eq]
  have key : ∀ l : List TExpr, (∀ y ∈ l, depE y ≤ cntE y) → depL l ≤ cntL l := by
    intro l
    induction l with
    | nil => intro _; rw [depL_nil, cntL_nil]; exact Nat.le_refl _
    | cons x l ihl =>
      intro hl
      rw [depL_cons, cntL_cons]
      have h1 := hl x (List.mem_cons_self ..)
      have h2 := ihl fun y hy => hl y (List.mem_cons_of_mem _ hy)
      omega
  have := key e.fKids ih
  omega
theorem lf_cnt : ∀ (e : TExpr) (n d : Int), 0 ≤ lf e n d → lf e n d = n - cntE e ∧ (depE e : Int) ≤ d := by
  refine TExpr.ind fun e ih => ?_
  intro n d hp
  rw [lf_eq] at hp ⊢
  split at hp
  · omega
  rename_i h0
  rw [if_neg h0, cntE_eq, depE_eq]
  have key : ∀ (l : List TExpr) (m : Int), (∀ y ∈ l, ∀ n d, 0 ≤ lf y n d → lf y n d = n - cntE y ∧ (depE y : Int) ≤ d) → 0 ≤ lfL l m (d - 1) → lfL l m (d - 1) = m - cntL l ∧ (depL l : Int) ≤ d - 1 := by
    intro l
    induction l with
    | nil => intro m _ _; rw [lfL_nil, cntL_nil, depL_nil]; omega
    | cons x l ihl =>
      intro m hm hp
      rw [lfL_cons] at hp ⊢
      split at hp
      · omega
      rename_i h1
      rw [if_neg h1, cntL_cons, depL_cons]
      obtain ⟨a1, a2⟩ := hm x (List.mem_cons_self ..) m (d - 1) (by omega)
      obtain ⟨b1, b2⟩ := ihl (lf x m (d - 1)) (fun y hy => hm y (List.mem_cons_of_mem _ hy)) hp
      omega
  obtain ⟨a1, a2⟩ := key e.fKids (n - 1) ih hp
  omega
theorem fewB_cnt {e : TExpr} (hf : fewB e = true) : cntE e ≤ 200 ∧ depE e ≤ 40 := by
  unfold fewB at hf
  have h0 := of_decide_eq_true hf
  have h1 := lf_cnt e 200 40 h0
  omega
theorem kids_len (l : List TExpr) : l.length ≤ cntL l := by
  induction l with
  | nil => simp
  | cons x l ih => rw [cntL_cons, List.length_cons, cntE_eq]; omega

theorem c_Nodes : ∀ (e : TExpr), cntE e ≤ 4000000000000000000 → FCall P 16 [.agg e.cells] (fun r => r = .int .i64 (cntE e)) := by
  refine TExpr.ind fun e ih => ?_
  intro hb
  rw [cntE_eq] at hb ⊢
  have hkl := kids_len e.fKids
  obtain ⟨op, nm, num, ks⟩ := e
  simp only at hb hkl ih ⊢
  refine fcall_of h.f16 rfl (by decide) h.mo (by kernel_rfl) fun X hX => ?_
  simp
  refine awp_loop (σ := Nat × Nat) (fun q => (⟨[.any, .any, .any, .int .i64 q.2, .any, .any, .any, Ls false ks, .int .i64 ks.length, .int .i64 q.1, .any, .any, .any, .any, .any, .any, .any, .any, .any], []⟩ : S)) (fun q => q.1 ≤ ks.length ∧ q.2 + cntL (ks.drop q.1) = cntL ks + 1) (fun q => ks.length - q.1) (0, 1) (Wk.ren 0 [] hX rfl (by decide) (by simp) (by simp) (by simp) (by simp)) ⟨by simp, by simp; omega⟩ ?_
  rintro ⟨k, m⟩ ⟨hk, hinv⟩
  simp only at hk hinv
  refine vc_sound h.mo _ _ _ (by kernel_rfl) ?_
  rcases Nat.lt_or_ge k ks.length with hlt | hge
  · have hk1 := wrap_succ hlt (by omega)
    have hmem := List.getElem_mem hlt
    have hcm := cntL_mem _ _ hmem
    rw [List.drop_eq_getElem_cons hlt, cntL_cons] at hinv
    have w1 : IntKind.i64.wrap ((m : Int) + (cntE ks[k] : Int)) = ((m + cntE ks[k] : Nat) : Int) := by rw [i64_id (by omega) (by omega)]; omega
    have hc := ih ks[k] hmem (by omega)
    simp [hlt, -Prod.exists]
    refine xcall_fn hc (by simp) ?_
    simp [-Prod.exists]
    exact ⟨(k + 1, m + cntE ks[k]), Wk.ren 0 [] hX rfl (by decide) (by simp [hk1, w1]) (by simp) (by simp) (by simp), ⟨by omega, by simp only; omega⟩, by omega⟩
  · have hkl : k = ks.length := by omega
    subst hkl
    rw [List.drop_length, cntL_nil] at hinv
    have : m = cntL ks + 1 := by omega
    subst this
    simp
theorem c_RNodes : ∀ (e : TExpr), cntE e ≤ 4000000000000000000 → FCall P 17 [.agg e.cells] (fun r => r = .int .i64 (cntE e)) := by
  refine TExpr.ind fun e ih => ?_
  intro hb
  rw [cntE_eq] at hb ⊢
  have hkl := kids_len e.fKids
  obtain ⟨op, nm, num, ks⟩ := e
  simp only at hb hkl ih ⊢
  refine fcall_of h.f17 rfl (by decide) h.mo (by kernel_rfl) fun X hX => ?_
  simp
  refine awp_loop (σ := Nat × Nat) (fun q => (⟨[.any, .pto 0 4 0 0, .any, .int .i64 q.2, .int .i64 q.1, .any, .any, .any, .any, .any, .any, .any, .any, .any, .any, .any, .any, .any, .any, .any, .any], [⟨25, 4, [.agg (⟨op, nm, num, ks⟩ : TExpr).cells], 0, true⟩]⟩ : S)) (fun q => q.1 ≤ ks.length ∧ q.2 + cntL (ks.drop q.1) = cntL ks + 1) (fun q => ks.length - q.1) (0, 1) (Wk.ren 0 [0] hX rfl (by decide) (by simp) (by simp) (by simp) (by simp)) ⟨by simp, by simp; omega⟩ ?_
  rintro ⟨k, m⟩ ⟨hk, hinv⟩
  simp only at hk hinv
  refine vc_sound h.mo _ _ _ (by kernel_rfl) ?_
  rcases Nat.lt_or_ge k ks.length with hlt | hge
  · have hk1 := wrap_succ hlt (by omega)
    have hmem := List.getElem_mem hlt
    have hcm := cntL_mem _ _ hmem
    rw [List.drop_eq_getElem_cons hlt, cntL_cons] at hinv
    have w1 : IntKind.i64.wrap ((m : Int) + (cntE ks[k] : Int)) = ((m + cntE ks[k] : Nat) : Int) := by rw [i64_id (by omega) (by omega)]; omega
    have hc := ih ks[k] hmem (by omega)
    simp [hlt, -Prod.exists]
    refine xcall_fn hc (by simp) ?_
    simp [-Prod.exists]
    exact ⟨(k + 1, m + cntE ks[k]), Wk.ren 0 [0] hX rfl (by decide) (by simp [hk1, w1]) (by simp) (by simp) (by simp), ⟨by omega, by simp only; omega⟩, by omega⟩
  · have hkl : k = ks.length := by omega
    subst hkl
    rw [List.drop_length, cntL_nil] at hinv
    have : m = cntL ks + 1 := by omega
    subst this
    simp
theorem c_Depth : ∀ (e : TExpr), cntE e ≤ 4000000000000000000 → FCall P 18 [.agg e.cells] (fun r => r = .int .i64 (depE e)) := by
  refine TExpr.ind fun e ih => ?_
  intro hb
  have hdc := depE_cnt e
  rw [cntE_eq] at hb hdc
  rw [depE_eq] at hdc ⊢
  have hkl := kids_len e.fKids
  obtain ⟨op, nm, num, ks⟩ := e
  simp only at hb hkl ih hdc ⊢
  refine fcall_of h.f18 rfl (by decide) h.mo (by kernel_rfl) fun X hX => ?_
  simp
  refine awp_loop (σ := Nat × Nat) (fun q => (⟨[.any, .any, .any, .int .i64 q.2, .any, .any, .any, Ls false ks, .int .i64 ks.length, .int .i64 q.1, .any, .any, .any, .any, .any, .any, .any, .any, .any, .any], []⟩ : S)) (fun q => q.1 ≤ ks.length ∧ max q.2 (depL (ks.drop q.1)) = depL ks) (fun q => ks.length - q.1) (0, 0) (Wk.ren 0 [] hX rfl (by decide) (by simp) (by simp) (by simp) (by simp)) ⟨by simp, by simp⟩ ?_
  rintro ⟨k, m⟩ ⟨hk, hinv⟩
  simp only at hk hinv
  refine vc_sound h.mo _ _ _ (by kernel_rfl) ?_
  rcases Nat.lt_or_ge k ks.length with hlt | hge
  · have hk1 := wrap_succ hlt (by omega)
    have hmem := List.getElem_mem hlt
    have hcm := cntL_mem _ _ hmem
    rw [List.drop_eq_getElem_cons hlt, depL_cons] at hinv
    have w1 : max (m : Int) (depE ks[k] : Int) = ((max m (depE ks[k]) : Nat) : Int) := by omega
    have hc := ih ks[k] hmem (by omega)
    simp [hlt, -Prod.exists]
    refine xcall_fn hc (by simp) ?_
    simp [-Prod.exists]
    exact ⟨(k + 1, max m (depE ks[k])), Wk.ren 0 [] hX rfl (by decide) (by simp [hk1, w1]) (by simp) (by simp) (by simp), ⟨by omega, by simp only; omega⟩, by omega⟩
  · have hkl : k = ks.length := by omega
    subst hkl
    rw [List.drop_length, depL_nil] at hinv
    have : m = depL ks := by omega
    subst this
    have w2 : IntKind.i64.wrap ((depL ks : Int) + 1) = (depL ks : Int) + 1 := i64_id (by omega) (by omega)
    simp [w2]
theorem c_RDepth : ∀ (e : TExpr), cntE e ≤ 4000000000000000000 → FCall P 19 [.agg e.cells] (fun r => r = .int .i64 (depE e)) := by
  refine TExpr.ind fun e ih => ?_
  intro hb
  have hdc := depE_cnt e
  rw [cntE_eq] at hb hdc
  rw [depE_eq] at hdc ⊢
  have hkl := kids_len e.fKids
  obtain ⟨op, nm, num, ks⟩ := e
  simp only at hb hkl ih hdc ⊢
  refine fcall_of h.f19 rfl (by decide) h.mo (by kernel_rfl) fun X hX => ?_
  simp
  refine awp_loop (σ := Nat × Nat) (fun q => (⟨[.any, .pto 0 4 0 0, .any, .int .i64 q.2, .int .i64 q.1, .any, .any, .any, .any, .any, .any, .any, .any, .any, .any, .any, .any, .any, .any, .any, .any, .any], [⟨25, 4, [.agg (⟨op, nm, num, ks⟩ : TExpr).cells], 0, true⟩]⟩ : S)) (fun q => q.1 ≤ ks.length ∧ max q.2 (depL (ks.drop q.1)) = depL ks) (fun q => ks.length - q.1) (0, 0) (Wk.ren 0 [0] hX rfl (by decide) (by simp) (by simp) (by simp) (by simp)) ⟨by simp, by simp⟩ ?_
  rintro ⟨k, m⟩ ⟨hk, hinv⟩
  simp only at hk hinv
  refine vc_sound h.mo _ _ _ (by kernel_rfl) ?_
  rcases Nat.lt_or_ge k ks.length with hlt | hge
  · have hk1 := wrap_succ hlt (by omega)
    have hmem := List.getElem_mem hlt
    have hcm := cntL_mem _ _ hmem
    rw [List.drop_eq_getElem_cons hlt, depL_cons] at hinv
    have w1 : max (m : Int) (depE ks[k] : Int) = ((max m (depE ks[k]) : Nat) : Int) := by omega
    have hc := ih ks[k] hmem (by omega)
    simp [hlt, -Prod.exists]
    refine xcall_fn hc (by simp) ?_
    simp [-Prod.exists]
    exact ⟨(k + 1, max m (depE ks[k])), Wk.ren 0 [0] hX rfl (by decide) (by simp [hk1, w1]) (by simp) (by simp) (by simp), ⟨by omega, by simp only; omega⟩, by omega⟩
  · have hkl : k = ks.length := by omega
    subst hkl
    rw [List.drop_length, depL_nil] at hinv
    have : m = depL ks := by omega
    subst this
    have w2 : IntKind.i64.wrap ((depL ks : Int) + 1) = (depL ks : Int) + 1 := i64_id (by omega) (by omega)
    simp [w2]
end Go.Proofs.Ytnfjdpnkkmflbaa
