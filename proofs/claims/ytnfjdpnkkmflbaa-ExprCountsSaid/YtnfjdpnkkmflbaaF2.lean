/- Chapter 09: expressions: the reference's equality, times, bare, over any program that has the text. -/
import Derived.Test.YtnfjdpnkkmflbaaF1
namespace Go.Proofs.Ytnfjdpnkkmflbaa
open Go.AL
variable {P : Program} [h : Facts P]

noncomputable def sameLB (a b : List TExpr) : Bool := @decide (a = b) (Classical.propDecidable _)
theorem sameLB_iff {a b : List TExpr} : sameLB a b = true ↔ a = b := by unfold sameLB; exact @decide_eq_true_iff (a = b) (Classical.propDecidable _)
theorem sameLB_no {a b : List TExpr} (hn : a ≠ b) : sameLB a b = false := by
  cases q : sameLB a b
  · rfl
  · exact absurd (sameLB_iff.1 q) hn
theorem sameLB_self (a : List TExpr) : sameLB a a = true := sameLB_iff.2 rfl
theorem c_SameAllOf (a b : List TExpr) (hl : a.length ≤ 9223372036854775807) (hs : ∀ x ∈ a, ∀ y, FCall P 21 [.agg x.cells, .agg y.cells] (fun r => r = .bool (sameB x y))) : FCall P 37 [Ls false a, Ls false b] (fun r => r = .bool (sameLB a b)) := by
  refine fcall_ofB [6] h.f37 rfl (by decide) h.mo (by kernel_rfl) fun X hX => ?_
  by_cases q4 : a.length = b.length
  case neg =>
    have q4' : ¬ (a.length : Int) = (b.length : Int) := by omega
    rw [sameLB_no (by intro q; exact q4 (by rw [q]))]
    simp [q4']
  have q4' : (a.length : Int) = (b.length : Int) := by omega
  simp [eq_true q4']
  refine awp_loop (σ := Nat) (fun k => (⟨[Ls false a, Ls false b, .any, .any, .any, .int .i64 k, .any, .any, .any, .any, .any, .any, .any, .any, .any, .any, .any, .any, .any, .any, .any, .any, .any, .any, .any, .any, .any], []⟩ : S)) (fun k => k ≤ a.length ∧ a.take k = b.take k) (fun k => a.length - k) 0 (Wk.ren 0 [] hX rfl (by decide) (by simp) (by simp) (by simp) (by simp)) ⟨by simp, by simp⟩ ?_
  rintro k ⟨hk, hinv⟩
  refine vcB_sound [6] h.mo _ _ _ (by kernel_rfl) ?_
  rcases Nat.lt_or_ge k a.length with hlt | hge
  · have hlt2 : k < b.length := by omega
    have hk1 := wrap_succ hlt hl
    have hmem := List.getElem_mem hlt
    simp [hlt]
    refine awp_quiet [0, 1, 2, 3, 4, 5, 6, 7, 8, 9] _ h.mo (by kernel_rfl) (by decide) (by kernel_rfl) (by rfl) ?_
    simp [hlt, hlt2]
    refine ⟨_, hs a[k] hmem b[k], ?_⟩
    by_cases q5 : a[k] = b[k]
    · rw [q5, sameB_self]
      simp
      exact ⟨k + 1, Wk.ren 0 [] hX rfl (by decide) (by simp [hk1]) (by simp) (by simp) (by simp), ⟨by omega, take_step hlt hlt2 hinv q5⟩, by omega⟩
    · rw [sameB_no q5]
      simp
      rw [sameLB_no (take_no hlt hlt2 q5)]
  · have hkl : k = a.length := by omega
    subst hkl
    have hall := take_eq_all q4 hinv
    rw [hall, sameLB_self]
    simp
theorem c_RSame : ∀ (a : TExpr), a.ok → ∀ (b : TExpr), FCall P 21 [.agg a.cells, .agg b.cells] (fun r => r = .bool (sameB a b)) := by
  refine TExpr.ind fun e ih => ?_
  intro hok b
  obtain ⟨_, _, _, _, hkl, hko⟩ := hok
  obtain ⟨op, nm, n, ks⟩ := e
  obtain ⟨op2, nm2, n2, ks2⟩ := b
  simp only at hkl hko ih
  refine fcall_of h.f21 rfl (by decide) h.mo (by kernel_rfl) fun X hX => ?_
  by_cases q1 : op = op2
  case neg =>
    rw [sameB_no (by simp [q1])]
    simp [q1]
  by_cases q2 : nm = nm2
  case neg =>
    rw [sameB_no (by simp [q2])]
    simp [eq_true q1, q2]
  by_cases q3 : n = n2
  case neg =>
    rw [sameB_no (by simp [q3])]
    simp [eq_true q1, eq_true q2, q3]
  have e1 : sameB ⟨op, nm, n, ks⟩ ⟨op2, nm2, n2, ks2⟩ = sameLB ks ks2 := by
    by_cases q : ks = ks2
    · rw [q1, q2, q3, q, sameB_self, sameLB_self]
    · rw [sameLB_no q, sameB_no (by simp only [ne_eq, TExpr.mk.injEq, not_and]; intro _ _ _; exact q)]
  rw [e1]
  simp [eq_true q1, eq_true q2, eq_true q3]
  refine xcall_fn (c_SameAllOf ks ks2 hkl fun x hx y => ih x hx (hko x hx) y) (by simp) ?_
  simp
theorem c_SameTexts (a b : List (List UInt8)) (hl : a.length ≤ 9223372036854775807) : FCall P 22 [Ls false a, Ls false b] (fun r => r = .bool (decide (a = b))) := by
  refine fcall_of h.f22 rfl (by decide) h.mo (by kernel_rfl) fun X hX => ?_
  by_cases q4 : a.length = b.length
  case neg =>
    have q4' : ¬ (a.length : Int) = (b.length : Int) := by omega
    rw [decide_eq_false (by intro q; exact q4 (by rw [q]))]
    simp [q4']
  have q4' : (a.length : Int) = (b.length : Int) := by omega
  simp [eq_true q4']
  refine awp_loop (σ := Nat) (fun k => (⟨[Ls false a, Ls false b, .any, .any, .any, .int .i64 k, .any, .any, .any, .any, .any, .any, .any, .any, .any, .any, .any, .any, .any, .any, .any, .any, .any, .any, .any, .any], []⟩ : S)) (fun k => k ≤ a.length ∧ a.take k = b.take k) (fun k => a.length - k) 0 (Wk.ren 0 [] hX rfl (by decide) (by simp) (by simp) (by simp) (by simp)) ⟨by simp, by simp⟩ ?_
  rintro k ⟨hk, hinv⟩
  refine vc_sound h.mo _ _ _ (by kernel_rfl) ?_
  rcases Nat.lt_or_ge k a.length with hlt | hge
  · have hlt2 : k < b.length := by omega
    have hk1 := wrap_succ hlt hl
    by_cases q5 : a[k] = b[k]
    · simp [hlt, hlt2, eq_true q5]
      exact ⟨k + 1, Wk.ren 0 [] hX rfl (by decide) (by simp [hk1]) (by simp) (by simp) (by simp), ⟨by omega, take_step hlt hlt2 hinv q5⟩, by omega⟩
    · simp [hlt, hlt2, q5]
      exact take_no hlt hlt2 q5
  · have hkl : k = a.length := by omega
    subst hkl
    have hall := take_eq_all q4 hinv
    subst hall
    simp
mutual
def timE (s : List UInt8) : TExpr → Nat
  | ⟨o, nm, _, ks⟩ => if o = 3 ∧ nm = s then 1 else timL s ks
def timL (s : List UInt8) : List TExpr → Nat
  | [] => 0
  | x :: l => timE s x + timL s l
end
theorem timE_eq (s : List UInt8) (e : TExpr) : timE s e = if e.fOp = 3 ∧ e.fName = s then 1 else timL s e.fKids := by cases e; rw [timE]
theorem timL_nil (s : List UInt8) : timL s [] = 0 := by rw [timL]
theorem timL_cons (s : List UInt8) (x : TExpr) (l : List TExpr) : timL s (x :: l) = timE s x + timL s l := by rw [timL]
theorem tim_cnt (s : List UInt8) : ∀ e : TExpr, timE s e ≤ cntE e := by
  refine TExpr.ind fun e ih => ?_
  rw [timE_eq, cntE_eq]
  split
  · omega
  · have key : ∀ l : List TExpr, (∀ y ∈ l, timE s y ≤ cntE y) → timL s l ≤ cntL l := by
      intro l
      induction l with
      | nil => intro _; rw [timL_nil, cntL_nil]; exact Nat.le_refl _
      | cons x l ihl =>
        intro hl
        rw [timL_cons, cntL_cons]
        have h1 := hl x (List.mem_cons_self ..)
        have h2 := ihl fun y hy => hl y (List.mem_cons_of_mem _ hy)
        omega
    have := key e.fKids ih
    omega
theorem timL_cnt (s : List UInt8) (l : List TExpr) : timL s l ≤ cntL l := by
  induction l with
  | nil => rw [timL_nil, cntL_nil]; exact Nat.le_refl _
  | cons x l ih => rw [timL_cons, cntL_cons]; have := tim_cnt s x; omega
theorem c_times (s : List UInt8) : ∀ (e : TExpr), e.ok → cntE e ≤ 4000000000000000000 → FCall P 28 [.agg e.cells, .str s] (fun r => r = .int .i64 (timE s e)) := by
  refine TExpr.ind fun e ih => ?_
  intro hok hc
  rw [timE_eq]
  rw [cntE_eq] at hc
  obtain ⟨_, _, _, _, hkl, hko⟩ := hok
  obtain ⟨op, nm, n, ks⟩ := e
  simp only at hkl hko ih hc ⊢
  refine fcall_of h.f28 rfl (by decide) h.mo (by kernel_rfl) fun X hX => ?_
  by_cases q : op = 3 ∧ nm = s
  · rw [if_pos q]
    obtain ⟨q1, q2⟩ := q
    simp [q1, eq_true q2]
  rw [if_neg q]
  have htc := timL_cnt s ks
  by_cases q1 : op = 3
  case' pos =>
    have q2 : ¬ nm = s := fun z => q ⟨q1, z⟩
    simp [q1, q2]
  case' neg => simp [q1]
  all_goals
    refine awp_loop (σ := Nat × Nat) (fun z => (⟨[.any, .str s, .pto 0 4 0 0, .any, .any, .int .i64 z.2, .int .i64 z.1, .any, .any, .any, .any, .any, .any, .any, .any, .any, .any, .any, .any, .any, .any, .any, .any, .any, .any, .any, .any, .any, .any, .any, .any, .any, .any], [⟨25, 4, [.agg (⟨op, nm, n, ks⟩ : TExpr).cells], 0, true⟩]⟩ : S)) (fun z => z.1 ≤ ks.length ∧ z.2 + timL s (ks.drop z.1) = timL s ks) (fun z => ks.length - z.1) (0, 0) (Wk.ren 0 [0] hX rfl (by decide) (by simp [*]) (by simp) (by simp) (by simp [*])) ⟨by simp, by simp⟩ ?_
    rintro ⟨k, m⟩ ⟨hk, hinv⟩
    simp only at hk hinv
    refine vc_sound h.mo _ _ _ (by kernel_rfl) ?_
    rcases Nat.lt_or_ge k ks.length with hlt | hge
    · have hk1 := wrap_succ hlt hkl
      have hmem := List.getElem_mem hlt
      have hcm := cntL_mem _ _ hmem
      rw [List.drop_eq_getElem_cons hlt, timL_cons] at hinv
      have w1 : IntKind.i64.wrap ((m : Int) + (timE s ks[k] : Int)) = ((m + timE s ks[k] : Nat) : Int) := by rw [i64_id (by omega) (by omega)]; omega
      simp [hlt, -Prod.exists]
      refine xcall_fn (ih ks[k] hmem (hko _ hmem) (by omega)) (by simp) ?_
      simp [-Prod.exists]
      exact ⟨(k + 1, m + timE s ks[k]), Wk.ren 0 [0] hX rfl (by decide) (by simp [hk1, w1]) (by simp) (by simp) (by simp), ⟨by omega, by simp only; omega⟩, by omega⟩
    · have hkl : k = ks.length := by omega
      subst hkl
      rw [List.drop_length, timL_nil] at hinv
      have : m = timL s ks := by omega
      subst this
      simp
mutual
def barE (s : List UInt8) : TExpr → Bool
  | ⟨o, nm, _, ks⟩ => if o = 3 ∧ nm = s ∧ ks ≠ [] then false else barL s ks
def barL (s : List UInt8) : List TExpr → Bool
  | [] => true
  | x :: l => barE s x && barL s l
end
theorem barE_eq (s : List UInt8) (e : TExpr) : barE s e = if e.fOp = 3 ∧ e.fName = s ∧ e.fKids ≠ [] then false else barL s e.fKids := by cases e; rw [barE]
theorem barL_nil (s : List UInt8) : barL s [] = true := by rw [barL]
theorem barL_cons (s : List UInt8) (x : TExpr) (l : List TExpr) : barL s (x :: l) = (barE s x && barL s l) := by rw [barL]
theorem c_bare (s : List UInt8) : ∀ (e : TExpr), e.ok → FCall P 29 [.agg e.cells, .str s] (fun r => r = .bool (barE s e)) := by
  refine TExpr.ind fun e ih => ?_
  intro hok
  rw [barE_eq]
  obtain ⟨_, _, _, _, hkl, hko⟩ := hok
  obtain ⟨op, nm, n, ks⟩ := e
  simp only at hkl hko ih ⊢
  refine fcall_of h.f29 rfl (by decide) h.mo (by kernel_rfl) fun X hX => ?_
  by_cases q : op = 3 ∧ nm = s ∧ ks ≠ []
  · rw [if_pos q]
    obtain ⟨q1, q2, q3⟩ := q
    have q3' : 0 < ks.length := List.length_pos_iff.2 q3
    have q3i : (0 : Int) < (ks.length : Int) := by omega
    simp [q1, eq_true q2, q3']
  rw [if_neg q]
  by_cases q1 : op = 3
  case' neg => simp [q1]
  case' pos =>
    by_cases q2 : nm = s
    case' neg => simp [q1, q2]
    case' pos =>
      have q3 : ks = [] := Classical.byContradiction fun z => q ⟨q1, q2, z⟩
      have q3n : ¬ 0 < ks.length := by simp [q3]
      have q3i : ¬ (0 : Int) < (ks.length : Int) := by omega
      have q3j : (ks.length : Int) ≤ 0 := by omega
      have q3l : ks.length = 0 := by omega
      simp [q1, eq_true q2, q3n]
  all_goals
    refine awp_loop (σ := Nat) (fun k => (⟨[.any, .str s, .pto 0 4 0 0, .any, .any, .int .i64 k, .any, .any, .any, .any, .any, .any, .any, .any, .any, .any, .any, .any, .any, .any, .any, .any, .any, .any, .any, .any, .any, .any, .any, .any, .any, .any, .any, .any, .any, .any], [⟨25, 4, [.agg (⟨op, nm, n, ks⟩ : TExpr).cells], 0, true⟩]⟩ : S)) (fun k => k ≤ ks.length ∧ barL s ks = barL s (ks.drop k)) (fun k => ks.length - k) 0 (Wk.ren 0 [0] hX rfl (by decide) (by simp [*]) (by simp) (by simp) (by simp [*])) ⟨by simp, by simp⟩ ?_
    rintro k ⟨hk, hinv⟩
    refine vc_sound h.mo _ _ _ (by kernel_rfl) ?_
    rcases Nat.lt_or_ge k ks.length with hlt | hge
    · have hk1 := wrap_succ hlt hkl
      have hmem := List.getElem_mem hlt
      rw [List.drop_eq_getElem_cons hlt, barL_cons] at hinv
      simp [hlt]
      refine xcall_fn (ih ks[k] hmem (hko _ hmem)) (by simp) ?_
      cases hz : barE s ks[k]
      · rw [hz, Bool.false_and] at hinv
        simp [hinv]
      · rw [hz, Bool.true_and] at hinv
        simp
        exact ⟨k + 1, Wk.ren 0 [0] hX rfl (by decide) (by simp [hk1]) (by simp) (by simp) (by simp), ⟨by omega, hinv⟩, by omega⟩
    · have hkl : k = ks.length := by omega
      subst hkl
      rw [List.drop_length, barL_nil] at hinv
      simp [hinv]
end Go.Proofs.Ytnfjdpnkkmflbaa
