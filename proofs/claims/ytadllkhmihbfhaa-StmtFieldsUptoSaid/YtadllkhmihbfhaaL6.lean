/- Chapter 10: the law Fields, over any program that has the text, given the library's sort. -/
import Derived.Test.YtadllkhmihbfhaaL5
namespace Go.Proofs.Ytadllkhmihbfhaa
open Go.AL
variable {P : Program} [h : Facts P]

omit h in
theorem fB7_of (s : TStmt) (u : Tuse) : fB7 s u = true ↔ (u.fName = true ∨ s.fName = []) ∧ (u.fOf = true ∨ s.fOf = []) ∧ (u.fE = true ∨ s.fE = zE) ∧ (u.fF = true ∨ s.fF = zE) ∧ (u.fArgs = true ∨ s.fArgs = []) ∧ (u.fDist = true ∨ s.fDist = zD) ∧ (u.fFlag = true ∨ s.fFlag = false) ∧ (u.fBody = true ∨ s.fBody = []) ∧ (u.fOther = true ∨ s.fElse = []) := by
  simp only [fB7, fB6, fB5, fB4, fB3, fB2, fB1, fB0, noneB, Bool.and_eq_true, Bool.or_eq_true, decide_eq_true_eq, sameB_iff, Bool.not_eq_true', and_assoc]
omit h in
theorem stE_ok {s : TStmt} (hs : stE s = 0) : ∃ u, usesT s.fOp = (u, true) ∧ fB7 s u = true ∧ partE s u = 0 := by
  rw [stE_eq, nz_zero] at hs
  have h1 := hs.1
  unfold oneE fmdB at h1
  obtain ⟨⟨u, ok⟩, hq⟩ : ∃ q, usesT s.fOp = q := ⟨_, rfl⟩
  rw [hq] at h1
  simp only at h1
  cases ok
  · simp at h1
  · cases hf : fB7 s u
    · rw [hf] at h1; simp at h1
    · rw [hf] at h1; simp at h1
      exact ⟨u, hq, hf, h1⟩
omit h in
theorem flag_op {op : Int} {u : Tuse} (hq : usesT op = (u, true)) (hf : u.fFlag = true) : op = 6 := by
  unfold usesT at hq
  repeat' split at hq
  all_goals first
    | (cases hq; done)
    | (cases hq; cases hf; done)
    | (cases hq; assumption)
omit h in
theorem f_op {op : Int} {u : Tuse} (hq : usesT op = (u, true)) : (u.fF = true → u.fName = true ∧ u.fE = true) := by
  unfold usesT at hq
  repeat' split at hq
  all_goals first
    | (cases hq; done)
    | (cases hq; simp)
omit h in
theorem err_of_bad {s : TStmt} {u : Tuse} (hq : usesT s.fOp = (u, true)) (hb : fB7 s u = false) : oneE s = 1 := one_bad hq hb
omit h in
theorem of_bad {s : TStmt} {u : Tuse} (hp : partE s u = 0) (ho : s.fOf = []) : u.fOf = false := by
  cases hu : u.fOf
  · rfl
  · exfalso
    unfold partE at hp
    rw [if_pos (.inr ⟨hu, by rw [ho]; decide⟩)] at hp
    cases hp
omit h in
theorem chkE_op0 {e : TExpr} (he : e.fOp = 0) : chkE e ≠ 0 := by
  unfold chkE
  split
  · decide
  split
  · decide
  have h1 : nodeE false e = 1 := by
    unfold nodeE
    rw [if_pos (.inl (by rw [he]; rfl))]
  rw [ndsE_eq, h1, if_pos (by decide)]
  decide
omit h in
theorem f_bad {s : TStmt} {u : Tuse} (hp : partE s u = 0) (ho : s.fF.fOp = 0) : u.fF = false := by
  cases hu : u.fF
  · rfl
  · exfalso
    unfold partE at hp
    split at hp
    · cases hp
    · split at hp
      · rename_i q; exact q hp
      · rename_i q
        simp only [Decidable.not_not] at q
        unfold exprE at q
        split at q
        · rename_i q2; exact q2.2 q
        · rw [if_pos ⟨hu, chkE_op0 ho⟩] at q
          exact chkE_op0 ho q
omit h in
theorem chkD_op0 {d : TDist} (hd : d.fOp = 0) : chkD d = 1 := by
  unfold chkD unuB
  rw [hd]
  rfl
omit h in
theorem d_bad {s : TStmt} {u : Tuse} (hp : partE s u = 0) (ho : s.fDist.fOp = 0) : u.fDist = false := by
  cases hu : u.fDist
  · rfl
  · exfalso
    unfold partE at hp
    rw [if_pos hu, chkD_op0 ho] at hp
    split at hp
    · cases hp
    · split at hp
      · rename_i q; exact q hp
      · cases hp
/-- What a list says with one statement turned to one that has a field too many. -/
theorem chk_set {l : List TStmt} {k : Nat} (hk : k < l.length) (hz : cntT l ≤ 4000000000) (hc : chkS l = 0) (t : TStmt) (hb : t.fBody = l[k].fBody) (he : t.fElse = l[k].fElse) (ho : oneE t = 1) : chkS (l.set k t) = 1 := by
  obtain ⟨h1, h2, h3⟩ := chkS_ok hz hc
  have hs : l.set k t = l.take k ++ t :: l.drop (k + 1) := List.set_eq_take_append_cons_drop ▸ by rw [if_pos hk]
  have hl : l = l.take k ++ l[k] :: l.drop (k + 1) := by rw [← List.drop_eq_getElem_cons hk, List.take_append_drop]
  have hct : cntT (l.set k t) = cntT l := by
    rw [hs]
    conv => rhs; rw [hl]
    rw [cntT_app, cntT_app, cntT_cons, cntT_cons, cntS_eq, cntS_eq, hb, he]
  have hdp : dpT (l.set k t) ≤ 12 := by
    refine dpT_le (by omega) fun s hs' => ?_
    rw [hs] at hs'
    have hsp : ∀ x ∈ l, dpS x ≤ 12 := fun x hx => by have := dpT_mem hx; omega
    rcases List.mem_append.1 hs' with q | q
    · exact hsp s (List.mem_of_mem_take q)
    · rcases List.mem_cons.1 q with rfl | q
      · rw [dpS_eq, hb, he, ← dpS_eq]; exact hsp _ (List.getElem_mem hk)
      · exact hsp s (List.mem_of_mem_drop q)
  have hst : stL (l.set k t) = 1 := by
    rw [hs]
    have h0 : ∀ a : List TStmt, (∀ s ∈ a, stE s = 0) → stL (a ++ t :: l.drop (k + 1)) = 1 := by
      intro a
      induction a with
      | nil =>
        intro _
        rw [List.nil_append, stL_cons, stE_eq, ho]
        rfl
      | cons x a ih =>
        intro ha
        rw [List.cons_append, stL_cons, ha x (List.mem_cons_self ..), nz_0]
        exact ih fun s hs => ha s (List.mem_cons_of_mem _ hs)
    refine h0 _ fun s hs => ?_
    rw [stL_zero] at h3
    exact h3 s (List.mem_of_mem_take hs)
  unfold chkS
  rw [hct, wr_id (by omega) (by omega), if_neg (by omega), if_neg (by omega), hst]
end Go.Proofs.Ytadllkhmihbfhaa
