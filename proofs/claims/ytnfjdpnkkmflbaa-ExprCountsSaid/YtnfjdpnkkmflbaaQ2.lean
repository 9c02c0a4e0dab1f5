/- Chapter 09: expressions: plain laws of accepted expressions, of names and of replacing. -/
import Derived.Test.YtnfjdpnkkmflbaaF7
import Derived.Test.YtnfjdpnkkmflbaaF3
namespace Go.Proofs.Ytnfjdpnkkmflbaa
open Go.AL

theorem ndsL_mem {code : Bool} : ∀ {l : List TExpr}, ndsL code l = 0 → ∀ y ∈ l, ndsE code y = 0
  | [], _, y, hy => by cases hy
  | x :: l, h0, y, hy => by
    rw [ndsL_cons] at h0
    split at h0
    · rename_i h1; exact absurd h0 h1
    · rename_i h1
      rcases List.mem_cons.1 hy with rfl | hy
      · simpa using h1
      · exact ndsL_mem h0 y hy
theorem ndsE_zero {code : Bool} {e : TExpr} (h0 : ndsE code e = 0) : nodeE code e = 0 ∧ ∀ y ∈ e.fKids, ndsE code y = 0 := by
  rw [ndsE_eq] at h0
  split at h0
  · rename_i h1; exact absurd h0 h1
  · rename_i h1; exact ⟨by simpa using h1, ndsL_mem h0⟩
theorem chk_zero {code : Bool} {e : TExpr} (h0 : chkE code e = 0) : cntE e ≤ 60 ∧ depE e ≤ 12 ∧ ndsE code e = 0 := by
  unfold chkE at h0
  split at h0
  · omega
  split at h0
  · omega
  exact ⟨by omega, by omega, h0⟩
theorem chk_of {code : Bool} {e : TExpr} (h1 : cntE e ≤ 60) (h2 : depE e ≤ 12) (h3 : ndsE code e = 0) : chkE code e = 0 := by
  unfold chkE
  rw [if_neg (by omega), if_neg (by omega), h3]
theorem chk_kid {code : Bool} {e : TExpr} (h0 : chkE code e = 0) : ∀ y ∈ e.fKids, chkE code y = 0 := by
  intro y hy
  obtain ⟨h1, h2, h3⟩ := chk_zero h0
  have hc := cntL_mem _ _ hy
  have hd := depL_mem _ _ hy
  rw [cntE_eq] at h1
  rw [depE_eq] at h2
  exact chk_of (by omega) (by omega) ((ndsE_zero h3).2 y hy)
theorem self_named {op : Int} (h : op = 3 ∨ objB op = true) : namedB false op = true ∧ (numP false op).2.2 = false ∧ op ≠ 1 := by
  rcases h with rfl | h
  · decide
  · have h2 := h
    simp only [objB, Bool.and_eq_true, decide_eq_true_eq] at h2
    refine ⟨by simp [namedB, h], ?_, by omega⟩
    unfold numP
    rw [if_neg (by omega), if_neg (by omega), if_neg (by omega)]
    simp
/-- A node that names an object or a name, and is accepted: its name is a name, its number zero. -/
theorem node_named {e : TExpr} (h : e.fOp = 3 ∨ objB e.fOp = true) (h0 : nodeE false e = 0) : nameE e.fName = 0 ∧ e.fN = 0 ∧ (e.fKids.length : Int) = arity e.fOp := by
  obtain ⟨g1, g2, g3⟩ := self_named h
  unfold nodeE at h0
  by_cases hb : badB false e
  · rw [if_pos hb] at h0; omega
  rw [if_neg hb, if_neg g3] at h0
  by_cases hn : (numP false e.fOp).2.2 = false ∧ e.fN ≠ 0
  · rw [if_pos hn] at h0; omega
  rw [if_neg hn, if_neg (fun q => by rw [g2] at q; cases q.1), if_pos g1] at h0
  refine ⟨h0, Classical.byContradiction fun q => hn ⟨g2, q⟩, Classical.byContradiction fun q => hb (.inr (.inl q))⟩
theorem nmL_mem {x : List UInt8} : ∀ {l : List TExpr}, x ∈ nmL l → ∃ y ∈ l, x ∈ nmE y
  | [], h => by rw [nmL_nil] at h; cases h
  | y :: l, h => by
    rw [nmL_cons] at h
    rcases List.mem_append.1 h with h | h
    · exact ⟨y, List.mem_cons_self .., h⟩
    · obtain ⟨z, hz, h⟩ := nmL_mem h
      exact ⟨z, List.mem_cons_of_mem _ hz, h⟩
theorem nmL_of {x : List UInt8} : ∀ {l : List TExpr} {y : TExpr}, y ∈ l → x ∈ nmE y → x ∈ nmL l
  | [], _, hy, _ => by cases hy
  | z :: l, y, hy, h => by
    rw [nmL_cons]
    rcases List.mem_cons.1 hy with rfl | hy
    · exact List.mem_append_left _ h
    · exact List.mem_append_right _ (nmL_of hy h)
theorem nm_ok : ∀ e : TExpr, ndsE false e = 0 → ∀ x ∈ nmE e, nameE x = 0 := by
  refine TExpr.ind fun e ih => ?_
  intro h0 x hx
  obtain ⟨h1, h2⟩ := ndsE_zero h0
  rw [nmE_eq] at hx
  rcases List.mem_append.1 hx with hx | hx
  · unfold selfN at hx
    split at hx
    · rename_i q
      rw [List.mem_singleton] at hx
      rw [hx]
      exact (node_named q h1).1
    · cases hx
  · obtain ⟨y, hy, hx⟩ := nmL_mem hx
    exact ih y hy (h2 y hy) x hx
theorem chk_word {s : List UInt8} (hs : nameE s = 0) : chkE false (wordE s) = 0 := by
  have h3 : ndsE false (wordE s) = 0 := by
    rw [ndsE_eq]
    have : nodeE false (wordE s) = 0 := by
      unfold nodeE
      have hb : ¬ badB false (wordE s) := by
        rintro (q | q | ⟨_, q⟩)
        · exact absurd q (by decide : ¬ knownB false 3 = false)
        · exact q (by decide : ((0 : Nat) : Int) = arity 3)
        · exact absurd q (by decide : ¬ namedB false 3 = false)
      rw [if_neg hb]
      simp [wordE, numP, objB, namedB, hs]
    rw [this]
    simp [wordE, ndsL_nil]
  refine chk_of ?_ ?_ h3
  · rw [cntE_eq]; simp [wordE, cntL_nil]
  · rw [depE_eq]; simp [wordE, depL_nil]
theorem names_incr (e : TExpr) : incr (namesZ e) := by
  unfold namesZ
  split
  · exact insL_incr _ _ List.Pairwise.nil
  · exact List.Pairwise.nil
theorem names_word {e : TExpr} : ∀ x ∈ namesZ e, chkE false (wordE x) = 0 := by
  intro x hx
  unfold namesZ at hx
  split at hx
  · rename_i h0
    rw [insL_mem] at hx
    rcases hx with hx | hx
    · cases hx
    · exact chk_word (nm_ok e (chk_zero h0).2.2 x hx)
  · cases hx
theorem names_mem {e : TExpr} (h0 : chkE false e = 0) (x : List UInt8) : x ∈ namesZ e ↔ x ∈ nmE e := by
  unfold namesZ
  rw [if_pos h0, insL_mem]
  simp
theorem names_len (e : TExpr) : (namesZ e).length ≤ cntE e := by
  unfold namesZ
  split
  · have h1 := insL_len (nmE e) []
    have h2 := nm_cnt e
    simp at h1
    omega
  · simp
theorem rep_same {s : List UInt8} {y : TExpr} : ∀ e : TExpr, timE s e = 0 → repE s y e = e := by
  refine TExpr.ind fun e ih => ?_
  intro h0
  rw [timE_eq] at h0
  obtain ⟨op, nm, n, ks⟩ := e
  simp only at h0 ih
  rw [repE_eq]
  split at h0
  · omega
  rename_i q
  rw [if_neg q]
  have key : ∀ l : List TExpr, (∀ z ∈ l, timE s z = 0 → repE s y z = z) → timL s l = 0 → repL s y l = l := by
    intro l
    induction l with
    | nil => intro _ _; rw [repL_map]; rfl
    | cons z l ihl =>
      intro hl h0
      rw [timL_cons] at h0
      rw [repL_map, List.map_cons, hl z (List.mem_cons_self ..) (by omega), ← repL_map, ihl (fun w hw => hl w (List.mem_cons_of_mem _ hw)) (by omega)]
  rw [key ks ih h0]
theorem rep_self {s : List UInt8} : ∀ e : TExpr, ndsE false e = 0 → repE s (wordE s) e = e := by
  refine TExpr.ind fun e ih => ?_
  intro h0
  obtain ⟨h1, h2⟩ := ndsE_zero h0
  obtain ⟨op, nm, n, ks⟩ := e
  simp only at h2 ih
  rw [repE_eq]
  split
  · rename_i q
    obtain ⟨rfl, rfl⟩ := q
    obtain ⟨_, g2, g3⟩ := node_named (.inl rfl) h1
    simp only at g2 g3
    have : arity 3 = 0 := by decide
    have hk : ks = [] := List.length_eq_zero_iff.1 (by omega)
    rw [wordE, g2, hk]
  · have : repL s (wordE s) ks = ks := by
      rw [repL_map]
      conv => rhs; rw [← List.map_id ks]
      exact List.map_congr_left fun z hz => ih z hz (h2 z hz)
    rw [this]
theorem barL_mem {s : List UInt8} : ∀ {l : List TExpr}, barL s l = true → ∀ y ∈ l, barE s y = true
  | [], _, y, hy => by cases hy
  | x :: l, h0, y, hy => by
    rw [barL_cons, Bool.and_eq_true] at h0
    rcases List.mem_cons.1 hy with rfl | hy
    · exact h0.1
    · exact barL_mem h0.2 y hy
/-- How many nodes there are after replacing. -/
theorem rep_cnt {s : List UInt8} {y : TExpr} : ∀ e : TExpr, barE s e = true → cntE (repE s y e) + timE s e = cntE e + timE s e * cntE y := by
  refine TExpr.ind fun e ih => ?_
  intro hb
  rw [barE_eq] at hb
  rw [timE_eq, cntE_eq e]
  obtain ⟨op, nm, n, ks⟩ := e
  simp only at hb ih ⊢
  rw [repE_eq]
  by_cases q : op = 3 ∧ nm = s
  · rw [if_pos q, if_pos q]
    have hk : ks = [] := Classical.byContradiction fun z => by rw [if_pos ⟨q.1, q.2, z⟩] at hb; cases hb
    rw [hk, cntL_nil]
    omega
  · rw [if_neg q, if_neg q, cntE_eq]
    rw [if_neg (fun z => q ⟨z.1, z.2.1⟩)] at hb
    have key : ∀ l : List TExpr, (∀ z ∈ l, barE s z = true → cntE (repE s y z) + timE s z = cntE z + timE s z * cntE y) → barL s l = true → cntL (repL s y l) + timL s l = cntL l + timL s l * cntE y := by
      intro l
      induction l with
      | nil => intro _ _; rw [repL_map]; simp [cntL_nil, timL_nil]
      | cons z l ihl =>
        intro hl hb
        rw [barL_cons, Bool.and_eq_true] at hb
        have h1 := hl z (List.mem_cons_self ..) hb.1
        have h2 := ihl (fun w hw => hl w (List.mem_cons_of_mem _ hw)) hb.2
        rw [repL_map] at h2 ⊢
        rw [List.map_cons, cntL_cons, cntL_cons, timL_cons, Nat.add_mul]
        omega
    have := key ks ih hb
    simp only
    omega
theorem rep_dep {s : List UInt8} {y : TExpr} : ∀ e : TExpr, depE (repE s y e) ≤ depE e + depE y := by
  refine TExpr.ind fun e ih => ?_
  rw [depE_eq e]
  obtain ⟨op, nm, n, ks⟩ := e
  simp only at ih ⊢
  rw [repE_eq]
  split
  · omega
  · rw [depE_eq]
    have key : ∀ l : List TExpr, (∀ z ∈ l, depE (repE s y z) ≤ depE z + depE y) → depL (repL s y l) ≤ depL l + depE y := by
      intro l
      induction l with
      | nil => intro _; rw [repL_map]; simp [depL_nil]
      | cons z l ihl =>
        intro hl
        have h1 := hl z (List.mem_cons_self ..)
        have h2 := ihl fun w hw => hl w (List.mem_cons_of_mem _ hw)
        rw [repL_map] at h2 ⊢
        rw [List.map_cons, depL_cons, depL_cons]
        omega
    have := key ks ih
    simp only
    omega
theorem timL_mem {s : List UInt8} : ∀ {l : List TExpr} {z : TExpr}, z ∈ l → timE s z ≤ timL s l
  | [], _, h => by cases h
  | x :: l, z, h => by
    rw [timL_cons]
    rcases List.mem_cons.1 h with rfl | h
    · omega
    · have := timL_mem (s := s) h; omega
theorem rep_nm {s : List UInt8} {y : TExpr} {x : List UInt8} : ∀ e : TExpr, x ∈ nmE (repE s y e) → x ∈ nmE e ∨ (0 < timE s e ∧ x ∈ nmE y) := by
  refine TExpr.ind fun e ih => ?_
  intro hx
  rw [timE_eq, nmE_eq e]
  obtain ⟨op, nm, n, ks⟩ := e
  simp only at ih ⊢
  rw [repE_eq] at hx
  split at hx
  · rename_i q
    rw [if_pos q]
    exact .inr ⟨by omega, hx⟩
  · rename_i q
    rw [if_neg q]
    rw [nmE_eq] at hx
    rcases List.mem_append.1 hx with hx | hx
    · exact .inl (List.mem_append_left _ hx)
    · obtain ⟨z, hz, hx⟩ := nmL_mem hx
      simp only [repL_map, List.mem_map] at hz
      obtain ⟨w, hw, rfl⟩ := hz
      rcases ih w hw hx with h1 | ⟨h1, h2⟩
      · exact .inl (List.mem_append_right _ (nmL_of hw h1))
      · exact .inr ⟨by have := timL_mem (s := s) hw; omega, h2⟩
theorem rep_ok {s : List UInt8} {y : TExpr} (hy : y.ok) : ∀ e : TExpr, e.ok → (repE s y e).ok := by
  refine TExpr.ind fun e ih => ?_
  intro hok
  obtain ⟨_, g1, g2, g3, g4, g5⟩ := hok
  obtain ⟨op, nm, n, ks⟩ := e
  simp only at ih g1 g2 g3 g4 g5
  rw [repE_eq]
  split
  · exact hy
  · refine .mk _ g1 g2 g3 (by simpa [repL_map] using g4) ?_
    intro z hz
    simp only [repL_map, List.mem_map] at hz
    obtain ⟨w, hw, rfl⟩ := hz
    exact ih w hw (g5 w hw)
theorem word_ok {s : List UInt8} (hs : s.length ≤ 9223372036854775807) : (wordE s).ok := .mk _ (show (Lit.int IntKind.i64 3).wf = true by decide) hs (show (Lit.int IntKind.i64 0).wf = true by decide) (by simp [wordE]) (by simp [wordE])
theorem insF_has {x : List UInt8} {l : List (List UInt8)} (hl : incr l) (hx : x ∈ l) : (insF x l false).length = l.length := by
  rw [incr_unique (insF_incr x l hl) hl fun z => ?_]
  rw [insF_mem]
  constructor
  · rintro (h | ⟨rfl, _⟩)
    · exact h.1
    · exact hx
  · intro h
    by_cases q : z = x
    · exact .inr ⟨q, rfl⟩
    · exact .inl ⟨h, q⟩
def rightZ (t n : Int) : Bool := decide (t = 2) || ((decide (t = 1) || decide (t = 3)) && (decide (-1000000000000 ≤ n) && decide (n ≤ 1000000000000)))
theorem nds_leaf (code : Bool) (op n : Int) : ndsE code ⟨op, [], n, []⟩ = nodeE code ⟨op, [], n, []⟩ := by
  rw [ndsE_eq]
  simp only [ndsL_nil]
  split
  · rfl
  · rename_i q; simpa using (Classical.not_not.1 q).symm
theorem chk_leaf (code : Bool) (op n : Int) : chkE code ⟨op, [], n, []⟩ = nodeE code ⟨op, [], n, []⟩ := by
  unfold chkE
  rw [cntE_eq, depE_eq]
  simp only [cntL_nil, depL_nil]
  rw [if_neg (by omega), if_neg (by omega), nds_leaf]
theorem node_int (code : Bool) (n : Int) : nodeE code ⟨1, [], n, []⟩ = if inB n = true then 0 else 2 := by
  unfold nodeE
  rw [if_neg, if_pos rfl]
  rintro (q | q | ⟨q, _⟩)
  · exact absurd q (show ¬ knownB code 1 = false by cases code <;> decide)
  · exact q (by decide : ((0 : Nat) : Int) = arity 1)
  · exact q rfl
theorem node_bool (code : Bool) (n : Int) (hn : n = 0 ∨ n = 1) : nodeE code ⟨2, [], n, []⟩ = 0 := by
  rcases hn with rfl | rfl <;> cases code <;> decide
theorem chk_const (code : Bool) (t n : Int) : decide (chkE code (constE t n) = 0) = rightZ t n := by
  unfold constE
  by_cases t1 : t = 1
  · rw [if_pos t1, chk_leaf, node_int]
    by_cases q : inB n = true
    · rw [if_pos q]; simp only [inB] at q; simp only [rightZ, t1, q]; rfl
    · rw [if_neg q]; simp only [inB, Bool.not_eq_true] at q; simp only [rightZ, t1, q]; rfl
  rw [if_neg t1]
  by_cases t2 : t = 2
  · rw [if_pos t2, chk_leaf, node_bool _ _ (by split <;> simp)]
    simp [rightZ, t2]
  rw [if_neg t2]
  by_cases t3 : t = 3
  · rw [if_pos t3]
    have e1 : chkE code ⟨7, [], 0, [⟨1, [], n, []⟩]⟩ = if inB n = true then 0 else 2 := by
      have e2 : nodeE code ⟨7, [], 0, [⟨1, [], n, []⟩]⟩ = 0 := by
        unfold nodeE
        rw [if_neg]
        · cases code <;> simp [numP, objB, namedB]
        · rintro (q | q | ⟨q, _⟩)
          · exact absurd q (show ¬ knownB code 7 = false by cases code <;> decide)
          · exact q (by decide : ((1 : Nat) : Int) = arity 7)
          · exact q rfl
      unfold chkE
      rw [cntE_eq, depE_eq, ndsE_eq, e2]
      simp only [cntL_nil, depL_nil, cntL_cons, depL_cons, cntE_eq, depE_eq, ndsL_cons, ndsL_nil, nds_leaf, node_int]
      rw [if_neg (by omega), if_neg (by omega), if_neg (by simp)]
      by_cases q : inB n = true
      · simp [q]
      · simp [q]
    rw [e1]
    by_cases q : inB n = true
    · rw [if_pos q]; simp only [inB] at q; simp only [rightZ, t3, q]; rfl
    · rw [if_neg q]; simp only [inB, Bool.not_eq_true] at q; simp only [rightZ, t3, q]; rfl
  rw [if_neg t3]
  have : chkE code ⟨0, [], 0, []⟩ = 1 := by
    rw [chk_leaf]
    cases code <;> decide
  rw [this]
  simp [rightZ, t1, t2, t3]
end Go.Proofs.Ytnfjdpnkkmflbaa
