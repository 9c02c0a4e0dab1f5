/- An abstract layer over the walk, 22: a call that works on one live row; the caller's other rows stay. No program in sight. -/
import Derived.Test.YtnahhdbheeinfaaAlLib
namespace Go.AL

/-- The result of such a call, in the caller's numbers. -/
def reA (id : Nat) : A → A
  | .own 0 off len c ex => .own id off len c ex
  | x => x
def frmd : A → Bool
  | .own 0 _ _ _ _ => true
  | x => x.noid
theorem reA_or (id : Nat) (r : A) (h : frmd r = true) : (∃ off len c ex, r = .own 0 off len c ex ∧ reA id r = .own id off len c ex) ∨ (r.noid = true ∧ reA id r = r) := by
  unfold frmd at h
  split at h
  · exact .inl ⟨_, _, _, _, rfl, rfl⟩
  · rename_i x hx
    refine .inr ⟨h, ?_⟩
    unfold reA
    split
    · rename_i off len c ex
      exact (hx off len c ex rfl).elim
    · rfl
theorem dead_get {k i : Nat} {r : Row} (h : (List.replicate k dead0)[i]? = some r) : r.live = false := by
  rw [List.getElem?_replicate] at h
  split at h
  · cases h; rfl
  · cases h
theorem cons_get {r1 : Row} {k i : Nat} {r : Row} (h : (r1 :: List.replicate k dead0)[i]? = some r) (hl : r.live = true) : i = 0 ∧ r = r1 := by
  cases i with
  | zero => simp at h; exact ⟨rfl, h.symm⟩
  | succ i =>
    simp only [List.getElem?_cons_succ] at h
    rw [dead_get h] at hl; cases hl

/-- A call by a contract on one row. -/
theorem xcall_frame {P : Program} {f : FuncId} {args args' : List A} {H : List Row} {r0 : Row} {R : A → Row → Prop} {K : A → List Row → Prop} (id : Nat)
    (h : XCall P f args' [r0] fun r H' => ∃ r1 k, H' = r1 :: List.replicate k dead0 ∧ (r1.live = true → r0.live = true) ∧ noidL r1.es = true ∧ frmd r = true ∧ R r r1)
    (hr : H[id]? = some r0) (hes : noidL r0.es = true) (ha : leL [id] args args') (hah : hasRL 1 args') (hK : ∀ r r1, R r r1 → K (reA id r) (H.set id r1)) : XCall P f args H K := by
  refine ⟨h.1, fun w F0 μ vs hs hl => ?_⟩
  have hid : id < H.length := (List.getElem?_eq_some_iff.1 hr).1
  have hidμ : id < μ.length := by rw [hs.len]; exact hid
  obtain ⟨⟨b0, bs0⟩, hμ⟩ : ∃ p, μ[id]? = some p := ⟨_, List.getElem?_eq_getElem hidμ⟩
  have hrn : rnMu μ [id] = [(b0, bs0)] := by
    simp only [rnMu, List.map_cons, List.map_nil]
    rw [List.getD_eq_getElem?_getD, hμ]; rfl
  -- the cells of the others
  let F1 : Fz := fun b o => Ft F0 μ H b o ∧ ¬ (r0.live = true ∧ b = b0)
  have fsub : ∀ b o, Ft F1 [(b0, bs0)] [r0] b o → Ft F0 μ H b o := by
    rintro b o (hf | ⟨i, r, bs, h1, h2, h3, h4⟩)
    · exact hf.1
    · cases i with
      | zero =>
        simp at h1 h3
        obtain ⟨rfl, rfl⟩ := h3
        subst h1
        exact .inr ⟨id, r0, bs0, hr, h2, hμ, h4⟩
      | succ i => simp at h1
  have hs1 : HS P w F1 [(b0, bs0)] [r0] := by
    refine ⟨rfl, fun b o hf => hs.lt hf.1, ?_, ?_, ?_⟩
    · intro i r b bs h1 h2 h3
      cases i with
      | succ i => simp at h1
      | zero =>
        simp at h1 h3
        obtain ⟨rfl, rfl⟩ := h3
        subst h1
        have hA : Adv w (Ft F0 μ H) w (Ft F1 [(b0, bs0)] [r0]) := ⟨rfl, rfl, rfl, Nat.le_refl _, fun _ _ _ h _ => h, fun b o _ h => fsub b o h, fun _ _ _ h => h, fun _ _ _ => rfl⟩
        rcases hs.row id r0 b0 bs0 hr h2 hμ with ⟨cur, c1, c2, c3, c4, c5⟩ | hm
        · refine .inl ⟨cur, c1, c2, c3, c4, fun k e he => ?_⟩
          obtain ⟨g1, V, g2, g3⟩ := c5 k e he
          exact ⟨g1, V, (g2.noid (noidL_get hes k e he)).adv hA (List.nil_prefix), g3⟩
        · exact .inr (hm.adv hA rfl)
    · intro i j r r' b bs bs' h1 _ h3 _ _ _
      cases i with
      | succ i => simp at h1
      | zero => cases j with
        | succ j => simp at h3
        | zero => rfl
    · intro i r b bs o h1 h2 h3 hf
      cases i with
      | succ i => simp at h1
      | zero =>
        simp at h1 h3
        subst h1
        exact hf.2 ⟨h2, h3.1.symm⟩
  have hl1 : RepL P w (Ft F1 [(b0, bs0)] [r0]) [(b0, bs0)] args' vs := by
    obtain ⟨g1, g2⟩ := RepL.get hl
    refine RepL.ofget (by rw [g1]; exact (leL_len ha).symm) fun i c u hc hu => ?_
    obtain ⟨x, hx, hle⟩ := leL_get ha i c hc
    have := rep_ren (g2 i x u hx hu) hle (hasRL_get hah i c hc)
    rw [hrn] at this
    exact this.mono (fun b o _ hf => fsub b o hf) (List.prefix_refl _)
  refine (h.2 w F1 [(b0, bs0)] vs hs1 hl1).mono ?_
  rintro e w' ⟨v, r, H', rfl, ⟨r1, k, rfl, hlive, hnid, hfr, hR⟩, μ', h1, h2, h3, h4⟩
  have hμ0 : μ'[0]? = some (b0, bs0) := get_prefix h3 rfl
  -- the row itself, as the callee has left it
  have hF1 : ∀ b o, Fof [(b0, bs0)] [r0] b o → Fof μ H b o ∧ b = b0 := by
    rintro b o ⟨i, r, bs, g1, g2, g3, g4⟩
    cases i with
    | succ i => simp at g1
    | zero =>
      simp at g1 g3
      obtain ⟨rfl, rfl⟩ := g3
      subst g1
      exact ⟨⟨id, r0, bs0, hr, g2, hμ, g4⟩, rfl⟩
  have other : ∀ (i : Nat) (r : Row) (b bs : Nat), H[i]? = some r → r.live = true → μ[i]? = some (b, bs) → i ≠ id → ¬ (r0.live = true ∧ b = b0) := by
    rintro i r b bs g1 g2 g3 g4 ⟨g5, rfl⟩
    exact g4 (hs.inj i id r r0 b bs bs0 g1 g2 hr g5 g3 hμ)
  have get2 : ∀ (i : Nat) (r : Row), (H.set id r1)[i]? = some r → (i = id ∧ r = r1) ∨ (i ≠ id ∧ H[i]? = some r) := by
    intro i r g
    rw [List.getElem?_set] at g
    by_cases e : id = i
    · rw [if_pos e, if_pos hid] at g
      cases g
      exact .inl ⟨e.symm, rfl⟩
    · rw [if_neg e] at g
      exact .inr ⟨fun h => e h.symm, g⟩
  have sub2 : ∀ b o, Ft F0 μ (H.set id r1) b o → Ft F1 μ' (r1 :: List.replicate k dead0) b o := by
    rintro b o (hf | ⟨i, r, bs, g1, g2, g3, g4⟩)
    · exact .inl ⟨.inl hf, fun ⟨g5, g6⟩ => hs.sep id r0 b0 bs0 o hr g5 hμ (by rw [← g6]; exact hf)⟩
    · rcases get2 i r g1 with ⟨rfl, rfl⟩ | ⟨gi, g5⟩
      · rw [hμ] at g3; cases g3
        exact .inr ⟨0, r, _, rfl, g2, hμ0, g4⟩
      · exact .inl ⟨.inr ⟨i, r, bs, g5, g2, g3, g4⟩, other i r b bs g5 g2 g3 gi⟩
  have mono2 : ∀ b o, b < w.heap.size → Fof μ (H.set id r1) b o → Fof μ H b o := by
    rintro b o hb ⟨i, r, bs, g1, g2, g3, g4⟩
    rcases get2 i r g1 with ⟨rfl, rfl⟩ | ⟨gi, g5⟩
    · rw [hμ] at g3; cases g3
      exact (hF1 _ o (h2.mono _ o hb ⟨0, r, _, rfl, g2, hμ0, g4⟩)).1
    · exact ⟨i, r, bs, g5, g2, g3, g4⟩
  have hA : Adv w (Fof μ H) w' (Fof μ (H.set id r1)) :=
    ⟨h2.os, h2.tape, h2.output, h2.size, fun b o u hc hf => h2.cell b o u hc fun g => hf (hF1 b o g).1, mono2, h2.shape, fun b hb hf => h2.block b hb fun o g => hf o (hF1 b o g).1⟩
  have hB : Adv w' (Ft F1 μ' (r1 :: List.replicate k dead0)) w' (Ft F0 μ (H.set id r1)) :=
    ⟨rfl, rfl, rfl, Nat.le_refl _, fun _ _ _ h _ => h, fun b o _ h => sub2 b o h, fun _ _ _ h => h, fun _ _ _ => rfl⟩
  refine ⟨v, reA id r, H.set id r1, rfl, hK r r1 hR, μ, ?_, hA, List.prefix_refl _, ?_⟩
  · refine ⟨by rw [List.length_set]; exact hs.len, fun b o hf => Nat.lt_of_lt_of_le (hs.bound b o hf) h2.size, ?_, ?_, ?_⟩
    · intro i r b bs g1 g2 g3
      rcases get2 i r g1 with ⟨rfl, rfl⟩ | ⟨gi, g5⟩
      · rw [hμ] at g3; cases g3
        rcases h1.row 0 r _ _ rfl g2 hμ0 with ⟨cur, c1, c2, c3, c4, c5⟩ | hm
        · refine .inl ⟨cur, c1, c2, c3, c4, fun k e he => ?_⟩
          obtain ⟨q1, V, q2, q3⟩ := c5 k e he
          exact ⟨q1, V, (q2.noid (noidL_get hnid k e he)).adv hB (List.nil_prefix), q3⟩
        · exact .inr (hm.adv hB rfl)
      · have hb := hs.lt (b := b) (o := bs + r.f * r.sz) (.inr ⟨i, r, bs, g5, g2, g3, Nat.le_refl _⟩)
        have hne := other i r b bs g5 g2 g3 gi
        have hblk : w'.heap[b]? = w.heap[b]? := h2.block b hb fun o g => by
          obtain ⟨⟨j, rj, bj, j1, j2, j3, _⟩, g7⟩ := hF1 b o g
          obtain ⟨j', r', bs', q1, q2, q3, _⟩ := g
          cases j' with
          | succ j' => simp at q1
          | zero =>
            simp at q1
            subst q1
            exact hne ⟨q2, g7⟩
        rcases hs.row i r b bs g5 g2 g3 with hc | hm
        · exact .inl (hc.adv (hA.join F0) (List.prefix_refl _) hblk)
        · exact .inr (hm.adv (hA.join F0) hblk)
    · intro i j r r' b bs bs' g1 g2 g3 g4 g5 g6
      have flat : ∀ (i : Nat) (r : Row), (H.set id r1)[i]? = some r → r.live = true → ∃ r', H[i]? = some r' ∧ r'.live = true := by
        intro i r q1 q2
        rcases get2 i r q1 with ⟨rfl, rfl⟩ | ⟨_, q3⟩
        · exact ⟨r0, hr, hlive q2⟩
        · exact ⟨r, q3, q2⟩
      obtain ⟨s1, s2, s3⟩ := flat i r g1 g2
      obtain ⟨t1, t2, t3⟩ := flat j r' g3 g4
      exact hs.inj i j s1 t1 b bs bs' s2 s3 t2 t3 g5 g6
    · intro i r b bs o g1 g2 g3
      rcases get2 i r g1 with ⟨rfl, rfl⟩ | ⟨_, q3⟩
      · exact hs.sep i r0 b bs o hr (hlive g2) g3
      · exact hs.sep i r b bs o q3 g2 g3
  · rcases reA_or id r hfr with ⟨off, len, c, ex, rfl, e2⟩ | ⟨hn, e2⟩
    · rw [e2]
      cases h4 with
      | own _ id' off len cb ex b bs cap ty n hμ' hsh hfit hlen hcb hmax hex ao hat =>
        rw [hμ0] at hμ'; cases hμ'
        exact .own _ id off len _ ex _ _ cap ty n hμ hsh hfit hlen hcb hmax hex ao hat
      | ownn _ _ _ a => exact .ownn _ _ _ a
    · rw [e2]
      exact (h4.noid hn).adv hB (List.nil_prefix)

/-- The result of a call that is handed no row, in the caller's numbers. -/
def shA (n : Nat) : A → A
  | .own i off len c ex => .own (n + i) off len c ex
  | x => x
def frsh : A → Bool
  | .own _ _ _ _ _ => true
  | x => x.noid
theorem shA_or (n : Nat) (r : A) (h : frsh r = true) : (∃ i off len c ex, r = .own i off len c ex ∧ shA n r = .own (n + i) off len c ex) ∨ (r.noid = true ∧ shA n r = r) := by
  cases r with
  | own i off len c ex => exact .inl ⟨_, _, _, _, _, rfl, rfl⟩
  | _ => exact .inr ⟨h, rfl⟩

/-- A call by a contract that is handed no row: its own new rows come behind the caller's. -/
theorem xcall_fresh {P : Program} {f : FuncId} {args : List A} {H : List Row} {R : A → List Row → Prop} {K : A → List Row → Prop}
    (h : XCall P f args [] fun r L => (∀ x ∈ L, noidL x.es = true) ∧ frsh r = true ∧ R r L) (hn : noidL args = true) (hK : ∀ r L, R r L → K (shA H.length r) (H ++ L)) : XCall P f args H K := by
  refine ⟨h.1, fun w F0 μ vs hs hl => ?_⟩
  have hnil : ∀ b o, ¬ Fof ([] : Mu) [] b o := by rintro b o ⟨i, r, bs, h1, _⟩; simp at h1
  have hFt : Ft (Ft F0 μ H) [] [] = Ft F0 μ H := by funext b o; exact propext ⟨fun h => h.elim id fun h => (hnil b o h).elim, .inl⟩
  refine (h.2 w (Ft F0 μ H) [] vs (HS.nil fun b o hf => hs.lt hf) (by rw [hFt]; exact RepL.noid hn hl)).mono ?_
  rintro e w' ⟨v, r, L, rfl, ⟨hnid, hfr, hR⟩, μ', h1, h2, _, h4⟩
  have hlen := hs.len
  have hblk : ∀ b, b < w.heap.size → w'.heap[b]? = w.heap[b]? := fun b hb => h2.block b hb fun o => hnil b o
  have new : ∀ (i : Nat) (r : Row) (b bs : Nat), L[i]? = some r → r.live = true → μ'[i]? = some (b, bs) → ¬ b < w.heap.size := by
    intro i r b bs g1 g2 g3 hb
    exact hnil b _ (h2.mono b (bs + r.f * r.sz) hb ⟨i, r, bs, g1, g2, g3, Nat.le_refl _⟩)
  have get : ∀ (i : Nat) (r : Row) (p : Nat × Nat), (H ++ L)[i]? = some r → (μ ++ μ')[i]? = some p → (i < H.length ∧ H[i]? = some r ∧ μ[i]? = some p) ∨ (H.length ≤ i ∧ L[i - H.length]? = some r ∧ μ'[i - H.length]? = some p) := by
    intro i r p g1 g2
    rcases Nat.lt_or_ge i H.length with hi | hi
    · rw [List.getElem?_append_left hi] at g1
      rw [List.getElem?_append_left (by omega)] at g2
      exact .inl ⟨hi, g1, g2⟩
    · rw [List.getElem?_append_right hi] at g1
      rw [List.getElem?_append_right (by omega), hlen] at g2
      exact .inr ⟨hi, g1, g2⟩
  have sub : ∀ b o, Ft F0 (μ ++ μ') (H ++ L) b o → Ft (Ft F0 μ H) μ' L b o := by
    rintro b o (hf | ⟨i, r, bs, g1, g2, g3, g4⟩)
    · exact .inl (.inl hf)
    · rcases get i r _ g1 g3 with ⟨_, q1, q2⟩ | ⟨_, q1, q2⟩
      · exact .inl (.inr ⟨i, r, bs, q1, g2, q2, g4⟩)
      · exact .inr ⟨_, r, bs, q1, g2, q2, g4⟩
  have mono : ∀ b o, b < w.heap.size → Fof (μ ++ μ') (H ++ L) b o → Fof μ H b o := by
    rintro b o hb ⟨i, r, bs, g1, g2, g3, g4⟩
    rcases get i r _ g1 g3 with ⟨_, q1, q2⟩ | ⟨_, q1, q2⟩
    · exact ⟨i, r, bs, q1, g2, q2, g4⟩
    · exact (new _ r b bs q1 g2 q2 hb).elim
  have hA : Adv w (Fof μ H) w' (Fof (μ ++ μ') (H ++ L)) :=
    ⟨h2.os, h2.tape, h2.output, h2.size, fun b o u hc _ => h2.cell b o u hc (hnil b o), mono, h2.shape, fun b hb _ => hblk b hb⟩
  have hB : Adv w' (Ft (Ft F0 μ H) μ' L) w' (Ft F0 (μ ++ μ') (H ++ L)) :=
    ⟨rfl, rfl, rfl, Nat.le_refl _, fun _ _ _ h _ => h, fun b o _ h => sub b o h, fun _ _ _ h => h, fun _ _ _ => rfl⟩
  refine ⟨v, shA H.length r, H ++ L, rfl, hK r L hR, μ ++ μ', ?_, hA, List.prefix_append _ _, ?_⟩
  · refine ⟨by rw [List.length_append, List.length_append, hlen, h1.len], fun b o hf => Nat.lt_of_lt_of_le (hs.bound b o hf) h2.size, ?_, ?_, ?_⟩
    · intro i r b bs g1 g2 g3
      rcases get i r _ g1 g3 with ⟨hi, q1, q2⟩ | ⟨hi, q1, q2⟩
      · have hb := hblk b (hs.lt (o := bs + r.f * r.sz) (.inr ⟨i, r, bs, q1, g2, q2, Nat.le_refl _⟩))
        rcases hs.row i r b bs q1 g2 q2 with hc | hm
        · exact .inl (hc.adv (hA.join F0) (List.prefix_append _ _) hb)
        · exact .inr (hm.adv (hA.join F0) hb)
      · rcases h1.row _ r b bs q1 g2 q2 with ⟨cur, c1, c2, c3, c4, c5⟩ | hm
        · refine .inl ⟨cur, c1, c2, c3, c4, fun k e he => ?_⟩
          obtain ⟨p1, V, p2, p3⟩ := c5 k e he
          exact ⟨p1, V, (p2.noid (noidL_get (hnid r (List.mem_of_getElem? q1)) k e he)).adv hB (List.nil_prefix), p3⟩
        · exact .inr (hm.adv hB rfl)
    · intro i j r r' b bs bs' g1 g2 g3 g4 g5 g6
      rcases get i r _ g1 g5 with ⟨hi, q1, q2⟩ | ⟨hi, q1, q2⟩
      · rcases get j r' _ g3 g6 with ⟨hj, p1, p2⟩ | ⟨hj, p1, p2⟩
        · exact hs.inj i j r r' b bs bs' q1 g2 p1 g4 q2 p2
        · exact (new _ r' b bs' p1 g4 p2 (hs.lt (o := bs + r.f * r.sz) (.inr ⟨i, r, bs, q1, g2, q2, Nat.le_refl _⟩))).elim
      · rcases get j r' _ g3 g6 with ⟨hj, p1, p2⟩ | ⟨hj, p1, p2⟩
        · exact (new _ r b bs q1 g2 q2 (hs.lt (o := bs' + r'.f * r'.sz) (.inr ⟨j, r', bs', p1, g4, p2, Nat.le_refl _⟩))).elim
        · have := h1.inj _ _ r r' b bs bs' q1 g2 p1 g4 q2 p2
          omega
    · intro i r b bs o g1 g2 g3 hf
      rcases get i r _ g1 g3 with ⟨hi, q1, q2⟩ | ⟨hi, q1, q2⟩
      · exact hs.sep i r b bs o q1 g2 q2 hf
      · exact h1.sep _ r b bs o q1 g2 q2 (.inl hf)
  · rcases shA_or H.length r hfr with ⟨i, off, len, c, ex, rfl, e2⟩ | ⟨hn2, e2⟩
    · rw [e2]
      cases h4 with
      | own _ _ off len cb ex b bs cap ty n hμ' hsh hfit hlen' hcb hmax hex ao hat =>
        refine .own _ _ off len _ ex b bs cap ty n ?_ hsh hfit hlen' hcb hmax hex ao hat
        rw [List.getElem?_append_right (by omega), hlen, Nat.add_sub_cancel_left]
        exact hμ'
      | ownn _ _ _ a => exact .ownn _ _ _ a
    · rw [e2]
      exact (h4.noid hn2).adv hB (List.nil_prefix)

/-- A slice that holds the first elements of a row. -/
def RowCut {α : Type} [Enc α] (o : Option Row) (l : List α) : Prop := l = [] ∨ ∃ ty es f, o = some ⟨ty, Enc.sz α, es, f, true⟩ ∧ es.take l.length = l.map Enc.enc
@[simp 20000] theorem resA_cut {α : Type} [Enc α] {P : Program} {H : List Row} (id n c : Nat) (ex : Bool) (l : List α) (h : RowCut H[id]? l) : resA P H (n + 1) (.own id 0 l.length c ex) = some (Ls false l) := by
  unfold resA
  simp only [A.noid, Bool.false_eq_true, if_false]
  rcases h with rfl | ⟨ty, es, f, h1, h2⟩
  · rfl
  · by_cases h0 : l.length = 0
    · rw [if_pos h0, List.eq_nil_of_length_eq_zero h0]; rfl
    · rw [if_neg h0, h1]
      have hle : l.length ≤ es.length := by
        have := congrArg List.length h2
        simp at this; omega
      simp only [Option.bind_some, List.drop_zero, Nat.zero_add, h2, noidL_enc]
      simp [Ls, hle]
theorem noidL_replicate (a : A) (h : a.noid = true) : ∀ n : Nat, noidL (List.replicate n a) = true
  | 0 => rfl
  | n + 1 => by rw [List.replicate_succ]; simp only [noidL, h, noidL_replicate a h n, Bool.and_self]
@[simp] theorem noidL_RF {α : Type} [Enc α] (ty : TypeId) (l : List α) (f : Nat) : noidL (RF ty l f).es = true := by
  unfold RF
  split
  · rfl
  · exact noidL_enc l
/-- Nowhere, or at a first place. -/
theorem idxZ_or {α : Type} (p : α → Bool) (l : List α) : (idxZ p l = -1 ∧ ∀ x ∈ l, p x = false) ∨ ∃ i : Nat, idxZ p l = i ∧ ∃ hi : i < l.length, p l[i] = true ∧ ∀ j (hj : j < l.length), j < i → p l[j] = false := by
  by_cases hi : l.findIdx p < l.length
  · refine .inr ⟨l.findIdx p, by rw [idxZ, if_pos hi], hi, List.findIdx_getElem, fun j hj hji => ?_⟩
    have := List.not_of_lt_findIdx hji
    simpa using this
  · refine .inl ⟨by rw [idxZ, if_neg hi], fun x hx => ?_⟩
    have h1 : l.findIdx p = l.length := Nat.le_antisymm List.findIdx_le_length (by omega)
    have := List.findIdx_eq_length.1 h1 x hx
    simpa using this
end Go.AL
