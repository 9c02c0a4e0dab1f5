/- A call that is handed one live row and may leave new rows. -/
import Derived.Test.YtadllkhmihbfhaaTy
namespace Go.Proofs.Ytadllkhmihbfhaa
open Go.AL

/-- The result of a call that is handed one live row and may leave new ones, in the caller's numbers. -/
def grA (id n : Nat) : A → A
  | .own 0 off len c ex => .own id off len c ex
  | .own (i + 1) off len c ex => .own (n + i) off len c ex
  | x => x
theorem grA_or (id n : Nat) (r : A) (h : frsh r = true) : (∃ off len c ex, r = .own 0 off len c ex ∧ grA id n r = .own id off len c ex) ∨ (∃ i off len c ex, r = .own (i + 1) off len c ex ∧ grA id n r = .own (n + i) off len c ex) ∨ (r.noid = true ∧ grA id n r = r) := by
  cases r with
  | own i off len c ex =>
    cases i with
    | zero => exact .inl ⟨_, _, _, _, rfl, rfl⟩
    | succ i => exact .inr (.inl ⟨_, _, _, _, _, rfl, rfl⟩)
  | _ => exact .inr (.inr ⟨h, rfl⟩)
/-- A call by a contract on one row that may leave new rows behind it. -/
theorem xcall_grow {P : Program} {f : FuncId} {args args' : List A} {H : List Row} {r0 : Row} {R : A → Row → List Row → Prop} {K : A → List Row → Prop} (id : Nat)
    (h : XCall P f args' [r0] fun r H' => ∃ r1 L, H' = r1 :: L ∧ (r1.live = true → r0.live = true) ∧ noidL r1.es = true ∧ (∀ x ∈ L, noidL x.es = true) ∧ frsh r = true ∧ R r r1 L)
    (hr : H[id]? = some r0) (hes : noidL r0.es = true) (ha : leL [id] args args') (hah : hasRL 1 args') (hK : ∀ r r1 L, R r r1 L → K (grA id H.length r) (H.set id r1 ++ L)) : XCall P f args H K := by
  refine ⟨h.1, fun w F0 μ vs hs hl => ?_⟩
  have hid : id < H.length := (List.getElem?_eq_some_iff.1 hr).1
  have hidμ : id < μ.length := by rw [hs.len]; exact hid
  have hlen := hs.len
  obtain ⟨⟨b0, bs0⟩, hμ⟩ : ∃ p, μ[id]? = some p := ⟨_, List.getElem?_eq_getElem hidμ⟩
  have hrn : rnMu μ [id] = [(b0, bs0)] := by
    simp only [rnMu, List.map_cons, List.map_nil]
    rw [List.getD_eq_getElem?_getD, hμ]; rfl
  let F1 : Fz := fun b o => Ft F0 μ H b o ∧ ¬ (r0.live = true ∧ b = b0)
  have fsub : ∀ b o, Ft F1 [(b0, bs0)] [r0] b o → Ft F0 μ H b o := by
    rintro b o (hf | ⟨i, r, bs, h1, h2, h3, h4⟩)
    · exact hf.1
    · cases i with
      | zero =>
        simp at h1 h3
        obtain ⟨rfl, rfl⟩ := h3
        subst h1
        exact .inr ⟨id, r0, bs0, hr, h2, hμ, h4⟩
      | succ i => simp at h1
  have hs1 : HS P w F1 [(b0, bs0)] [r0] := by
    refine ⟨rfl, fun b o hf => hs.lt hf.1, ?_, ?_, ?_⟩
    · intro i r b bs h1 h2 h3
      cases i with
      | succ i => simp at h1
      | zero =>
        simp at h1 h3
        obtain ⟨rfl, rfl⟩ := h3
        subst h1
        have hA : Adv w (Ft F0 μ H) w (Ft F1 [(b0, bs0)] [r0]) := ⟨rfl, rfl, rfl, Nat.le_refl _, fun _ _ _ h _ => h, fun b o _ h => fsub b o h, fun _ _ _ h => h, fun _ _ _ => rfl⟩
        rcases hs.row id r0 b0 bs0 hr h2 hμ with ⟨cur, c1, c2, c3, c4, c5⟩ | hm
        · refine .inl ⟨cur, c1, c2, c3, c4, fun k e he => ?_⟩
          obtain ⟨g1, V, g2, g3⟩ := c5 k e he
          exact ⟨g1, V, (g2.noid (noidL_get hes k e he)).adv hA (List.nil_prefix), g3⟩
        · exact .inr (hm.adv hA rfl)
    · intro i j r r' b bs bs' h1 _ h3 _ _ _
      cases i with
      | succ i => simp at h1
      | zero => cases j with
        | succ j => simp at h3
        | zero => rfl
    · intro i r b bs o h1 h2 h3 hf
      cases i with
      | succ i => simp at h1
      | zero =>
        simp at h1 h3
        subst h1
        exact hf.2 ⟨h2, h3.1.symm⟩
  have hl1 : RepL P w (Ft F1 [(b0, bs0)] [r0]) [(b0, bs0)] args' vs := by
    obtain ⟨g1, g2⟩ := RepL.get hl
    refine RepL.ofget (by rw [g1]; exact (leL_len ha).symm) fun i c u hc hu => ?_
    obtain ⟨x, hx, hle⟩ := leL_get ha i c hc
    have := rep_ren (g2 i x u hx hu) hle (hasRL_get hah i c hc)
    rw [hrn] at this
    exact this.mono (fun b o _ hf => fsub b o hf) (List.prefix_refl _)
  refine (h.2 w F1 [(b0, bs0)] vs hs1 hl1).mono ?_
  rintro e w' ⟨v, r, H', rfl, ⟨r1, L, rfl, hlive, hnid, hnidL, hfr, hR⟩, μ', h1, h2, h3, h4⟩
  obtain ⟨ν, rfl⟩ : ∃ ν, μ' = (b0, bs0) :: ν := by
    obtain ⟨ν, rfl⟩ := h3
    exact ⟨ν, rfl⟩
  have hF1 : ∀ b o, Fof [(b0, bs0)] [r0] b o → Fof μ H b o ∧ b = b0 ∧ r0.live = true := by
    rintro b o ⟨i, r, bs, g1, g2, g3, g4⟩
    cases i with
    | succ i => simp at g1
    | zero =>
      simp at g1 g3
      obtain ⟨rfl, rfl⟩ := g3
      subst g1
      exact ⟨⟨id, r0, bs0, hr, g2, hμ, g4⟩, rfl, g2⟩
  have other : ∀ (i : Nat) (r : Row) (b bs : Nat), H[i]? = some r → r.live = true → μ[i]? = some (b, bs) → i ≠ id → ¬ (r0.live = true ∧ b = b0) := by
    rintro i r b bs g1 g2 g3 g4 ⟨g5, rfl⟩
    exact g4 (hs.inj i id r r0 b bs bs0 g1 g2 hr g5 g3 hμ)
  have new : ∀ (j : Nat) (r : Row) (b bs : Nat), L[j]? = some r → r.live = true → ν[j]? = some (b, bs) → b < w.heap.size → b = b0 ∧ r0.live = true := by
    intro j r b bs g1 g2 g3 hb
    exact (hF1 b _ (h2.mono b (bs + r.f * r.sz) hb ⟨j + 1, r, bs, by simpa using g1, g2, by simpa using g3, Nat.le_refl _⟩)).2
  have get : ∀ (i : Nat) (r : Row) (p : Nat × Nat), (H.set id r1 ++ L)[i]? = some r → (μ ++ ν)[i]? = some p → (i = id ∧ r = r1 ∧ p = (b0, bs0)) ∨ (i ≠ id ∧ i < H.length ∧ H[i]? = some r ∧ μ[i]? = some p) ∨ (H.length ≤ i ∧ L[i - H.length]? = some r ∧ ν[i - H.length]? = some p) := by
    intro i r p g1 g2
    rcases Nat.lt_or_ge i H.length with hi | hi
    · rw [List.getElem?_append_left (by simpa using hi), List.getElem?_set] at g1
      rw [List.getElem?_append_left (by omega)] at g2
      by_cases e : id = i
      · rw [if_pos e, if_pos hid] at g1
        subst e
        rw [hμ] at g2
        cases g1; cases g2
        exact .inl ⟨rfl, rfl, rfl⟩
      · rw [if_neg e] at g1
        exact .inr (.inl ⟨fun q => e q.symm, hi, g1, g2⟩)
    · rw [List.getElem?_append_right (by simpa using hi), List.length_set] at g1
      rw [List.getElem?_append_right (by omega), hlen] at g2
      exact .inr (.inr ⟨hi, g1, g2⟩)
  have sub2 : ∀ b o, Ft F0 (μ ++ ν) (H.set id r1 ++ L) b o → Ft F1 ((b0, bs0) :: ν) (r1 :: L) b o := by
    rintro b o (hf | ⟨i, r, bs, g1, g2, g3, g4⟩)
    · exact .inl ⟨.inl hf, fun ⟨g5, g6⟩ => hs.sep id r0 b0 bs0 o hr g5 hμ (by rw [← g6]; exact hf)⟩
    · rcases get i r _ g1 g3 with ⟨rfl, rfl, e⟩ | ⟨gi, _, q1, q2⟩ | ⟨_, q1, q2⟩
      · cases e
        exact .inr ⟨0, r, _, rfl, g2, rfl, g4⟩
      · exact .inl ⟨.inr ⟨i, r, bs, q1, g2, q2, g4⟩, other i r b bs q1 g2 q2 gi⟩
      · exact .inr ⟨_ + 1, r, bs, by simpa using q1, g2, by simpa using q2, g4⟩
  have mono2 : ∀ b o, b < w.heap.size → Fof (μ ++ ν) (H.set id r1 ++ L) b o → Fof μ H b o := by
    rintro b o hb ⟨i, r, bs, g1, g2, g3, g4⟩
    rcases get i r _ g1 g3 with ⟨rfl, rfl, e⟩ | ⟨gi, _, q1, q2⟩ | ⟨_, q1, q2⟩
    · cases e
      exact (hF1 _ o (h2.mono _ o hb ⟨0, r, _, rfl, g2, rfl, g4⟩)).1
    · exact ⟨i, r, bs, q1, g2, q2, g4⟩
    · exact (hF1 _ o (h2.mono _ o hb ⟨_ + 1, r, bs, by simpa using q1, g2, by simpa using q2, g4⟩)).1
  have hA : Adv w (Fof μ H) w' (Fof (μ ++ ν) (H.set id r1 ++ L)) :=
    ⟨h2.os, h2.tape, h2.output, h2.size, fun b o u hc hf => h2.cell b o u hc fun g => hf (hF1 b o g).1, mono2, h2.shape, fun b hb hf => h2.block b hb fun o g => hf o (hF1 b o g).1⟩
  have hB : Adv w' (Ft F1 ((b0, bs0) :: ν) (r1 :: L)) w' (Ft F0 (μ ++ ν) (H.set id r1 ++ L)) :=
    ⟨rfl, rfl, rfl, Nat.le_refl _, fun _ _ _ h _ => h, fun b o _ h => sub2 b o h, fun _ _ _ h => h, fun _ _ _ => rfl⟩
  have hνl : ν.length = L.length := by have := h1.len; simpa using this
  refine ⟨v, grA id H.length r, H.set id r1 ++ L, rfl, hK r r1 L hR, μ ++ ν, ?_, hA, List.prefix_append _ _, ?_⟩
  · refine ⟨by rw [List.length_append, List.length_append, List.length_set, hlen, hνl], fun b o hf => Nat.lt_of_lt_of_le (hs.bound b o hf) h2.size, ?_, ?_, ?_⟩
    · intro i r b bs g1 g2 g3
      rcases get i r _ g1 g3 with ⟨rfl, rfl, e⟩ | ⟨gi, _, q1, q2⟩ | ⟨_, q1, q2⟩
      · cases e
        rcases h1.row 0 r _ _ rfl g2 rfl with ⟨cur, c1, c2, c3, c4, c5⟩ | hm
        · refine .inl ⟨cur, c1, c2, c3, c4, fun k e he => ?_⟩
          obtain ⟨q1, V, q2, q3⟩ := c5 k e he
          exact ⟨q1, V, (q2.noid (noidL_get hnid k e he)).adv hB (List.nil_prefix), q3⟩
        · exact .inr (hm.adv hB rfl)
      · have hne := other i r b bs q1 g2 q2 gi
        have hblk : w'.heap[b]? = w.heap[b]? := h2.block b (hs.lt (b := b) (o := bs + r.f * r.sz) (.inr ⟨i, r, bs, q1, g2, q2, Nat.le_refl _⟩)) fun o g => hne ⟨(hF1 b o g).2.2, (hF1 b o g).2.1⟩
        rcases hs.row i r b bs q1 g2 q2 with hc | hm
        · exact .inl (hc.adv (hA.join F0) (List.prefix_append _ _) hblk)
        · exact .inr (hm.adv (hA.join F0) hblk)
      · rcases h1.row (_ + 1) r b bs (by simpa using q1) g2 (by simpa using q2) with ⟨cur, c1, c2, c3, c4, c5⟩ | hm
        · refine .inl ⟨cur, c1, c2, c3, c4, fun k e he => ?_⟩
          obtain ⟨p1, V, p2, p3⟩ := c5 k e he
          exact ⟨p1, V, (p2.noid (noidL_get (hnidL r (List.mem_of_getElem? q1)) k e he)).adv hB (List.nil_prefix), p3⟩
        · exact .inr (hm.adv hB rfl)
    · have clash : ∀ (i j : Nat) (r r' : Row) (b bs bs' : Nat), i ≠ id → H[i]? = some r → r.live = true → μ[i]? = some (b, bs) → L[j]? = some r' → r'.live = true → ν[j]? = some (b, bs') → False := by
        intro i j r r' b bs bs' gi q1 g2 q2 p1 g4 p2
        have hb := hs.lt (b := b) (o := bs + r.f * r.sz) (.inr ⟨i, r, bs, q1, g2, q2, Nat.le_refl _⟩)
        obtain ⟨e1, e2⟩ := new j r' b bs' p1 g4 p2 hb
        exact other i r b bs q1 g2 q2 gi ⟨e2, e1⟩
      intro i j r r' b bs bs' g1 g2 g3 g4 g5 g6
      rcases get i r _ g1 g5 with ⟨rfl, rfl, e⟩ | ⟨gi, _, q1, q2⟩ | ⟨hi, q1, q2⟩
      · cases e
        rcases get j r' _ g3 g6 with ⟨rfl, rfl, _⟩ | ⟨gj, _, p1, p2⟩ | ⟨hj, p1, p2⟩
        · rfl
        · exact hs.inj i j r0 r' b0 bs0 bs' hr (hlive g2) p1 g4 hμ p2
        · have := h1.inj 0 (_ + 1) r r' b0 bs0 bs' rfl g2 (by simpa using p1) g4 rfl (by simpa using p2)
          omega
      · rcases get j r' _ g3 g6 with ⟨rfl, rfl, e⟩ | ⟨gj, _, p1, p2⟩ | ⟨hj, p1, p2⟩
        · cases e
          exact hs.inj i j r r0 b0 bs bs0 q1 g2 hr (hlive g4) q2 hμ
        · exact hs.inj i j r r' b bs bs' q1 g2 p1 g4 q2 p2
        · exact (clash i _ r r' b bs bs' gi q1 g2 q2 p1 g4 p2).elim
      · rcases get j r' _ g3 g6 with ⟨rfl, rfl, e⟩ | ⟨gj, _, p1, p2⟩ | ⟨hj, p1, p2⟩
        · cases e
          have := h1.inj (_ + 1) 0 r r' b0 bs bs0 (by simpa using q1) g2 rfl g4 (by simpa using q2) rfl
          omega
        · exact (clash j _ r' r b bs' bs gj p1 g4 p2 q1 g2 q2).elim
        · have := h1.inj (_ + 1) (_ + 1) r r' b bs bs' (by simpa using q1) g2 (by simpa using p1) g4 (by simpa using q2) (by simpa using p2)
          omega
    · intro i r b bs o g1 g2 g3 hf
      rcases get i r _ g1 g3 with ⟨rfl, rfl, e⟩ | ⟨gi, _, q1, q2⟩ | ⟨_, q1, q2⟩
      · cases e
        exact hs.sep i r0 b0 bs0 o hr (hlive g2) hμ hf
      · exact hs.sep i r b bs o q1 g2 q2 hf
      · obtain ⟨e1, e2⟩ := new _ r b bs q1 g2 q2 (hs.bound b o hf)
        exact hs.sep id r0 b0 bs0 o hr e2 hμ (by rw [← e1]; exact hf)
  · rcases grA_or id H.length r hfr with ⟨off, len, c, ex, rfl, e2⟩ | ⟨i, off, len, c, ex, rfl, e2⟩ | ⟨hn, e2⟩
    · rw [e2]
      cases h4 with
      | own _ id' off len cb ex b bs cap ty n hμ' hsh hfit hlen' hcb hmax hex ao hat =>
        simp only [List.getElem?_cons_zero, Option.some.injEq] at hμ'
        cases hμ'
        exact .own _ id off len _ ex _ _ cap ty n (by rw [List.getElem?_append_left hidμ]; exact hμ) hsh hfit hlen' hcb hmax hex ao hat
      | ownn _ _ _ a => exact .ownn _ _ _ a
    · rw [e2]
      cases h4 with
      | own _ id' off len cb ex b bs cap ty n hμ' hsh hfit hlen' hcb hmax hex ao hat =>
        refine .own _ _ off len _ ex b bs cap ty n ?_ hsh hfit hlen' hcb hmax hex ao hat
        rw [List.getElem?_append_right (by omega), hlen, Nat.add_sub_cancel_left]
        simpa using hμ'
      | ownn _ _ _ a => exact .ownn _ _ _ a
    · rw [e2]
      exact (h4.noid hn).adv hB (List.nil_prefix)

end Go.Proofs.Ytadllkhmihbfhaa
