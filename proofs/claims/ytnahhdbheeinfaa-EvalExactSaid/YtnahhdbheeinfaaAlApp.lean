/- An abstract layer over the walk, 9b: append, where nothing may come: the row goes on under a new number all the same, so that one form serves for all. No program in sight. -/
import Derived.Test.YtnahhdbheeinfaaAlEq
namespace Go.AL

theorem HS.snocDead {P : Program} {w : World} {F0 : Fz} {μ : Mu} {H : List Row} (hs : HS P w F0 μ H) (x : Nat × Nat) {d : Row} (hd : d.live = false) :
    HS P w F0 (μ ++ [x]) (H ++ [d]) ∧ Adv w (Fof μ H) w (Fof (μ ++ [x]) (H ++ [d])) := by
  have get : ∀ (i : Nat) (r : Row), (H ++ [d])[i]? = some r → r.live = true → i < H.length ∧ H[i]? = some r := by
    intro i r hr hl
    rcases Nat.lt_or_ge i H.length with h | h
    · rw [List.getElem?_append_left h] at hr; exact ⟨h, hr⟩
    · rw [List.getElem?_append_right h] at hr
      have := List.mem_of_getElem? hr
      simp at this
      subst this; rw [hd] at hl; cases hl
  have getμ : ∀ i, i < H.length → (μ ++ [x])[i]? = μ[i]? := fun i h => List.getElem?_append_left (by rw [hs.len]; exact h)
  have hm : ∀ b o, Fof (μ ++ [x]) (H ++ [d]) b o → Fof μ H b o := by
    rintro b o ⟨i, r, bs, h1, h2, h3, h4⟩
    obtain ⟨g1, g2⟩ := get i r h1 h2
    exact ⟨i, r, bs, g2, h2, by rw [← getμ i g1]; exact h3, h4⟩
  have hA : Adv w (Fof μ H) w (Fof (μ ++ [x]) (H ++ [d])) := ⟨rfl, rfl, rfl, Nat.le_refl _, fun _ _ _ h _ => h, fun b o _ h => hm b o h, fun _ _ _ h => h, fun _ _ _ => rfl⟩
  refine ⟨⟨by simp [hs.len], hs.bound, ?_, ?_, ?_⟩, hA⟩
  · intro i r b bs hr hl hb
    obtain ⟨g1, g2⟩ := get i r hr hl
    rcases hs.row i r b bs g2 hl (by rw [← getμ i g1]; exact hb) with h1 | h1
    · exact .inl (h1.adv (hA.join F0) (List.prefix_append _ _) rfl)
    · exact .inr (h1.adv (hA.join F0) rfl)
  · intro i j r r' b bs bs' hr hl hr' hl' hb hb'
    obtain ⟨g1, g2⟩ := get i r hr hl
    obtain ⟨g1', g2'⟩ := get j r' hr' hl'
    exact hs.inj i j r r' b bs bs' g2 hl g2' hl' (by rw [← getμ i g1]; exact hb) (by rw [← getμ j g1']; exact hb')
  · intro i r b bs o hr hl hb
    obtain ⟨g1, g2⟩ := get i r hr hl
    exact hs.sep i r b bs o g2 hl (by rw [← getμ i g1]; exact hb)

theorem Res.snocDead {P : Program} {w : World} {F0 : Fz} {μ : Mu} {H : List Row} {v : Value} {w' : World} {r : A} {H' : List Row} (h : Res P w F0 μ H v w' r H') : Res P w F0 μ H v w' r (H' ++ [dead0]) := by
  obtain ⟨μ', h1, h2, h3, h4⟩ := h
  obtain ⟨g1, g2⟩ := h1.snocDead (0, 0) (d := dead0) rfl
  exact ⟨_, g1, h2.trans g2, h3.trans (List.prefix_append _ _), h4.adv (g2.join F0) (List.prefix_append _ _)⟩

theorem Res.kill {P : Program} {w : World} {F0 : Fz} {μ : Mu} {H : List Row} {v : Value} {w' : World} {r : A} {H' : List Row} (id : Nat) (h : Res P w F0 μ H v w' r H') : Res P w F0 μ H v w' r (H'.set id dead0) := by
  obtain ⟨μ', h1, h2, h3, h4⟩ := h
  obtain ⟨g1, g2⟩ := h1.kill (id := id) (d := dead0) rfl
  exact ⟨_, g1, h2.trans g2, h3, h4.adv (g2.join F0) (List.prefix_refl _)⟩

theorem rep_empty {P : Program} {w : World} {F : Fz} {μ : Mu} {v : Value} {r : A} (hr : r = .sl true [] ∨ ∃ id, r = .own id 0 0 0 true) (h : Rep P w F μ r v) (id : Nat) : Rep P w F μ (.own id 0 0 0 true) v := by
  rcases hr with rfl | ⟨id', rfl⟩
  · cases h with
    | slnil _ _ a => exact .ownn _ _ _ _
    | sl _ _ _ b off n cap sz V hn hcap hmax hfull hsz hrep hcell =>
      have h1 : n = 0 := hn
      have h2 : cap = n := hfull rfl
      subst h2; subst h1
      exact .ownn _ _ _ _
  · cases h with
    | own _ _ _ _ _ _ b bs cap ty n hμ hs hfit hlen hcb hmax hex ao hat =>
      have : cap = 0 := hex rfl
      subst this
      exact .ownn _ _ _ _
    | ownn _ _ _ a => exact .ownn _ _ _ _

/-- The same slice, its row under a new number. -/
def renum (H : List Row) (s : A) : Option (A × List Row) :=
  match s with
  | .sl true [] => some (.own H.length 0 0 0 true, H ++ [dead0])
  | .own id 0 0 0 true => some (.own H.length 0 0 0 true, H.set id dead0 ++ [dead0])
  | .own id off len cb false => if off = 0 ∧ cb = len then (H[id]?).bind fun r => if r.live = true ∧ r.es.length = len then some (.own H.length 0 len len false, H.set id dead0 ++ [r]) else none else none
  | _ => none

theorem Res.repR {P : Program} {w : World} {F0 : Fz} {μ : Mu} {H : List Row} {v : Value} {w' : World} {r r' : A} {H' : List Row} (h : Res P w F0 μ H v w' r H') (hr : ∀ {F : Fz} {μ : Mu}, Rep P w' F μ r v → Rep P w' F μ r' v) : Res P w F0 μ H v w' r' H' := by
  obtain ⟨μ', h1, h2, h3, h4⟩ := h
  exact ⟨μ', h1, h2, h3, hr h4⟩

theorem Res.renum {P : Program} {w : World} {F0 : Fz} {μ : Mu} {H : List Row} {v : Value} {w' : World} {s r2 : A} {H1 H2 : List Row} (h : Res P w F0 μ H v w' s H1) (hn : AL.renum H1 s = some (r2, H2)) : Res P w F0 μ H v w' r2 H2 := by
  unfold AL.renum at hn
  split at hn
  · cases hn
    exact h.snocDead.repR fun hr => rep_empty (.inl rfl) hr _
  · cases hn
    exact ((h.kill _).snocDead).repR fun hr => rep_empty (.inr ⟨_, rfl⟩) hr _
  · rename_i id off len cb
    split at hn
    case isFalse => cases hn
    rename_i hc
    obtain ⟨rfl, rfl⟩ := hc
    obtain ⟨row, hrow, hn⟩ := Option.bind_eq_some_iff.1 hn
    split at hn
    case isFalse => cases hn
    rename_i hl
    obtain ⟨hlive, hlen⟩ := hl
    cases hn
    obtain ⟨μ', h1, h2, h3, h4⟩ := h
    cases h4 with | own _ id off len cb ex b bs cap ty n hμ hsh hfit hlen2 hcb hmax hex ao hat =>
    obtain ⟨cur, c1, c2, c3, c4, c5⟩ := h1.cells hrow hlive hμ hsh
    obtain ⟨hs2, hA2⟩ := h1.rebase (d := dead0) (off := 0) (f' := row.f) rfl hrow hlive hμ (by omega) (by omega) hsh
    have hrr : (⟨row.ty, row.sz, row.es.drop 0, row.f, true⟩ : Row) = row := by
      obtain ⟨a1, a2, a3, a4, a5⟩ := row
      simp only at hlive
      subst hlive
      simp
    rw [hrr, Nat.zero_mul, Nat.add_zero] at hs2 hA2
    have hid : id < μ'.length := (List.getElem?_eq_some_iff.1 hμ).1
    refine ⟨_, hs2, h2.trans hA2, h3.trans (List.prefix_append _ _), ?_⟩
    refine .own _ _ _ _ _ _ b bs cap ty n ?_ (hA2.shape b ty n hsh) hfit hlen2 hcb hmax hex ao hat
    rw [List.getElem?_append_right (by rw [h1.len]; exact Nat.le_refl _), h1.len]; simp
  · cases hn

def agrowT (P : Program) (H : List Row) (e : TypeId) (s : A) (olds news : List A) : Option (A × List Row) :=
  match news with
  | [] => (agrow P H e s olds []).map fun y => (renum y.2 y.1).getD y
  | n :: ns => agrow P H e s olds (n :: ns)

def aappend2 (P : Program) (H : List Row) (ts : Array TypeId) (s x : A) : Option (A × List Row) :=
  match ts[0]?, ts[1]? with
  | some t, some t' =>
    match P.underlying t with
    | some (.slice e) =>
      match zbox P e with
      | some (_, bytes) =>
        if isSliceT P t' ∧ P.cellsOf e ≠ 0 then
          (asrc P H e s).bind fun olds => (asrc P H e x).bind fun news =>
            if olds.length + news.length ≤ 9223372036854775807 ∧ (olds.length + news.length) * bytes ≤ 140737488355328 then agrowT P H e s olds news
            else none
        else none
      | none => none
    | _ => none
  | _, _ => none

theorem aappend2_of {P : Program} {H : List Row} {ts : Array TypeId} {s x r : A} {H' : List Row} (h : aappend2 P H ts s x = some (r, H')) :
    aappend P H ts s x = some (r, H') ∨ ∃ y, aappend P H ts s x = some y ∧ renum y.2 y.1 = some (r, H') := by
  unfold aappend2 at h
  unfold aappend
  split at h
  · rename_i t t' h1 h2
    simp only [h1, h2]
    split at h
    · rename_i e h3
      simp only [h3]
      split at h
      · rename_i z bytes h4
        simp only [h4]
        split at h
        · rename_i h5
          rw [if_pos h5]
          obtain ⟨olds, h6, h⟩ := Option.bind_eq_some_iff.1 h
          obtain ⟨news, h7, h⟩ := Option.bind_eq_some_iff.1 h
          split at h
          · rename_i h8
            simp only [h6, h7, Option.bind_some]
            rw [if_pos h8]
            unfold agrowT at h
            split at h
            · obtain ⟨y, hy, h⟩ := Option.map_eq_some_iff.1 h
              rw [hy]
              cases hr : renum y.2 y.1 with
              | none => rw [hr] at h; exact .inl (by rw [← h]; rfl)
              | some q => rw [hr] at h; exact .inr ⟨y, rfl, by rw [hr, ← h]; rfl⟩
            · exact .inl h
          · cases h
        · cases h
      · cases h
    · cases h
  · cases h

theorem s_aappend2 {P : Program} {w : World} {F0 : Fz} {μ : Mu} {H H' : List Row} {ts : Array TypeId} {ty : TypeId} {s x r : A} {vs vx : Value} (hs : HS P w F0 μ H)
    (hS : Rep P w (Ft F0 μ H) μ s vs) (hX : Rep P w (Ft F0 μ H) μ x vx) (h : aappend2 P H ts s x = some (r, H')) :
    ∃ v' w', (Builtin.append_ ts ty #[vs, vx]).run P w = .ok v' w' ∧ Res P w F0 μ H v' w' r H' := by
  rcases aappend2_of h with h | ⟨y, h1, h2⟩
  · exact s_aappend hs hS hX h
  · obtain ⟨v', w', k1, k2⟩ := s_aappend (ty := ty) (r := y.1) (H' := y.2) hs hS hX h1
    exact ⟨v', w', k1, k2.renum h2⟩

/-! A slice that is made with all its room in use. -/
theorem rep_loose {P : Program} {w : World} {F : Fz} {μ : Mu} {v : Value} {id off len cb : Nat} (h0 : cb ≠ 0) (h : Rep P w F μ (.own id off len cb true) v) : Rep P w F μ (.own id off len cb false) v := by
  cases h with
  | own _ _ _ _ _ _ b bs cap ty n hμ hs hfit hlen hcb hmax hex ao hat => exact .own _ _ _ _ _ _ b bs cap ty n hμ hs hfit hlen hcb hmax (by simp) ao hat
  | ownn _ _ _ a => exact (h0 rfl).elim

def amake2 (P : Program) (H : List Row) (t : TypeId) (l c : A) : Option (A × List Row) :=
  match l, c with
  | .int .i64 n, .int .i64 m =>
    if n = m then (amake P H t (.int .i64 n) (.int .i64 n)).bind fun y => if n.toNat = 0 then some (.own H.length 0 0 0 true, y.2.set H.length dead0) else some (.own H.length 0 n.toNat n.toNat false, y.2)
    else amake P H t l c
  | _, _ => amake P H t l c

theorem amake_own {P : Program} {H : List Row} {t : TypeId} {n : Int} {y : A × List Row} (h : amake P H t (.int .i64 n) (.int .i64 n) = some y) : y.1 = .own H.length 0 n.toNat n.toNat true := by
  unfold amake at h
  split at h
  · rename_i e l c hu hl hc
    cases hl; cases hc
    split at h
    · split at h
      · cases h; rfl
      · cases h
    · cases h
  · cases h

theorem s_amake2 {P : Program} {w : World} {F0 : Fz} {μ : Mu} {H H' : List Row} {t : TypeId} {l c r : A} {vl vc : Value} (hs : HS P w F0 μ H) (hl : Rep P w (Ft F0 μ H) μ l vl) (hc : Rep P w (Ft F0 μ H) μ c vc) (h : amake2 P H t l c = some (r, H')) :
    ∃ v' w', (Instr.makeSlice t vl vc).run P w = .ok v' w' ∧ Res P w F0 μ H v' w' r H' ∧ Adv w NoF w' NoF := by
  unfold amake2 at h
  split at h
  · rename_i n m
    split at h
    · rename_i he
      subst he
      obtain ⟨y, hy, h⟩ := Option.bind_eq_some_iff.1 h
      obtain ⟨v', w', h1, h2, h3⟩ := s_amake hs hl hc hy
      refine ⟨v', w', h1, ?_, h3⟩
      split at h
      · rename_i h0
        cases h
        refine (h2.kill _).repR fun hr => ?_
        rw [amake_own hy, h0] at hr
        exact rep_empty (.inr ⟨_, rfl⟩) hr _
      · rename_i h0
        cases h
        rw [amake_own hy] at h2
        exact h2.repR fun hr => rep_loose h0 hr
    · exact s_amake hs hl hc h
  · exact s_amake hs hl hc h
end Go.AL
