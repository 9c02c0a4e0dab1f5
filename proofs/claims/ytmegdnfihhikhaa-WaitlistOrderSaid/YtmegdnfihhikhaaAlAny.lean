/- An abstract layer over the walk, 13d: regions whose order is drawn, that make memory: what yields in whatever world is taken first, the others come one by one. No program in sight. -/
import Derived.Test.YtmegdnfihhikhaaAlLine
import Derived.OrdersHeld
namespace Go.AL

def selOp (o : Oper) : Bool := match o.op with | .select .. => true | _ => false

/-- May the operations be walked in this order, whatever order is drawn? -/
def okSch (ops : Array Oper) : List Nat → Array Bool → Bool
  | [], listed => (Region.ready .any ops listed).isEmpty
  | i :: rest, listed =>
    (match ops[i]? with
     | some o => if constOp o.op then (Region.ready .any ops listed).contains i && Region.free .any ops listed i else Region.ready .any ops listed == [i]
     | none => false) && okSch ops rest (listed.setIfInBounds i true)

theorem step_wp {P : Program} {X : Ctx} {Q : AX → S → Prop} {KK : Act → World → Prop} {o : Oper} {K : S → Prop} {s : S} (hK : ∀ s a w μ, K s → Sim P X s a w μ → KK a w) {a : Act} {w : World} {μ : Mu} (hS : Sim P X s a w μ)
    (h : stepK P o K s) : o.wp P a w KK (lift P X Q) := by
  have plain : obind (aop P s.h (ev s.t) o.op) (finK o.dst K s.t) → o.wp P a w KK (lift P X Q) := by
    intro h
    cases hop : aop P s.h (ev s.t) o.op with
    | none => rw [hop] at h; exact h.elim
    | some y =>
      obtain ⟨r, H'⟩ := y
      rw [hop] at h
      obtain ⟨nx, v, w', h1, h2, h3⟩ := s_aop (a := a) o hS.hs (hS.eval) hop
      obtain ⟨μ', h4⟩ := sim_step (d := o.dst) hS h3
      unfold Oper.wp
      rw [h1]
      rcases h2 with rfl | ⟨rfl, rfl⟩
      · exact hK _ _ _ μ' h h4
      · exact hK _ _ _ μ' h h4
  unfold stepK at h
  split at h
  · rename_i c hc
    split at h
    · rename_i f hf
      unfold callK at h
      split at h
      · rename_i fid caps hfn
        obtain ⟨hcb, h⟩ := h
        have hrf := hS.eval f
        rw [hfn] at hrf
        generalize hva : a.eval f = vf at hrf
        cases hrf with | fn _ _ _ vcaps hl hh =>
        have hL := (repL_map hS.eval c.args.toList).app (RepL.ofget hl hh)
        have hcall := h w X.F0 μ _ hS.hs hL
        obtain ⟨dst, op, type, pos, aft, g⟩ := o
        obtain ⟨callee, as, ts⟩ := c
        simp only at hc hf
        subst hc hf
        unfold Oper.wp
        rw [run_enter hcb hva]
        refine hcall.mono ?_
        rintro e w' ⟨v, r, H', rfl, hR, hres⟩
        obtain ⟨μ', h4⟩ := sim_step (d := dst) hS hres
        exact hK _ _ _ μ' hR h4
      · exact h.elim
    · exact plain h
  · exact plain h

theorem wanted_of {P : Program} {X : Ctx} {s : S} {a : Act} {w : World} {μ : Mu} {ops : Array Oper} {o : Oper} (hS : Sim P X s a w μ) {j : Nat} {want b : Bool} (hg : o.guard = some (j, want)) (hb : gval ops s.t j = .bool b) :
    Region.wanted o (yielded ops a.tmps) = (b == want) := by
  have hy := gval_yielded hS hb
  cases b <;> cases want <;> simp [Region.wanted, hg, hy]

theorem any_sound {P : Program} {X : Ctx} {ops : Array Oper} {Q : AX → S → Prop} (hns : Region.noSelect ops = true) : ∀ (sch : List Nat) (listed : Array Bool) (s : S) (l : List Oper), okSch ops sch listed = true → sch.mapM (fun i => ops[i]?) = some l → vcOps P ops Q l s →
    ∀ a w μ, Sim P X s a w μ → wpAnyH P .any ops (lift P X Q) (fun _ => True) sch.length listed a w
  | [], listed, s, l, hok, hl, h, a, w, μ, hS => by
    simp at hl; subst hl
    simp only [okSch, List.isEmpty_iff] at hok
    exact wpAnyH_done hok ⟨.normal, s, μ, rfl, h, hS⟩ _
  | i :: rest, listed, s, l, hok, hl, h, a, w, μ, hS => by
    simp only [okSch, Bool.and_eq_true] at hok
    obtain ⟨hok1, hok2⟩ := hok
    simp only [List.mapM_cons, Option.bind_eq_bind, Option.pure_def] at hl
    obtain ⟨o, ho, hl⟩ := Option.bind_eq_some_iff.1 hl
    obtain ⟨l', hl', hl⟩ := Option.bind_eq_some_iff.1 hl
    cases hl
    rw [ho] at hok1
    simp only at hok1
    have ih := fun s => any_sound (P := P) (X := X) (Q := Q) hns rest (listed.setIfInBounds i true) s l' hok2 hl'
    by_cases hc : constOp o.op = true
    · rw [if_pos hc, Bool.and_eq_true] at hok1
      have hQ : ∀ (v : Value) c a w, lift P X Q (.panic c) (a.put o.dst v) w → lift P X Q (.panic c) a w := by
        rintro v c a w ⟨x, s', μ', he, _⟩
        cases x <;> cases he
      have step : ∀ K : S → Prop, stepK P o K s → ∃ r v, K ⟨put s.t o.dst r, s.h⟩ ∧ (∀ w', (execOp a.eval o).run P w' = .ok (.value v) w') ∧ Rep P w (Ft X.F0 μ s.h) μ r v := by
        intro K h
        have h' : obind (aop P s.h (ev s.t) o.op) (finK o.dst K s.t) := by
          unfold stepK at h
          split at h
          · rename_i c hcc
            split at h
            · rename_i f hf
              simp [constOp, hcc, hf] at hc
            · exact h
          · exact h
        cases hop : aop P s.h (ev s.t) o.op with
        | none => rw [hop] at h'; exact h'.elim
        | some y =>
          obtain ⟨r, H'⟩ := y
          rw [hop] at h'
          obtain ⟨rfl, v, h1, h2⟩ := s_const (a := a) o hc hS.hs hS.eval hop
          exact ⟨r, v, h', fun w' => h1 w' trivial, h2⟩
      have go : ∀ r v, vcOps P ops Q l' ⟨put s.t o.dst r, s.h⟩ → YieldsIf P ops (fun _ => True) o v a → Rep P w (Ft X.F0 μ s.h) μ r v → wpAnyH P .any ops (lift P X Q) (fun _ => True) (rest.length + 1) listed a w := by
        intro r v hK hy hr
        refine wpAnyH_take ho hns hok1.2 hok1.1 (hQ v) hy trivial ?_
        exact ih _ hK _ _ μ (hS.put o.dst hS.hs (Adv.refl _ _) (List.prefix_refl _) hr)
      simp only [vcOps] at h
      split at h
      · rename_i hg
        obtain ⟨r, v, hK, h1, h2⟩ := step _ h
        exact go r v hK (.inl ⟨by simp [Region.wanted, hg], fun w' _ => h1 w'⟩) h2
      · rename_i j want hg
        unfold guardK at h
        split at h
        · rename_i b hb
          have hwt := wanted_of hS hg hb
          by_cases hw : b = want
          · obtain ⟨r, v, hK, h1, h2⟩ := step _ (h.1 hw)
            exact go r v hK (.inl ⟨by rw [hwt]; simp [hw], fun w' _ => h1 w'⟩) h2
          · have hb' : b = !want := by cases b <;> cases want <;> simp_all
            exact go .any undef (h.2 hb') (.inr ⟨by rw [hwt]; simp [hw], rfl⟩) (.any _ _)
        · exact h.elim
    · rw [if_neg hc] at hok1
      refine wpAnyH_all (rs := [i]) (by simpa using hok1) (by simp) ?_
      intro i' hi'
      simp at hi'; subst hi'
      unfold wpOp
      simp only [ho]
      simp only [vcOps] at h
      split at h
      · rename_i hg
        rw [if_pos (by simp [Region.wanted, hg])]
        exact .inl (step_wp (fun s a w μ hK hS => ⟨trivial, ih s hK a w μ hS⟩) hS h)
      · rename_i j want hg
        unfold guardK at h
        split at h
        · rename_i b hb
          have hwt := wanted_of hS hg hb
          by_cases hw : b = want
          · rw [if_pos (by rw [hwt]; simp [hw])]
            exact .inl (step_wp (fun s a w μ hK hS => ⟨trivial, ih s hK a w μ hS⟩) hS (h.1 hw))
          · have hb' : b = !want := by cases b <;> cases want <;> simp_all
            rw [if_neg (by rw [hwt]; simp [hw])]
            exact ⟨trivial, ih _ (h.2 hb') _ _ μ (hS.put o.dst hS.hs (Adv.refl _ _) (List.prefix_refl _) (.any _ _))⟩
        · exact h.elim

/-- A region that draws its order, walked in an order of ours. -/
theorem awp_any {P : Program} {X : Ctx} {id : Nat} {ops : List Oper} {Q : AX → S → Prop} {s : S} (sch : List Nat) (l : List Oper) (hm : P.follows .mixedOrders = true) (hns : Region.noSelect ops.toArray = true) (hlen : sch.length = ops.length)
    (hok : okSch ops.toArray sch (Array.replicate ops.length false) = true) (hl : sch.mapM (fun i => ops.toArray[i]?) = some l) (h : vcOps P ops.toArray Q l s) : awp P X (.region id ops.toArray true) Q s := by
  intro a w μ hS
  refine wp_region_held (S := fun _ => True) hm ?_
  have hS' : Sim P X s a w.drew μ := ⟨hS.len, fun i x hx => (hS.rep i x hx).adv ((Adv.drew NoF).ofNo _) (List.prefix_refl _), hS.hs.ofNo (Adv.drew NoF), hS.adv.trans ((Adv.drew NoF).ofNo _), hS.pre, hS.defers⟩
  have := any_sound hns sch _ s l hok hl h a w.drew μ hS'
  have e : ops.toArray.size = sch.length := by simp [hlen]
  rw [e, hlen]
  rw [hlen] at this
  exact this
end Go.AL
