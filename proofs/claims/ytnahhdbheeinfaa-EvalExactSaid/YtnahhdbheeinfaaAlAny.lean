/- An abstract layer over the walk, 13d: regions whose order is drawn, that make memory: what yields in whatever world is taken first, the others come one by one. No program in sight. -/
import Derived.Test.YtnahhdbheeinfaaAlLine
import Derived.OrdersHeld
namespace Go.AL

def selOp (o : Oper) : Bool := match o.op with | .select .. => true | _ => false

/-- May the operations be walked in this order, whatever order is drawn? -/
def okSch (ops : Array Oper) : List Nat → Array Bool → Bool
  | [], listed => (Region.ready .any ops listed).isEmpty
  | i :: rest, listed =>
    (match ops[i]? with
     | some o => if constOp o.op then (Region.ready .any ops listed).contains i && Region.free .any ops listed i else Region.ready .any ops listed == [i]
     | none => false) && okSch ops rest (listed.setIfInBounds i true)

theorem step_wp {P : Program} {X : Ctx} {Q : AX → S → Prop} {KK : Act → World → Prop} {o : Oper} {K : S → Prop} {s : S} (hK : ∀ s a w μ, K s → Sim P X s a w μ → KK a w) {a : Act} {w : World} {μ : Mu} (hS : Sim P X s a w μ)
    (h : stepK P o K s) : o.wp P a w KK (lift P X Q) := by
  have plain : obind (aop P s.h (ev s.t) o.op) (finK o.dst K s.t) → o.wp P a w KK (lift P X Q) := by
    intro h
    cases hop : aop P s.h (ev s.t) o.op with
    | none => rw [hop] at h; exact h.elim
    | some y =>
      obtain ⟨r, H'⟩ := y
      rw [hop] at h
      obtain ⟨nx, v, w', h1, h2, h3⟩ := s_aop (a := a) o hS.hs (hS.eval) hop
      obtain ⟨μ', h4⟩ := sim_step (d := o.dst) hS h3
      unfold Oper.wp
      rw [h1]
      rcases h2 with rfl | ⟨rfl, rfl⟩
      · exact hK _ _ _ μ' h h4
      · exact hK _ _ _ μ' h h4
  unfold stepK at h
  split at h
  · rename_i c hc
    split at h
    · rename_i f hf
      unfold callK at h
      split at h
      · rename_i fid caps hfn
        obtain ⟨hcb, h⟩ := h
        have hrf := hS.eval f
        rw [hfn] at hrf
        generalize hva : a.eval f = vf at hrf
        cases hrf with | fn _ _ _ vcaps hl hh =>
        have hL := (repL_map hS.eval c.args.toList).app (RepL.ofget hl hh)
        have hcall := h w X.F0 μ _ hS.hs hL
        obtain ⟨dst, op, type, pos, aft, g⟩ := o
        obtain ⟨callee, as, ts⟩ := c
        simp only at hc hf
        subst hc hf
        unfold Oper.wp
        rw [run_enter hcb hva]
        refine hcall.mono ?_
        rintro e w' ⟨v, r, H', rfl, hR, hres⟩
        obtain ⟨μ', h4⟩ := sim_step (d := dst) hS hres
        exact hK _ _ _ μ' hR h4
      · exact h.elim
    · exact plain h
  · exact plain h

theorem wanted_of {P : Program} {X : Ctx} {s : S} {a : Act} {w : World} {μ : Mu} {ops : Array Oper} {o : Oper} (hS : Sim P X s a w μ) {j : Nat} {want b : Bool} (hg : o.guard = some (j, want)) (hb : gval ops s.t j = .bool b) :
    Region.wanted o (yielded ops a.tmps) = (b == want) := by
  have hy := gval_yielded hS hb
  cases b <;> cases want <;> simp [Region.wanted, hg, hy]

theorem any_sound {P : Program} {X : Ctx} {ops : Array Oper} {Q : AX → S → Prop} (hns : Region.noSelect ops = true) : ∀ (sch : List Nat) (listed : Array Bool) (s : S) (l : List Oper), okSch ops sch listed = true → sch.mapM (fun i => ops[i]?) = some l → vcOps P ops Q l s →
    ∀ a w μ, Sim P X s a w μ → wpAnyH P .any ops (lift P X Q) (fun _ => True) sch.length listed a w
  | [], listed, s, l, hok, hl, h, a, w, μ, hS => by
    simp at hl; subst hl
    simp only [okSch, List.isEmpty_iff] at hok
    exact wpAnyH_done hok ⟨.normal, s, μ, rfl, h, hS⟩ _
  | i :: rest, listed, s, l, hok, hl, h, a, w, μ, hS => by
    simp only [okSch, Bool.and_eq_true] at hok
    obtain ⟨hok1, hok2⟩ := hok
    simp only [List.mapM_cons, Option.bind_eq_bind, Option.pure_def] at hl
    obtain ⟨o, ho, hl⟩ := Option.bind_eq_some_iff.1 hl
    obtain ⟨l', hl', hl⟩ := Option.bind_eq_some_iff.1 hl
    cases hl
    rw [ho] at hok1
    simp only at hok1
    have ih := fun s => any_sound (P := P) (X := X) (Q := Q) hns rest (listed.setIfInBounds i true) s l' hok2 hl'
    by_cases hc : constOp o.op = true
    · rw [if_pos hc, Bool.and_eq_true] at hok1
      have hQ : ∀ (v : Value) c a w, lift P X Q (.panic c) (a.put o.dst v) w → lift P X Q (.panic c) a w := by
        rintro v c a w ⟨x, s', μ', he, _⟩
        cases x <;> cases he
      have step : ∀ K : S → Prop, stepK P o K s → ∃ r v, K ⟨put s.t o.dst r, s.h⟩ ∧ (∀ w', (execOp a.eval o).run P w' = .ok (.value v) w') ∧ Rep P w (Ft X.F0 μ s.h) μ r v := by
        intro K h
        have h' : obind (aop P s.h (ev s.t) o.op) (finK o.dst K s.t) := by
          unfold stepK at h
          split at h
          · rename_i c hcc
            split at h
            · rename_i f hf
              simp [constOp, hcc, hf] at hc
            · exact h
          · exact h
        cases hop : aop P s.h (ev s.t) o.op with
        | none => rw [hop] at h'; exact h'.elim
        | some y =>
          obtain ⟨r, H'⟩ := y
          rw [hop] at h'
          obtain ⟨rfl, v, h1, h2⟩ := s_const (a := a) o hc hS.hs hS.eval hop
          exact ⟨r, v, h', fun w' => h1 w' trivial, h2⟩
      have go : ∀ r v, vcOps P ops Q l' ⟨put s.t o.dst r, s.h⟩ → YieldsIf P ops (fun _ => True) o v a → Rep P w (Ft X.F0 μ s.h) μ r v → wpAnyH P .any ops (lift P X Q) (fun _ => True) (rest.length + 1) listed a w := by
        intro r v hK hy hr
        refine wpAnyH_take ho hns hok1.2 hok1.1 (hQ v) hy trivial ?_
        exact ih _ hK _ _ μ (hS.put o.dst hS.hs (Adv.refl _ _) (List.prefix_refl _) hr)
      simp only [vcOps] at h
      split at h
      · rename_i hg
        obtain ⟨r, v, hK, h1, h2⟩ := step _ h
        exact go r v hK (.inl ⟨by simp [Region.wanted, hg], fun w' _ => h1 w'⟩) h2
      · rename_i j want hg
        unfold guardK at h
        split at h
        · rename_i b hb
          have hwt := wanted_of hS hg hb
          by_cases hw : b = want
          · obtain ⟨r, v, hK, h1, h2⟩ := step _ (h.1 hw)
            exact go r v hK (.inl ⟨by rw [hwt]; simp [hw], fun w' _ => h1 w'⟩) h2
          · have hb' : b = !want := by cases b <;> cases want <;> simp_all
            exact go (.tup []) undef (h.2 hb') (.inr ⟨by rw [hwt]; simp [hw], rfl⟩) rep_undef
        · rename_i hb
          have hy := gval_und hS hb
          exact go (.tup []) undef h (.inr ⟨by simp [Region.wanted, hg, hy], rfl⟩) rep_undef
        · exact h.elim
    · rw [if_neg hc] at hok1
      refine wpAnyH_all (rs := [i]) (by simpa using hok1) (by simp) ?_
      intro i' hi'
      simp at hi'; subst hi'
      unfold wpOp
      simp only [ho]
      simp only [vcOps] at h
      split at h
      · rename_i hg
        rw [if_pos (by simp [Region.wanted, hg])]
        exact .inl (step_wp (fun s a w μ hK hS => ⟨trivial, ih s hK a w μ hS⟩) hS h)
      · rename_i j want hg
        unfold guardK at h
        split at h
        · rename_i b hb
          have hwt := wanted_of hS hg hb
          by_cases hw : b = want
          · rw [if_pos (by rw [hwt]; simp [hw])]
            exact .inl (step_wp (fun s a w μ hK hS => ⟨trivial, ih s hK a w μ hS⟩) hS (h.1 hw))
          · have hb' : b = !want := by cases b <;> cases want <;> simp_all
            rw [if_neg (by rw [hwt]; simp [hw])]
            exact ⟨trivial, ih _ (h.2 hb') _ _ μ (hS.put o.dst hS.hs (Adv.refl _ _) (List.prefix_refl _) rep_undef)⟩
        · rename_i hb
          have hy := gval_und hS hb
          rw [if_neg (by simp [Region.wanted, hg, hy])]
          exact ⟨trivial, ih _ h _ _ μ (hS.put o.dst hS.hs (Adv.refl _ _) (List.prefix_refl _) rep_undef)⟩
        · exact h.elim

/-- A region that draws its order, walked in an order of ours. -/
theorem awp_any {P : Program} {X : Ctx} {id : Nat} {ops : List Oper} {Q : AX → S → Prop} {s : S} (sch : List Nat) (l : List Oper) (hm : P.follows .mixedOrders = true) (hns : Region.noSelect ops.toArray = true) (hlen : sch.length = ops.length)
    (hok : okSch ops.toArray sch (Array.replicate ops.length false) = true) (hl : sch.mapM (fun i => ops.toArray[i]?) = some l) (h : vcOps P ops.toArray Q l s) : awp P X (.region id ops.toArray true) Q s := by
  intro a w μ hS
  refine wp_region_held (S := fun _ => True) hm ?_
  have hS' : Sim P X s a w.drew μ := ⟨hS.len, fun i x hx => (hS.rep i x hx).adv ((Adv.drew NoF).ofNo _) (List.prefix_refl _), hS.hs.ofNo (Adv.drew NoF), hS.adv.trans ((Adv.drew NoF).ofNo _), hS.pre, hS.defers⟩
  have := any_sound hns sch _ s l hok hl h a w.drew μ hS'
  have e : ops.toArray.size = sch.length := by simp [hlen]
  rw [e, hlen]
  rw [hlen] at this
  exact this
/-! Regions with loads and calls, that write nothing that was there. -/
/-- Operations that write nothing, and are no calls of Go functions. -/
def quietOp (o : Op) : Bool := pureOp o && (match o with | .call c => (match c.callee with | .value _ => false | _ => true) | _ => true)

def okQ (ops : Array Oper) : List Nat → Array Bool → Bool
  | [], listed => (Region.ready .any ops listed).isEmpty
  | i :: rest, listed =>
    (match ops[i]? with
     | some o => if quietOp o.op then (Region.ready .any ops listed).contains i && Region.free .any ops listed i else Region.ready .any ops listed == [i]
     | none => false) && okQ ops rest (listed.setIfInBounds i true)

def callN (P : Program) (f : A) (args : List A) (dst : Option Tmp) (K : S → Prop) (s : S) : Prop :=
  match f with
  | .fn fid caps => ∃ args' r, argsK P s.h (args ++ caps) = some args' ∧ FCall P fid args' (fun x => x = r) ∧ (scal r || noidL (args ++ caps)) = true ∧ K ⟨put s.t dst r, s.h⟩
  | _ => False

def stepN (P : Program) (o : Oper) (K : S → Prop) (s : S) : Prop :=
  match o.op with
  | .call c => match c.callee with
    | .value f => callN P (ev s.t f) (c.args.toList.map (ev s.t)) o.dst K s
    | _ => (quietOp o.op || allocOp o.op) = true ∧ obind (aop P s.h (ev s.t) o.op) (finK o.dst K s.t)
  | _ => (quietOp o.op || allocOp o.op) = true ∧ obind (aop P s.h (ev s.t) o.op) (finK o.dst K s.t)

def vcN (P : Program) (ops : Array Oper) (Q : AX → S → Prop) : List Oper → S → Prop
  | [], s => Q .normal s
  | o :: rest, s =>
    match o.guard with
    | none => stepN P o (vcN P ops Q rest) s
    | some (j, want) => guardK (gval ops s.t j) want (stepN P o (vcN P ops Q rest) s) (vcN P ops Q rest ⟨put s.t o.dst (.tup []), s.h⟩)

theorem callN_run {P : Program} {f : FuncId} {args args' : List A} {r : A} {w : World} {F0 : Fz} {μ : Mu} {H : List Row} {vs : List Value} (hs : HS P w F0 μ H) (hl : RepL P w (Ft F0 μ H) μ args vs) (hn : argsK P H args = some args') (hc : FCall P f args' (fun x => x = r)) (hr : (scal r || noidL args) = true) :
    Calls P f ⟨vs⟩ w fun e w' => ∃ v, e = .returned v ∧ Rep P w' (Ft F0 μ H) μ r v ∧ Adv w NoF w' NoF := by
  obtain ⟨ys, h1, h2⟩ := Option.map_eq_some_iff.1 hn
  subst h2
  by_cases hsc : scal r = true
  · have hl' := s_resL (F' := NoF) hs (fun _ _ hf => hf.elim) (fun _ _ _ _ _ _ _ _ _ hf => hf) hl h1
    refine (hc.wk.2 w NoF vs (fun b o hf => hf.elim) hl').mono ?_
    rintro e w' ⟨v, r', rfl, rfl, g2, g3⟩
    exact ⟨v, rfl, g2.scal hsc, g3⟩
  · have hna : noidL args = true := by simpa [hsc] using hr
    have : ys = args := by simp [resL, hna] at h1; exact h1.symm
    subst this
    refine (hc.wk.2 w (Ft F0 μ H) vs (fun b o hf => hs.lt hf) (RepL.noid hna hl)).mono ?_
    rintro e w' ⟨v, r', rfl, rfl, g2, g3⟩
    exact ⟨v, rfl, g2.mono (fun _ _ _ h => h) List.nil_prefix, g3⟩

theorem wpAnyH_mono {P : Program} {ops : Array Oper} {md : Region.Mode} {Q : Exit → Act → World → Prop} {S1 S2 : World → Prop} (h12 : ∀ w, S1 w → S2 w) : ∀ (fuel : Nat) (listed : Array Bool) (a : Act) (w : World), wpAnyH P md ops Q S1 fuel listed a w → wpAnyH P md ops Q S2 fuel listed a w
  | 0, _, _, _, h => h
  | fuel + 1, _, _, _, h => ⟨h.1, fun i hi => wpOp_mono (fun a' w' h' => ⟨h12 w' h'.1, wpAnyH_mono h12 fuel _ a' w' h'.2⟩) (h.2 i hi)⟩

theorem Sim.later {P : Program} {X : Ctx} {s : S} {a : Act} {w w' : World} {μ : Mu} (hS : Sim P X s a w μ) (hA : Adv w NoF w' NoF) : Sim P X s a w' μ :=
  ⟨hS.len, fun i x hx => (hS.rep i x hx).adv (hA.ofNo _) (List.prefix_refl _), hS.hs.ofNo hA, hS.adv.trans (hA.ofNo _), hS.pre, hS.defers⟩

theorem quiet_sound {P : Program} {X : Ctx} {ops : Array Oper} {Q : AX → S → Prop} (hns : Region.noSelect ops = true) : ∀ (sch : List Nat) (listed : Array Bool) (s : S) (l : List Oper), okQ ops sch listed = true → sch.mapM (fun i => ops[i]?) = some l → vcN P ops Q l s →
    ∀ a w μ, Sim P X s a w μ → wpAnyH P .any ops (lift P X Q) (fun w' => Adv w NoF w' NoF) sch.length listed a w
  | [], listed, s, l, hok, hl, h, a, w, μ, hS => by
    simp at hl; subst hl
    simp only [okQ, List.isEmpty_iff] at hok
    exact wpAnyH_done hok ⟨.normal, s, μ, rfl, h, hS⟩ _
  | i :: rest, listed, s, l, hok, hl, h, a, w, μ, hS => by
    simp only [okQ, Bool.and_eq_true] at hok
    obtain ⟨hok1, hok2⟩ := hok
    simp only [List.mapM_cons, Option.bind_eq_bind, Option.pure_def] at hl
    obtain ⟨o, ho, hl⟩ := Option.bind_eq_some_iff.1 hl
    obtain ⟨l', hl', hl⟩ := Option.bind_eq_some_iff.1 hl
    cases hl
    rw [ho] at hok1
    simp only at hok1
    have ih := fun s => quiet_sound (P := P) (X := X) (Q := Q) hns rest (listed.setIfInBounds i true) s l' hok2 hl'
    by_cases hc : quietOp o.op = true
    · rw [if_pos hc, Bool.and_eq_true] at hok1
      have hQ : ∀ (v : Value) c a w, lift P X Q (.panic c) (a.put o.dst v) w → lift P X Q (.panic c) a w := by
        rintro v c a w ⟨x, s', μ', he, _⟩
        cases x <;> cases he
      have step : ∀ K : S → Prop, stepN P o K s → ∃ r v, K ⟨put s.t o.dst r, s.h⟩ ∧ (∀ w', Adv w NoF w' NoF → (execOp a.eval o).run P w' = .ok (.value v) w') ∧ Rep P w (Ft X.F0 μ s.h) μ r v := by
        intro K h
        have h' : obind (aop P s.h (ev s.t) o.op) (finK o.dst K s.t) := by
          unfold stepN at h
          split at h
          · rename_i c hcc
            split at h
            · rename_i f hf
              simp [quietOp, hcc, hf] at hc
            · exact h.2
          · exact h.2
        cases hop : aop P s.h (ev s.t) o.op with
        | none => rw [hop] at h'; exact h'.elim
        | some y =>
          obtain ⟨r, H'⟩ := y
          rw [hop] at h'
          have hp : pureOp o.op = true := by unfold quietOp at hc; simp only [Bool.and_eq_true] at hc; exact hc.1
          obtain ⟨rfl, v, h1, h2⟩ := s_pure (a := a) o hp hS.hs hS.eval hop
          exact ⟨r, v, h', h1, h2⟩
      have go : ∀ r v, vcN P ops Q l' ⟨put s.t o.dst r, s.h⟩ → YieldsIf P ops (fun w' => Adv w NoF w' NoF) o v a → Rep P w (Ft X.F0 μ s.h) μ r v → wpAnyH P .any ops (lift P X Q) (fun w' => Adv w NoF w' NoF) (rest.length + 1) listed a w := by
        intro r v hK hy hr
        refine wpAnyH_take ho hns hok1.2 hok1.1 (hQ v) hy (Adv.refl _ _) ?_
        exact ih _ hK _ _ μ (hS.put o.dst hS.hs (Adv.refl _ _) (List.prefix_refl _) hr)
      simp only [vcN] at h
      split at h
      · rename_i hg
        obtain ⟨r, v, hK, h1, h2⟩ := step _ h
        exact go r v hK (.inl ⟨by simp [Region.wanted, hg], h1⟩) h2
      · rename_i j want hg
        unfold guardK at h
        split at h
        · rename_i b hb
          have hwt := wanted_of hS hg hb
          by_cases hw : b = want
          · obtain ⟨r, v, hK, h1, h2⟩ := step _ (h.1 hw)
            exact go r v hK (.inl ⟨by rw [hwt]; simp [hw], h1⟩) h2
          · have hb' : b = !want := by cases b <;> cases want <;> simp_all
            exact go (.tup []) undef (h.2 hb') (.inr ⟨by rw [hwt]; simp [hw], rfl⟩) rep_undef
        · rename_i hb
          have hy := gval_und hS hb
          exact go (.tup []) undef h (.inr ⟨by simp [Region.wanted, hg, hy], rfl⟩) rep_undef
        · exact h.elim
    · rw [if_neg hc] at hok1
      refine wpAnyH_all (rs := [i]) (by simpa using hok1) (by simp) ?_
      intro i' hi'
      simp at hi'; subst hi'
      have after : ∀ s' a' w' μ', vcN P ops Q l' s' → Sim P X s' a' w' μ' → Adv w NoF w' NoF → Adv w NoF w' NoF ∧ wpAnyH P .any ops (lift P X Q) (fun w'' => Adv w NoF w'' NoF) rest.length (listed.setIfInBounds i' true) a' w' :=
        fun s' a' w' μ' hK hS' hA => ⟨hA, wpAnyH_mono (fun w'' h => hA.trans h) _ _ _ _ (ih s' hK a' w' μ' hS')⟩
      have step : stepN P o (vcN P ops Q l') s → o.wp P a w (fun a' w' => Adv w NoF w' NoF ∧ wpAnyH P .any ops (lift P X Q) (fun w'' => Adv w NoF w'' NoF) rest.length (listed.setIfInBounds i' true) a' w') (lift P X Q) := by
        intro h
        have plain : (quietOp o.op || allocOp o.op) = true ∧ obind (aop P s.h (ev s.t) o.op) (finK o.dst (vcN P ops Q l') s.t) → o.wp P a w (fun a' w' => Adv w NoF w' NoF ∧ wpAnyH P .any ops (lift P X Q) (fun w'' => Adv w NoF w'' NoF) rest.length (listed.setIfInBounds i' true) a' w') (lift P X Q) := by
          rintro ⟨hao, h⟩
          have hal : allocOp o.op = true := by simpa [hc] using hao
          cases hop : aop P s.h (ev s.t) o.op with
          | none => rw [hop] at h; exact h.elim
          | some y =>
            obtain ⟨r, H'⟩ := y
            rw [hop] at h
            obtain ⟨v, w', h1, h2, h3⟩ := s_alloc (a := a) o hal hS.hs hS.eval hop
            obtain ⟨μ', h4⟩ := sim_step (d := o.dst) hS h2
            unfold Oper.wp
            rw [h1]
            exact after _ _ _ μ' h h4 h3
        unfold stepN at h
        split at h
        · rename_i c hcc
          split at h
          · rename_i f hf
            unfold callN at h
            split at h
            · rename_i fid caps hfn
              obtain ⟨args', r, hn, hF, hsn, hK⟩ := h
              have hrf := hS.eval f
              rw [hfn] at hrf
              generalize hva : a.eval f = vf at hrf
              cases hrf with | fn _ _ _ vcaps hl hh =>
              have hL := (repL_map hS.eval c.args.toList).app (RepL.ofget hl hh)
              have hcall := callN_run hS.hs hL hn hF hsn
              obtain ⟨dst, op, type, pos, aft, g⟩ := o
              obtain ⟨callee, as, ts⟩ := c
              simp only at hcc hf
              subst hcc hf
              unfold Oper.wp
              rw [run_enter hF.1 hva]
              refine hcall.mono ?_
              rintro e w' ⟨v, rfl, g1, g2⟩
              exact after _ _ _ μ hK (hS.put dst (hS.hs.ofNo g2) (g2.ofNo _) (List.prefix_refl _) g1) g2
            · exact h.elim
          · exact plain h
        · exact plain h
      unfold wpOp
      simp only [ho]
      simp only [vcN] at h
      split at h
      · rename_i hg
        rw [if_pos (by simp [Region.wanted, hg])]
        exact .inl (step h)
      · rename_i j want hg
        unfold guardK at h
        split at h
        · rename_i b hb
          have hwt := wanted_of hS hg hb
          by_cases hw : b = want
          · rw [if_pos (by rw [hwt]; simp [hw])]
            exact .inl (step (h.1 hw))
          · have hb' : b = !want := by cases b <;> cases want <;> simp_all
            rw [if_neg (by rw [hwt]; simp [hw])]
            exact after _ _ _ μ (h.2 hb') (hS.put o.dst hS.hs (Adv.refl _ _) (List.prefix_refl _) rep_undef) (Adv.refl _ _)
        · rename_i hb
          have hy := gval_und hS hb
          rw [if_neg (by simp [Region.wanted, hg, hy])]
          exact after _ _ _ μ h (hS.put o.dst hS.hs (Adv.refl _ _) (List.prefix_refl _) rep_undef) (Adv.refl _ _)
        · exact h.elim

/-- A region that draws its order, with loads and calls, that writes nothing that was there: walked in an order of ours. -/
theorem awp_quiet {P : Program} {X : Ctx} {id : Nat} {ops : List Oper} {Q : AX → S → Prop} {s : S} (sch : List Nat) (l : List Oper) (hm : P.follows .mixedOrders = true) (hns : Region.noSelect ops.toArray = true) (hlen : sch.length = ops.length)
    (hok : okQ ops.toArray sch (Array.replicate ops.length false) = true) (hl : sch.mapM (fun i => ops.toArray[i]?) = some l) (h : vcN P ops.toArray Q l s) : awp P X (.region id ops.toArray true) Q s := by
  intro a w μ hS
  refine wp_region_held (S := fun w' => Adv w.drew NoF w' NoF) hm ?_
  have := quiet_sound hns sch _ s l hok hl h a w.drew μ (hS.later (Adv.drew NoF))
  have e : ops.toArray.size = sch.length := by simp [hlen]
  rw [e, hlen]
  rw [hlen] at this
  exact this
end Go.AL
