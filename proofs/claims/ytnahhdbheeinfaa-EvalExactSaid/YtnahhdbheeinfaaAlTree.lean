/- An abstract layer over the walk, 19: regions whose order is drawn, walked along a tree of orders: what yields in every later world is taken first, of the others whichever comes up. No program in sight. -/
import Derived.Test.YtnahhdbheeinfaaAlQuiet
namespace Go.AL

/-- A tree of orders. 'take i': operation i is taken first. 'alt i t r': i may come up next, then t; r: the others that may. -/
inductive Tr where
  | done
  | stop
  | take (i : Nat) (t : Tr)
  | alt (i : Nat) (t r : Tr)

inductive TrO where
  | done
  | stop
  | take (o : Oper) (t : TrO)
  | alt (o : Oper) (t r : TrO)

def Tr.ids : Tr → List Nat
  | .alt i _ r => i :: r.ids
  | _ => []

def Tr.deep : Tr → Nat
  | .take _ t => t.deep + 1
  | .alt _ t r => max (t.deep + 1) r.deep
  | _ => 0

def Tr.res (ops : Array Oper) : Tr → Option TrO
  | .done => some .done
  | .stop => some .stop
  | .take i t => match ops[i]? with
    | some o => match t.res ops with
      | some t' => some (.take o t')
      | none => none
    | none => none
  | .alt i t r => match ops[i]? with
    | some o => match t.res ops with
      | some t' => match r.res ops with
        | some r' => some (.alt o t' r')
        | none => none
      | none => none
    | none => none

def takeOp (o : Op) : Bool := constOp o || (match o with | .load .. => true | _ => false)

def okT (ops : Array Oper) : Bool → Tr → Array Bool → Bool
  | true, .done, listed => (Region.ready .any ops listed).isEmpty
  | true, .take i t, listed => (match ops[i]? with
     | some o => takeOp o.op && (Region.ready .any ops listed).contains i && Region.free .any ops listed i
     | none => false) && okT ops true t (listed.setIfInBounds i true)
  | top, .alt i t r, listed => (!top || Region.ready .any ops listed == i :: r.ids) && okT ops true t (listed.setIfInBounds i true) && okT ops false r listed
  | false, .stop, _ => true
  | _, _, _ => false

/-- An operation that is taken first: a load reads what is not written any more. -/
def stepC (P : Program) (o : Oper) (K : S → Prop) (s : S) : Prop :=
  match o.op with
  | .load t x => (ev s.t x).noid = true ∧ obind (aload P [] t (ev s.t x)) (fun r => K ⟨put s.t o.dst r, s.h⟩)
  | _ => obind (aop P s.h (ev s.t) o.op) (finK o.dst K s.t)

def vcT (P : Program) (ops : Array Oper) (Q : AX → S → Prop) : TrO → S → Prop
  | .done, s => Q .normal s
  | .stop, _ => True
  | .take o t, s =>
    (match o.guard with
    | none => stepC P o (vcT P ops Q t) s
    | some (j, want) => guardK (gval ops s.t j) want (stepC P o (vcT P ops Q t) s) (vcT P ops Q t ⟨put s.t o.dst (.tup []), s.h⟩))
  | .alt o t r, s =>
    (match o.guard with
    | none => stepK P o (vcT P ops Q t) s
    | some (j, want) => guardK (gval ops s.t j) want (stepK P o (vcT P ops Q t) s) (vcT P ops Q t ⟨put s.t o.dst (.tup []), s.h⟩)) ∧ vcT P ops Q r s

def Later (w : World) (F : Fz) : World → Prop := fun w' => ∃ F', Adv w F w' F'

theorem Later.refl (w : World) (F : Fz) : Later w F w := ⟨F, Adv.refl _ _⟩

theorem step_wpL {P : Program} {X : Ctx} {Q : AX → S → Prop} {KK : Act → World → Prop} {o : Oper} {K : S → Prop} {s : S} {a : Act} {w : World} {μ : Mu} (hS : Sim P X s a w μ)
    (hK : ∀ s' a' w' μ', K s' → Sim P X s' a' w' μ' → Adv w (Ft X.F0 μ s.h) w' (Ft X.F0 μ' s'.h) → KK a' w')
    (h : stepK P o K s) : o.wp P a w KK (lift P X Q) := by
  have sim : ∀ {d : Option Tmp} {v : Value} {w' : World} {r : A} {H' : List Row}, Res P w X.F0 μ s.h v w' r H' → ∃ μ', Sim P X ⟨put s.t d r, H'⟩ (a.put d v) w' μ' ∧ Adv w (Ft X.F0 μ s.h) w' (Ft X.F0 μ' H') := by
    rintro d v w' r H' ⟨μ', h1, h2, h3, h4⟩
    exact ⟨μ', hS.put d h1 h2 h3 h4, h2.join X.F0⟩
  have plain : obind (aop P s.h (ev s.t) o.op) (finK o.dst K s.t) → o.wp P a w KK (lift P X Q) := by
    intro h
    cases hop : aop P s.h (ev s.t) o.op with
    | none => rw [hop] at h; exact h.elim
    | some y =>
      obtain ⟨r, H'⟩ := y
      rw [hop] at h
      obtain ⟨nx, v, w', h1, h2, h3⟩ := s_aop (a := a) o hS.hs (hS.eval) hop
      obtain ⟨μ', h4, h5⟩ := sim (d := o.dst) h3
      unfold Oper.wp
      rw [h1]
      rcases h2 with rfl | ⟨rfl, rfl⟩
      · exact hK _ _ _ μ' h h4 h5
      · exact hK _ _ _ μ' h h4 h5
  unfold stepK at h
  split at h
  · rename_i c hc
    split at h
    · rename_i f hf
      unfold callK at h
      split at h
      · rename_i fid caps hfn
        obtain ⟨hcb, h⟩ := h
        have hrf := hS.eval f
        rw [hfn] at hrf
        generalize hva : a.eval f = vf at hrf
        cases hrf with | fn _ _ _ vcaps hl hh =>
        have hL := (repL_map hS.eval c.args.toList).app (RepL.ofget hl hh)
        have hcall := h w X.F0 μ _ hS.hs hL
        obtain ⟨dst, op, type, pos, aft, g⟩ := o
        obtain ⟨callee, as, ts⟩ := c
        simp only at hc hf
        subst hc hf
        unfold Oper.wp
        rw [run_enter hcb hva]
        refine hcall.mono ?_
        rintro e w' ⟨v, r, H', rfl, hR, hres⟩
        obtain ⟨μ', h4, h5⟩ := sim (d := dst) hres
        exact hK _ _ _ μ' hR h4 h5
      · exact h.elim
    · exact plain h
  · exact plain h

/-- A load of what is not written any more. -/
theorem s_aloadF {P : Program} {t : TypeId} {x r : A} {vx : Value} {w : World} {F : Fz} {μ : Mu} (hx : Rep P w F μ x vx) (h : aload P [] t x = some r) :
    ∃ u, (∀ w', Later w F w' → (Instr.loadAt t vx).run P w' = .ok u w') ∧ Rep P w F μ r u := by
  unfold aload at h
  split at h
  · rename_i hz
    split at h
    · rename_i d
      split at h
      · rename_i hsh; cases h
        cases hx with | ptr _ _ b off v hrep hnc hcell =>
        refine ⟨v, ?_, hrep.mono (fun _ _ _ h => h) List.nil_prefix⟩
        rintro w' ⟨F', hw⟩
        simp only [Instr.loadAt, Instr.sureAddr, Sem.run_bind, Sem.run_pure, Result.andThen]
        exact run_loadVar_val hsh hz.1 hz.2 (hrep.adv hw (List.prefix_refl _)) (fun j u hu => hw.cell _ _ _ (hcell j u hu).2.1 (hcell j u hu).2.2)
      · cases h
    · simp at h
    · cases h
  · cases h

theorem stepC_run {P : Program} {X : Ctx} {o : Oper} {K : S → Prop} {s : S} {a : Act} {w : World} {μ : Mu} (hS : Sim P X s a w μ) (ht : takeOp o.op = true) (h : stepC P o K s) :
    ∃ r v, K ⟨put s.t o.dst r, s.h⟩ ∧ (∀ w', Later w (Ft X.F0 μ s.h) w' → (execOp a.eval o).run P w' = .ok (.value v) w') ∧ Rep P w (Ft X.F0 μ s.h) μ r v := by
  have rest : constOp o.op = true → obind (aop P s.h (ev s.t) o.op) (finK o.dst K s.t) → ∃ r v, K ⟨put s.t o.dst r, s.h⟩ ∧ (∀ w', Later w (Ft X.F0 μ s.h) w' → (execOp a.eval o).run P w' = .ok (.value v) w') ∧ Rep P w (Ft X.F0 μ s.h) μ r v := by
    intro hc h
    cases hop : aop P s.h (ev s.t) o.op with
    | none => rw [hop] at h; exact h.elim
    | some y =>
      obtain ⟨r, H'⟩ := y
      rw [hop] at h
      obtain ⟨rfl, v, h1, h2⟩ := s_const (a := a) o hc hS.hs hS.eval hop
      exact ⟨r, v, h, fun w' _ => h1 w' trivial, h2⟩
  unfold stepC at h
  split at h
  · rename_i t x hop
    obtain ⟨_, h⟩ := h
    cases hl : aload P [] t (ev s.t x) with
    | none => rw [hl] at h; exact h.elim
    | some r =>
      rw [hl] at h
      obtain ⟨u, h1, h2⟩ := s_aloadF (hS.eval x) hl
      obtain ⟨dst, op, type, pos, aft, g⟩ := o
      simp only at hop
      subst hop
      refine ⟨r, u, h, fun w' hw => ?_, h2⟩
      have := h1 w' hw
      simp [execOp, this]
  · rename_i hno
    refine rest ?_ h
    unfold takeOp at ht
    rcases Bool.or_eq_true_iff.1 ht with h1 | h1
    · exact h1
    · split at h1
      · rename_i t x he; exact (hno _ _ he).elim
      · cases h1

theorem tree_sound {P : Program} {X : Ctx} {ops : Array Oper} {Q : AX → S → Prop} (hns : Region.noSelect ops = true) : ∀ (t : Tr),
    (∀ (t' : TrO) (n : Nat) (listed : Array Bool) (s : S), okT ops true t listed = true → t.res ops = some t' → t.deep ≤ n → vcT P ops Q t' s → ∀ a w μ, Sim P X s a w μ → wpAnyH P .any ops (lift P X Q) (Later w (Ft X.F0 μ s.h)) n listed a w) ∧
    (∀ (t' : TrO) (n : Nat) (listed : Array Bool) (s : S), okT ops false t listed = true → t.res ops = some t' → t.deep ≤ n + 1 → vcT P ops Q t' s → ∀ a w μ, Sim P X s a w μ → ∀ i ∈ t.ids, wpOp P ops (lift P X Q) i (fun a' w' => Later w (Ft X.F0 μ s.h) w' ∧ wpAnyH P .any ops (lift P X Q) (Later w (Ft X.F0 μ s.h)) n (listed.setIfInBounds i true) a' w') a w) := by
  intro t
  have mono : ∀ {w w1 : World} {F F1 : Fz}, Adv w F w1 F1 → ∀ w', Later w1 F1 w' → Later w F w' := by
    rintro w w1 F F1 hA w' ⟨F', h⟩
    exact ⟨F', hA.trans h⟩
  induction t with
  | done =>
    refine ⟨?_, ?_⟩
    · intro t' n listed s hok hl hd h a w μ hS
      simp only [Tr.res, Option.some.injEq] at hl; subst hl
      simp only [okT, List.isEmpty_iff] at hok
      exact wpAnyH_done hok ⟨.normal, s, μ, rfl, h, hS⟩ _
    · intro t' n listed s hok; simp [okT] at hok
  | stop =>
    refine ⟨?_, ?_⟩
    · intro t' n listed s hok; simp [okT] at hok
    · intro t' n listed s hok hl hd h a w μ hS i hi; simp [Tr.ids] at hi
  | take i t ih =>
    refine ⟨?_, ?_⟩
    · intro t' n listed s hok hl hd h a w μ hS
      simp only [okT, Bool.and_eq_true] at hok
      obtain ⟨hok1, hok2⟩ := hok
      simp only [Tr.res] at hl
      cases ho : ops[i]? with
      | none => rw [ho] at hl; cases hl
      | some o =>
        rw [ho] at hl hok1
        simp only at hl hok1
        cases htr : t.res ops with
        | none => rw [htr] at hl; cases hl
        | some t2 =>
          rw [htr] at hl
          simp only [Option.some.injEq] at hl
          subst hl
          simp only [Bool.and_eq_true] at hok1
          obtain ⟨⟨htk, hready⟩, hfree⟩ := hok1
          simp only [Tr.deep] at hd
          obtain ⟨m, rfl⟩ : ∃ m, n = m + 1 := ⟨n - 1, by omega⟩
          have hQ : ∀ (v : Value) c a w, lift P X Q (.panic c) (a.put o.dst v) w → lift P X Q (.panic c) a w := by
            rintro v c a w ⟨x, s', μ', he, _⟩
            cases x <;> cases he
          have go : ∀ r v, vcT P ops Q t2 ⟨put s.t o.dst r, s.h⟩ → YieldsIf P ops (Later w (Ft X.F0 μ s.h)) o v a → Rep P w (Ft X.F0 μ s.h) μ r v → wpAnyH P .any ops (lift P X Q) (Later w (Ft X.F0 μ s.h)) (m + 1) listed a w := by
            intro r v hK hy hr
            refine wpAnyH_take ho hns hfree hready (hQ v) hy (Later.refl _ _) ?_
            exact ih.1 t2 m _ _ hok2 htr (by omega) hK _ _ μ (hS.put o.dst hS.hs (Adv.refl _ _) (List.prefix_refl _) hr)
          simp only [vcT] at h
          split at h
          · rename_i hg
            obtain ⟨r, v, hK, h1, h2⟩ := stepC_run hS htk h
            exact go r v hK (.inl ⟨by simp [Region.wanted, hg], h1⟩) h2
          · rename_i j want hg
            unfold guardK at h
            split at h
            · rename_i b hb
              have hwt := wanted_of hS hg hb
              by_cases hw : b = want
              · obtain ⟨r, v, hK, h1, h2⟩ := stepC_run hS htk (h.1 hw)
                exact go r v hK (.inl ⟨by rw [hwt]; simp [hw], h1⟩) h2
              · have hb' : b = !want := by cases b <;> cases want <;> simp_all
                exact go (.tup []) undef (h.2 hb') (.inr ⟨by rw [hwt]; simp [hw], rfl⟩) rep_undef
            · rename_i hb
              have hy := gval_und hS hb
              exact go (.tup []) undef h (.inr ⟨by simp [Region.wanted, hg, hy], rfl⟩) rep_undef
            · exact h.elim
    · intro t' n listed s hok; simp [okT] at hok
  | alt i t r iht ihr =>
    have key : ∀ (top : Bool) (t' : TrO) (n : Nat) (listed : Array Bool) (s : S), okT ops top (.alt i t r) listed = true → (Tr.alt i t r).res ops = some t' → (Tr.alt i t r).deep ≤ n + 1 → vcT P ops Q t' s → ∀ a w μ, Sim P X s a w μ → ∀ j ∈ (Tr.alt i t r).ids, wpOp P ops (lift P X Q) j (fun a' w' => Later w (Ft X.F0 μ s.h) w' ∧ wpAnyH P .any ops (lift P X Q) (Later w (Ft X.F0 μ s.h)) n (listed.setIfInBounds j true) a' w') a w := by
      intro top t' n listed s hok hl hd h a w μ hS j hj
      have hok2 : okT ops true t (listed.setIfInBounds i true) = true ∧ okT ops false r listed = true := by
        cases top <;> simp only [okT, Bool.and_eq_true] at hok <;> exact ⟨hok.1.2, hok.2⟩
      simp only [Tr.res] at hl
      cases ho : ops[i]? with
      | none => rw [ho] at hl; cases hl
      | some o =>
        rw [ho] at hl
        simp only at hl
        cases htr : t.res ops with
        | none => rw [htr] at hl; cases hl
        | some t2 =>
          rw [htr] at hl
          simp only at hl
          cases hrr : r.res ops with
          | none => rw [hrr] at hl; cases hl
          | some r2 =>
            rw [hrr] at hl
            simp only [Option.some.injEq] at hl
            subst hl
            simp only [Tr.deep] at hd
            simp only [vcT] at h
            obtain ⟨h, hr2⟩ := h
            simp only [Tr.ids, List.mem_cons] at hj
            rcases hj with rfl | hj
            case inr => exact ihr.2 r2 n listed s hok2.2 hrr (by omega) hr2 a w μ hS j hj
            have after : ∀ s' a' w' μ', vcT P ops Q t2 s' → Sim P X s' a' w' μ' → Adv w (Ft X.F0 μ s.h) w' (Ft X.F0 μ' s'.h) → Later w (Ft X.F0 μ s.h) w' ∧ wpAnyH P .any ops (lift P X Q) (Later w (Ft X.F0 μ s.h)) n (listed.setIfInBounds j true) a' w' :=
              fun s' a' w' μ' hK hS' hA => ⟨⟨_, hA⟩, wpAnyH_mono (mono hA) _ _ _ _ (iht.1 t2 n _ s' hok2.1 htr (by omega) hK a' w' μ' hS')⟩
            unfold wpOp
            simp only [ho]
            split at h
            · rename_i hg
              rw [if_pos (by simp [Region.wanted, hg])]
              exact .inl (step_wpL hS after h)
            · rename_i k want hg
              unfold guardK at h
              split at h
              · rename_i b hb
                have hwt := wanted_of hS hg hb
                by_cases hw : b = want
                · rw [if_pos (by rw [hwt]; simp [hw])]
                  exact .inl (step_wpL hS after (h.1 hw))
                · have hb' : b = !want := by cases b <;> cases want <;> simp_all
                  rw [if_neg (by rw [hwt]; simp [hw])]
                  exact after _ _ _ μ (h.2 hb') (hS.put o.dst hS.hs (Adv.refl _ _) (List.prefix_refl _) rep_undef) (Adv.refl _ _)
              · rename_i hb
                have hy := gval_und hS hb
                rw [if_neg (by simp [Region.wanted, hg, hy])]
                exact after _ _ _ μ h (hS.put o.dst hS.hs (Adv.refl _ _) (List.prefix_refl _) rep_undef) (Adv.refl _ _)
              · exact h.elim
    refine ⟨?_, key false⟩
    intro t' n listed s hok hl hd h a w μ hS
    have hready : Region.ready .any ops listed = i :: r.ids := by
      simp only [okT, Bool.and_eq_true] at hok
      simpa using hok.1.1
    obtain ⟨m, rfl⟩ : ∃ m, n = m + 1 := ⟨n - 1, by simp only [Tr.deep] at hd; omega⟩
    exact wpAnyH_all hready (by simp) fun j hj => key true t' m listed s hok hl hd h a w μ hS j (by simpa [Tr.ids] using hj)

/-- A region that draws its order, walked along a tree of orders. -/
theorem awp_tree {P : Program} {X : Ctx} {id : Nat} {ops : List Oper} {Q : AX → S → Prop} {s : S} (t : Tr) (t' : TrO) (hm : P.follows .mixedOrders = true) (hns : Region.noSelect ops.toArray = true) (hd : t.deep ≤ ops.length)
    (hok : okT ops.toArray true t (Array.replicate ops.length false) = true) (hl : t.res ops.toArray = some t') (h : vcT P ops.toArray Q t' s) : awp P X (.region id ops.toArray true) Q s := by
  intro a w μ hS
  refine wp_region_held (S := Later w.drew (Ft X.F0 μ s.h)) hm ?_
  have hS' : Sim P X s a w.drew μ := hS.later (Adv.drew NoF)
  have := (tree_sound hns t).1 t' ops.length _ s hok hl hd h a w.drew μ hS'
  have e : ops.toArray.size = ops.length := by simp
  rw [e]
  exact this

/-! The equations by which `simp` walks such a region. -/
section
variable {P : Program} {X : Ctx}
@[congr] theorem vcT_congr {ops : Array Oper} {Q : AX → S → Prop} {t : TrO} {s s' : S} (e : s = s') : vcT P ops Q t s = vcT P ops Q t s' := by rw [e]
@[congr] theorem stepC_congr {o : Oper} {K : S → Prop} {s s' : S} (e : s = s') : stepC P o K s = stepC P o K s' := by rw [e]
@[simp] theorem vcT_done (ops : Array Oper) (Q : AX → S → Prop) (s : S) : vcT P ops Q .done s = Q .normal s := by rw [vcT]
@[simp] theorem vcT_stop (ops : Array Oper) (Q : AX → S → Prop) (s : S) : vcT P ops Q .stop s = True := by rw [vcT]
@[simp] theorem vcT_take (ops : Array Oper) (Q : AX → S → Prop) (s : S) (d : Option Tmp) (op : Op) (ty : TypeId) (pos : String) (aft : Array Edge) (t : TrO) : vcT P ops Q (.take ⟨d, op, ty, pos, aft, none⟩ t) s = stepC P ⟨d, op, ty, pos, aft, none⟩ (vcT P ops Q t) s := by rw [vcT]
@[simp] theorem vcT_takeG (ops : Array Oper) (Q : AX → S → Prop) (s : S) (d : Option Tmp) (op : Op) (ty : TypeId) (pos : String) (aft : Array Edge) (j : Nat) (want : Bool) (t : TrO) : vcT P ops Q (.take ⟨d, op, ty, pos, aft, some (j, want)⟩ t) s = gK (gval ops s.t j) ((ops[j]?).bind (·.dst)) want d (stepC P ⟨d, op, ty, pos, aft, some (j, want)⟩ (vcT P ops Q t)) (vcT P ops Q t) s := by rw [gK_eq, vcT]
@[simp] theorem vcT_alt (ops : Array Oper) (Q : AX → S → Prop) (s : S) (d : Option Tmp) (op : Op) (ty : TypeId) (pos : String) (aft : Array Edge) (t r : TrO) : vcT P ops Q (.alt ⟨d, op, ty, pos, aft, none⟩ t r) s = (stepK P ⟨d, op, ty, pos, aft, none⟩ (vcT P ops Q t) s ∧ vcT P ops Q r s) := by rw [vcT]
@[simp] theorem vcT_altG (ops : Array Oper) (Q : AX → S → Prop) (s : S) (d : Option Tmp) (op : Op) (ty : TypeId) (pos : String) (aft : Array Edge) (j : Nat) (want : Bool) (t r : TrO) : vcT P ops Q (.alt ⟨d, op, ty, pos, aft, some (j, want)⟩ t r) s = (gK (gval ops s.t j) ((ops[j]?).bind (·.dst)) want d (stepK P ⟨d, op, ty, pos, aft, some (j, want)⟩ (vcT P ops Q t)) (vcT P ops Q t) s ∧ vcT P ops Q r s) := by rw [gK_eq, vcT]
@[simp] theorem stepC_load (P : Program) (d : Option Tmp) (t : TypeId) (x : Operand) (ty : TypeId) (pos : String) (aft : Array Edge) (g : Option (Nat × Bool)) (K : S → Prop) (t0 : List A) (H0 : List Row) : stepC P ⟨d, .load t x, ty, pos, aft, g⟩ K ⟨t0, H0⟩ = ((ev t0 x).noid = true ∧ obind (aload P [] t (ev t0 x)) (fun r => K ⟨put t0 d r, H0⟩)) := rfl
end
section
@[simp] theorem stepC_move (P : Program) (d : Option Tmp) (x : Operand) (ty : TypeId) (pos : String) (aft : Array Edge) (g : Option (Nat × Bool)) (K : S → Prop) (t0 : List A) (H0 : List Row) : stepC P ⟨d, .move x, ty, pos, aft, g⟩ K ⟨t0, H0⟩ = obind (aop P H0 (ev t0) (.move x)) (finK d K t0) := rfl
@[simp] theorem stepC_assign (P : Program) (d : Option Tmp) (x : Operand) (ty : TypeId) (pos : String) (aft : Array Edge) (g : Option (Nat × Bool)) (K : S → Prop) (t0 : List A) (H0 : List Row) : stepC P ⟨d, .assign x, ty, pos, aft, g⟩ K ⟨t0, H0⟩ = obind (aop P H0 (ev t0) (.assign x)) (finK d K t0) := rfl
@[simp] theorem stepC_pick (P : Program) (d : Option Tmp) (c a b : Operand) (ty : TypeId) (pos : String) (aft : Array Edge) (g : Option (Nat × Bool)) (K : S → Prop) (t0 : List A) (H0 : List Row) : stepC P ⟨d, .pick c a b, ty, pos, aft, g⟩ K ⟨t0, H0⟩ = obind (aop P H0 (ev t0) (.pick c a b)) (finK d K t0) := rfl
@[simp] theorem stepC_binOp (P : Program) (d : Option Tmp) (b : BinOp) (t : TypeId) (x y : Operand) (u : TypeId) (ty : TypeId) (pos : String) (aft : Array Edge) (g : Option (Nat × Bool)) (K : S → Prop) (t0 : List A) (H0 : List Row) : stepC P ⟨d, .binOp b t x y u, ty, pos, aft, g⟩ K ⟨t0, H0⟩ = obind (aop P H0 (ev t0) (.binOp b t x y u)) (finK d K t0) := rfl
@[simp] theorem stepC_unOp (P : Program) (d : Option Tmp) (b : UnOp) (t : TypeId) (x : Operand) (ty : TypeId) (pos : String) (aft : Array Edge) (g : Option (Nat × Bool)) (K : S → Prop) (t0 : List A) (H0 : List Row) : stepC P ⟨d, .unOp b t x, ty, pos, aft, g⟩ K ⟨t0, H0⟩ = obind (aop P H0 (ev t0) (.unOp b t x)) (finK d K t0) := rfl
@[simp] theorem stepC_convert (P : Program) (d : Option Tmp) (a b : TypeId) (x : Operand) (ty : TypeId) (pos : String) (aft : Array Edge) (g : Option (Nat × Bool)) (K : S → Prop) (t0 : List A) (H0 : List Row) : stepC P ⟨d, .convert a b x, ty, pos, aft, g⟩ K ⟨t0, H0⟩ = obind (aop P H0 (ev t0) (.convert a b x)) (finK d K t0) := rfl
@[simp] theorem stepC_indexAddr (P : Program) (d : Option Tmp) (t : TypeId) (x i : Operand) (ty : TypeId) (pos : String) (aft : Array Edge) (g : Option (Nat × Bool)) (K : S → Prop) (t0 : List A) (H0 : List Row) : stepC P ⟨d, .indexAddr t x i, ty, pos, aft, g⟩ K ⟨t0, H0⟩ = obind (aop P H0 (ev t0) (.indexAddr t x i)) (finK d K t0) := rfl
@[simp] theorem stepC_index (P : Program) (d : Option Tmp) (t : TypeId) (x i : Operand) (ty : TypeId) (pos : String) (aft : Array Edge) (g : Option (Nat × Bool)) (K : S → Prop) (t0 : List A) (H0 : List Row) : stepC P ⟨d, .index t x i, ty, pos, aft, g⟩ K ⟨t0, H0⟩ = obind (aop P H0 (ev t0) (.index t x i)) (finK d K t0) := rfl
@[simp] theorem stepC_fieldAddr (P : Program) (d : Option Tmp) (t : TypeId) (x : Operand) (f : Nat) (ty : TypeId) (pos : String) (aft : Array Edge) (g : Option (Nat × Bool)) (K : S → Prop) (t0 : List A) (H0 : List Row) : stepC P ⟨d, .fieldAddr t x f, ty, pos, aft, g⟩ K ⟨t0, H0⟩ = obind (aop P H0 (ev t0) (.fieldAddr t x f)) (finK d K t0) := rfl
@[simp] theorem stepC_field (P : Program) (d : Option Tmp) (t : TypeId) (x : Operand) (f : Nat) (ty : TypeId) (pos : String) (aft : Array Edge) (g : Option (Nat × Bool)) (K : S → Prop) (t0 : List A) (H0 : List Row) : stepC P ⟨d, .field t x f, ty, pos, aft, g⟩ K ⟨t0, H0⟩ = obind (aop P H0 (ev t0) (.field t x f)) (finK d K t0) := rfl
@[simp] theorem stepC_extract (P : Program) (d : Option Tmp) (x : Operand) (i : Nat) (ty : TypeId) (pos : String) (aft : Array Edge) (g : Option (Nat × Bool)) (K : S → Prop) (t0 : List A) (H0 : List Row) : stepC P ⟨d, .extract x i, ty, pos, aft, g⟩ K ⟨t0, H0⟩ = obind (aop P H0 (ev t0) (.extract x i)) (finK d K t0) := rfl
@[simp] theorem stepC_slice (P : Program) (d : Option Tmp) (t : TypeId) (x : Operand) (lo hi mx : Option Operand) (ty : TypeId) (pos : String) (aft : Array Edge) (g : Option (Nat × Bool)) (K : S → Prop) (t0 : List A) (H0 : List Row) : stepC P ⟨d, .slice t x lo hi mx, ty, pos, aft, g⟩ K ⟨t0, H0⟩ = obind (aop P H0 (ev t0) (.slice t x lo hi mx)) (finK d K t0) := rfl
@[simp] theorem stepC_nilCheck (P : Program) (d : Option Tmp) (x : Operand) (ty : TypeId) (pos : String) (aft : Array Edge) (g : Option (Nat × Bool)) (K : S → Prop) (t0 : List A) (H0 : List Row) : stepC P ⟨d, .nilCheck x, ty, pos, aft, g⟩ K ⟨t0, H0⟩ = obind (aop P H0 (ev t0) (.nilCheck x)) (finK d K t0) := rfl
@[simp] theorem stepC_build (P : Program) (d : Option Tmp) (t : TypeId) (ps : Array (Nat × Operand)) (ty : TypeId) (pos : String) (aft : Array Edge) (g : Option (Nat × Bool)) (K : S → Prop) (t0 : List A) (H0 : List Row) : stepC P ⟨d, .build t ps, ty, pos, aft, g⟩ K ⟨t0, H0⟩ = obind (aop P H0 (ev t0) (.build t ps)) (finK d K t0) := rfl
@[simp] theorem stepC_makeFunc (P : Program) (d : Option Tmp) (fn : Fn) (a c : Array Operand) (ty : TypeId) (pos : String) (aft : Array Edge) (g : Option (Nat × Bool)) (K : S → Prop) (t0 : List A) (H0 : List Row) : stepC P ⟨d, .makeFunc fn a c, ty, pos, aft, g⟩ K ⟨t0, H0⟩ = obind (aop P H0 (ev t0) (.makeFunc fn a c)) (finK d K t0) := rfl
@[simp] theorem stepC_b_len (P : Program) (d : Option Tmp) (as : Array Operand) (ts : Array TypeId) (ty : TypeId) (pos : String) (aft : Array Edge) (g : Option (Nat × Bool)) (K : S → Prop) (t0 : List A) (H0 : List Row) : stepC P ⟨d, .call ⟨.builtin .len, as, ts⟩, ty, pos, aft, g⟩ K ⟨t0, H0⟩ = obind (abuiltin P H0 .len ts (as.toList.map (ev t0))) (finK d K t0) := rfl
@[simp] theorem stepC_b_max (P : Program) (d : Option Tmp) (as : Array Operand) (ts : Array TypeId) (ty : TypeId) (pos : String) (aft : Array Edge) (g : Option (Nat × Bool)) (K : S → Prop) (t0 : List A) (H0 : List Row) : stepC P ⟨d, .call ⟨.builtin .max, as, ts⟩, ty, pos, aft, g⟩ K ⟨t0, H0⟩ = obind (abuiltin P H0 .max ts (as.toList.map (ev t0))) (finK d K t0) := rfl
@[simp] theorem stepC_b_min (P : Program) (d : Option Tmp) (as : Array Operand) (ts : Array TypeId) (ty : TypeId) (pos : String) (aft : Array Edge) (g : Option (Nat × Bool)) (K : S → Prop) (t0 : List A) (H0 : List Row) : stepC P ⟨d, .call ⟨.builtin .min, as, ts⟩, ty, pos, aft, g⟩ K ⟨t0, H0⟩ = obind (abuiltin P H0 .min ts (as.toList.map (ev t0))) (finK d K t0) := rfl
end
end Go.AL
