/- An abstract layer over the walk, part 4 of 4: Tree, New, Blk, Frz, Mt, Lib, Frm, Ext, Ex2, Fzs. No program in sight. -/
import Derived.Test.YtadllkhmihbfhaaAlM3
import Derived.Lib.Bytealg
import Derived.Lib.AppendZerosOnto
/- An abstract layer over the walk, 19: regions whose order is drawn, walked along a tree of orders: what yields in every later world is taken first, of the others whichever comes up. No program in sight. -/
namespace Go.AL

/-- A tree of orders. 'take i': operation i is taken first. 'alt i t r': i may come up next, then t; r: the others that may. -/
inductive Tr where
  | done
  | stop
  | take (i : Nat) (t : Tr)
  | alt (i : Nat) (t r : Tr)

inductive TrO where
  | done
  | stop
  | take (o : Oper) (t : TrO)
  | alt (o : Oper) (t r : TrO)

def Tr.ids : Tr → List Nat
  | .alt i _ r => i :: r.ids
  | _ => []

def Tr.deep : Tr → Nat
  | .take _ t => t.deep + 1
  | .alt _ t r => max (t.deep + 1) r.deep
  | _ => 0

def Tr.res (ops : Array Oper) : Tr → Option TrO
  | .done => some .done
  | .stop => some .stop
  | .take i t => match ops[i]? with
    | some o => match t.res ops with
      | some t' => some (.take o t')
      | none => none
    | none => none
  | .alt i t r => match ops[i]? with
    | some o => match t.res ops with
      | some t' => match r.res ops with
        | some r' => some (.alt o t' r')
        | none => none
      | none => none
    | none => none

def takeOp (o : Op) : Bool := constOp o || (match o with | .load .. => true | _ => false)

def okT (ops : Array Oper) : Bool → Tr → Array Bool → Bool
  | true, .done, listed => (Region.ready .any ops listed).isEmpty
  | true, .take i t, listed => (match ops[i]? with
     | some o => takeOp o.op && (Region.ready .any ops listed).contains i && Region.free .any ops listed i
     | none => false) && okT ops true t (listed.setIfInBounds i true)
  | top, .alt i t r, listed => (!top || Region.ready .any ops listed == i :: r.ids) && okT ops true t (listed.setIfInBounds i true) && okT ops false r listed
  | false, .stop, _ => true
  | _, _, _ => false

/-- An operation that is taken first: a load reads what is not written any more. -/
def stepC (P : Program) (o : Oper) (K : S → Prop) (s : S) : Prop :=
  match o.op with
  | .load t x => (ev s.t x).noid = true ∧ obind (aload P [] t (ev s.t x)) (fun r => K ⟨put s.t o.dst r, s.h⟩)
  | _ => obind (aop P s.h (ev s.t) o.op) (finK o.dst K s.t)

def vcT (P : Program) (ops : Array Oper) (Q : AX → S → Prop) : TrO → S → Prop
  | .done, s => Q .normal s
  | .stop, _ => True
  | .take o t, s =>
    (match o.guard with
    | none => stepC P o (vcT P ops Q t) s
    | some (j, want) => guardK (gval ops s.t j) want (stepC P o (vcT P ops Q t) s) (vcT P ops Q t ⟨put s.t o.dst (.tup []), s.h⟩))
  | .alt o t r, s =>
    (match o.guard with
    | none => stepK P o (vcT P ops Q t) s
    | some (j, want) => guardK (gval ops s.t j) want (stepK P o (vcT P ops Q t) s) (vcT P ops Q t ⟨put s.t o.dst (.tup []), s.h⟩)) ∧ vcT P ops Q r s

def Later (w : World) (F : Fz) : World → Prop := fun w' => ∃ F', Adv w F w' F'

theorem Later.refl (w : World) (F : Fz) : Later w F w := ⟨F, Adv.refl _ _⟩

theorem step_wpL {P : Program} {X : Ctx} {Q : AX → S → Prop} {KK : Act → World → Prop} {o : Oper} {K : S → Prop} {s : S} {a : Act} {w : World} {μ : Mu} (hS : Sim P X s a w μ)
    (hK : ∀ s' a' w' μ', K s' → Sim P X s' a' w' μ' → Adv w (Ft X.F0 μ s.h) w' (Ft X.F0 μ' s'.h) → KK a' w')
    (h : stepK P o K s) : o.wp P a w KK (lift P X Q) := by
  have sim : ∀ {d : Option Tmp} {v : Value} {w' : World} {r : A} {H' : List Row}, Res P w X.F0 μ s.h v w' r H' → ∃ μ', Sim P X ⟨put s.t d r, H'⟩ (a.put d v) w' μ' ∧ Adv w (Ft X.F0 μ s.h) w' (Ft X.F0 μ' H') := by
    rintro d v w' r H' ⟨μ', h1, h2, h3, h4⟩
    exact ⟨μ', hS.put d h1 h2 h3 h4, h2.join X.F0⟩
  have plain : obind (aop P s.h (ev s.t) o.op) (finK o.dst K s.t) → o.wp P a w KK (lift P X Q) := by
    intro h
    cases hop : aop P s.h (ev s.t) o.op with
    | none => rw [hop] at h; exact h.elim
    | some y =>
      obtain ⟨r, H'⟩ := y
      rw [hop] at h
      obtain ⟨nx, v, w', h1, h2, h3⟩ := s_aop (a := a) o hS.hs (hS.eval) hop
      obtain ⟨μ', h4, h5⟩ := sim (d := o.dst) h3
      unfold Oper.wp
      rw [h1]
      rcases h2 with rfl | ⟨rfl, rfl⟩
      · exact hK _ _ _ μ' h h4 h5
      · exact hK _ _ _ μ' h h4 h5
  unfold stepK at h
  split at h
  · rename_i c hc
    split at h
    · rename_i f hf
      unfold callK at h
      split at h
      · rename_i fid caps hfn
        obtain ⟨hcb, h⟩ := h
        have hrf := hS.eval f
        rw [hfn] at hrf
        generalize hva : a.eval f = vf at hrf
        cases hrf with | fn _ _ _ vcaps hl hh =>
        have hL := (repL_map hS.eval c.args.toList).app (RepL.ofget hl hh)
        have hcall := h w X.F0 μ _ hS.hs hL
        obtain ⟨dst, op, type, pos, aft, g⟩ := o
        obtain ⟨callee, as, ts⟩ := c
        simp only at hc hf
        subst hc hf
        unfold Oper.wp
        rw [run_enter hcb hva]
        refine hcall.mono ?_
        rintro e w' ⟨v, r, H', rfl, hR, hres⟩
        obtain ⟨μ', h4, h5⟩ := sim (d := dst) hres
        exact hK _ _ _ μ' hR h4 h5
      · exact h.elim
    · exact plain h
  · exact plain h

/-- A load of what is not written any more. -/
theorem s_aloadF {P : Program} {t : TypeId} {x r : A} {vx : Value} {w : World} {F : Fz} {μ : Mu} (hx : Rep P w F μ x vx) (h : aload P [] t x = some r) :
    ∃ u, (∀ w', Later w F w' → (Instr.loadAt t vx).run P w' = .ok u w') ∧ Rep P w F μ r u := by
  unfold aload at h
  split at h
  · rename_i hz
    split at h
    · rename_i d
      split at h
      · rename_i hsh; cases h
        cases hx with | ptr _ _ b off v hrep hnc hcell =>
        refine ⟨v, ?_, hrep.mono (fun _ _ _ h => h) List.nil_prefix⟩
        rintro w' ⟨F', hw⟩
        simp only [Instr.loadAt, Instr.sureAddr, Sem.run_bind, Sem.run_pure, Result.andThen]
        exact run_loadVar_val hsh hz.1 hz.2 (hrep.adv hw (List.prefix_refl _)) (fun j u hu => hw.cell _ _ _ (hcell j u hu).2.1 (hcell j u hu).2.2)
      · cases h
    · simp at h
    · cases h
  · cases h

theorem stepC_run {P : Program} {X : Ctx} {o : Oper} {K : S → Prop} {s : S} {a : Act} {w : World} {μ : Mu} (hS : Sim P X s a w μ) (ht : takeOp o.op = true) (h : stepC P o K s) :
    ∃ r v, K ⟨put s.t o.dst r, s.h⟩ ∧ (∀ w', Later w (Ft X.F0 μ s.h) w' → (execOp a.eval o).run P w' = .ok (.value v) w') ∧ Rep P w (Ft X.F0 μ s.h) μ r v := by
  have rest : constOp o.op = true → obind (aop P s.h (ev s.t) o.op) (finK o.dst K s.t) → ∃ r v, K ⟨put s.t o.dst r, s.h⟩ ∧ (∀ w', Later w (Ft X.F0 μ s.h) w' → (execOp a.eval o).run P w' = .ok (.value v) w') ∧ Rep P w (Ft X.F0 μ s.h) μ r v := by
    intro hc h
    cases hop : aop P s.h (ev s.t) o.op with
    | none => rw [hop] at h; exact h.elim
    | some y =>
      obtain ⟨r, H'⟩ := y
      rw [hop] at h
      obtain ⟨rfl, v, h1, h2⟩ := s_const (a := a) o hc hS.hs hS.eval hop
      exact ⟨r, v, h, fun w' _ => h1 w' trivial, h2⟩
  unfold stepC at h
  split at h
  · rename_i t x hop
    obtain ⟨_, h⟩ := h
    cases hl : aload P [] t (ev s.t x) with
    | none => rw [hl] at h; exact h.elim
    | some r =>
      rw [hl] at h
      obtain ⟨u, h1, h2⟩ := s_aloadF (hS.eval x) hl
      obtain ⟨dst, op, type, pos, aft, g⟩ := o
      simp only at hop
      subst hop
      refine ⟨r, u, h, fun w' hw => ?_, h2⟩
      have := h1 w' hw
      simp [execOp, this]
  · rename_i hno
    refine rest ?_ h
    unfold takeOp at ht
    rcases Bool.or_eq_true_iff.1 ht with h1 | h1
    · exact h1
    · split at h1
      · rename_i t x he; exact (hno _ _ he).elim
      · cases h1

theorem tree_sound {P : Program} {X : Ctx} {ops : Array Oper} {Q : AX → S → Prop} (hns : Region.noSelect ops = true) : ∀ (t : Tr),
    (∀ (t' : TrO) (n : Nat) (listed : Array Bool) (s : S), okT ops true t listed = true → t.res ops = some t' → t.deep ≤ n → vcT P ops Q t' s → ∀ a w μ, Sim P X s a w μ → wpAnyH P .any ops (lift P X Q) (Later w (Ft X.F0 μ s.h)) n listed a w) ∧
    (∀ (t' : TrO) (n : Nat) (listed : Array Bool) (s : S), okT ops false t listed = true → t.res ops = some t' → t.deep ≤ n + 1 → vcT P ops Q t' s → ∀ a w μ, Sim P X s a w μ → ∀ i ∈ t.ids, wpOp P ops (lift P X Q) i (fun a' w' => Later w (Ft X.F0 μ s.h) w' ∧ wpAnyH P .any ops (lift P X Q) (Later w (Ft X.F0 μ s.h)) n (listed.setIfInBounds i true) a' w') a w) := by
  intro t
  have mono : ∀ {w w1 : World} {F F1 : Fz}, Adv w F w1 F1 → ∀ w', Later w1 F1 w' → Later w F w' := by
    rintro w w1 F F1 hA w' ⟨F', h⟩
    exact ⟨F', hA.trans h⟩
  induction t with
  | done =>
    refine ⟨?_, ?_⟩
    · intro t' n listed s hok hl hd h a w μ hS
      simp only [Tr.res, Option.some.injEq] at hl; subst hl
      simp only [okT, List.isEmpty_iff] at hok
      exact wpAnyH_done hok ⟨.normal, s, μ, rfl, h, hS⟩ _
    · intro t' n listed s hok; simp [okT] at hok
  | stop =>
    refine ⟨?_, ?_⟩
    · intro t' n listed s hok; simp [okT] at hok
    · intro t' n listed s hok hl hd h a w μ hS i hi; simp [Tr.ids] at hi
  | take i t ih =>
    refine ⟨?_, ?_⟩
    · intro t' n listed s hok hl hd h a w μ hS
      simp only [okT, Bool.and_eq_true] at hok
      obtain ⟨hok1, hok2⟩ := hok
      simp only [Tr.res] at hl
      cases ho : ops[i]? with
      | none => rw [ho] at hl; cases hl
      | some o =>
        rw [ho] at hl hok1
        simp only at hl hok1
        cases htr : t.res ops with
        | none => rw [htr] at hl; cases hl
        | some t2 =>
          rw [htr] at hl
          simp only [Option.some.injEq] at hl
          subst hl
          simp only [Bool.and_eq_true] at hok1
          obtain ⟨⟨htk, hready⟩, hfree⟩ := hok1
          simp only [Tr.deep] at hd
          obtain ⟨m, rfl⟩ : ∃ m, n = m + 1 := ⟨n - 1, by omega⟩
          have hQ : ∀ (v : Value) c a w, lift P X Q (.panic c) (a.put o.dst v) w → lift P X Q (.panic c) a w := by
            rintro v c a w ⟨x, s', μ', he, _⟩
            cases x <;> cases he
          have go : ∀ r v, vcT P ops Q t2 ⟨put s.t o.dst r, s.h⟩ → YieldsIf P ops (Later w (Ft X.F0 μ s.h)) o v a → Rep P w (Ft X.F0 μ s.h) μ r v → wpAnyH P .any ops (lift P X Q) (Later w (Ft X.F0 μ s.h)) (m + 1) listed a w := by
            intro r v hK hy hr
            refine wpAnyH_take ho hns hfree hready (hQ v) hy (Later.refl _ _) ?_
            exact ih.1 t2 m _ _ hok2 htr (by omega) hK _ _ μ (hS.put o.dst hS.hs (Adv.refl _ _) (List.prefix_refl _) hr)
          simp only [vcT] at h
          split at h
          · rename_i hg
            obtain ⟨r, v, hK, h1, h2⟩ := stepC_run hS htk h
            exact go r v hK (.inl ⟨by simp [Region.wanted, hg], h1⟩) h2
          · rename_i j want hg
            unfold guardK at h
            split at h
            · rename_i b hb
              have hwt := wanted_of hS hg hb
              by_cases hw : b = want
              · obtain ⟨r, v, hK, h1, h2⟩ := stepC_run hS htk (h.1 hw)
                exact go r v hK (.inl ⟨by rw [hwt]; simp [hw], h1⟩) h2
              · have hb' : b = !want := by cases b <;> cases want <;> simp_all
                exact go (.tup []) undef (h.2 hb') (.inr ⟨by rw [hwt]; simp [hw], rfl⟩) rep_undef
            · rename_i hb
              have hy := gval_und hS hb
              exact go (.tup []) undef h (.inr ⟨by simp [Region.wanted, hg, hy], rfl⟩) rep_undef
            · exact h.elim
    · intro t' n listed s hok; simp [okT] at hok
  | alt i t r iht ihr =>
    have key : ∀ (top : Bool) (t' : TrO) (n : Nat) (listed : Array Bool) (s : S), okT ops top (.alt i t r) listed = true → (Tr.alt i t r).res ops = some t' → (Tr.alt i t r).deep ≤ n + 1 → vcT P ops Q t' s → ∀ a w μ, Sim P X s a w μ → ∀ j ∈ (Tr.alt i t r).ids, wpOp P ops (lift P X Q) j (fun a' w' => Later w (Ft X.F0 μ s.h) w' ∧ wpAnyH P .any ops (lift P X Q) (Later w (Ft X.F0 μ s.h)) n (listed.setIfInBounds j true) a' w') a w := by
      intro top t' n listed s hok hl hd h a w μ hS j hj
      have hok2 : okT ops true t (listed.setIfInBounds i true) = true ∧ okT ops false r listed = true := by
        cases top <;> simp only [okT, Bool.and_eq_true] at hok <;> exact ⟨hok.1.2, hok.2⟩
      simp only [Tr.res] at hl
      cases ho : ops[i]? with
      | none => rw [ho] at hl; cases hl
      | some o =>
        rw [ho] at hl
        simp only at hl
        cases htr : t.res ops with
        | none => rw [htr] at hl; cases hl
        | some t2 =>
          rw [htr] at hl
          simp only at hl
          cases hrr : r.res ops with
          | none => rw [hrr] at hl; cases hl
          | some r2 =>
            rw [hrr] at hl
            simp only [Option.some.injEq] at hl
            subst hl
            simp only [Tr.deep] at hd
            simp only [vcT] at h
            obtain ⟨h, hr2⟩ := h
            simp only [Tr.ids, List.mem_cons] at hj
            rcases hj with rfl | hj
            case inr => exact ihr.2 r2 n listed s hok2.2 hrr (by omega) hr2 a w μ hS j hj
            have after : ∀ s' a' w' μ', vcT P ops Q t2 s' → Sim P X s' a' w' μ' → Adv w (Ft X.F0 μ s.h) w' (Ft X.F0 μ' s'.h) → Later w (Ft X.F0 μ s.h) w' ∧ wpAnyH P .any ops (lift P X Q) (Later w (Ft X.F0 μ s.h)) n (listed.setIfInBounds j true) a' w' :=
              fun s' a' w' μ' hK hS' hA => ⟨⟨_, hA⟩, wpAnyH_mono (mono hA) _ _ _ _ (iht.1 t2 n _ s' hok2.1 htr (by omega) hK a' w' μ' hS')⟩
            unfold wpOp
            simp only [ho]
            split at h
            · rename_i hg
              rw [if_pos (by simp [Region.wanted, hg])]
              exact .inl (step_wpL hS after h)
            · rename_i k want hg
              unfold guardK at h
              split at h
              · rename_i b hb
                have hwt := wanted_of hS hg hb
                by_cases hw : b = want
                · rw [if_pos (by rw [hwt]; simp [hw])]
                  exact .inl (step_wpL hS after (h.1 hw))
                · have hb' : b = !want := by cases b <;> cases want <;> simp_all
                  rw [if_neg (by rw [hwt]; simp [hw])]
                  exact after _ _ _ μ (h.2 hb') (hS.put o.dst hS.hs (Adv.refl _ _) (List.prefix_refl _) rep_undef) (Adv.refl _ _)
              · rename_i hb
                have hy := gval_und hS hb
                rw [if_neg (by simp [Region.wanted, hg, hy])]
                exact after _ _ _ μ h (hS.put o.dst hS.hs (Adv.refl _ _) (List.prefix_refl _) rep_undef) (Adv.refl _ _)
              · exact h.elim
    refine ⟨?_, key false⟩
    intro t' n listed s hok hl hd h a w μ hS
    have hready : Region.ready .any ops listed = i :: r.ids := by
      simp only [okT, Bool.and_eq_true] at hok
      simpa using hok.1.1
    obtain ⟨m, rfl⟩ : ∃ m, n = m + 1 := ⟨n - 1, by simp only [Tr.deep] at hd; omega⟩
    exact wpAnyH_all hready (by simp) fun j hj => key true t' m listed s hok hl hd h a w μ hS j (by simpa [Tr.ids] using hj)

/-- A region that draws its order, walked along a tree of orders. -/
theorem awp_tree {P : Program} {X : Ctx} {id : Nat} {ops : List Oper} {Q : AX → S → Prop} {s : S} (t : Tr) (t' : TrO) (hm : P.follows .mixedOrders = true) (hns : Region.noSelect ops.toArray = true) (hd : t.deep ≤ ops.length)
    (hok : okT ops.toArray true t (Array.replicate ops.length false) = true) (hl : t.res ops.toArray = some t') (h : vcT P ops.toArray Q t' s) : awp P X (.region id ops.toArray true) Q s := by
  intro a w μ hS
  refine wp_region_held (S := Later w.drew (Ft X.F0 μ s.h)) hm ?_
  have hS' : Sim P X s a w.drew μ := hS.later (Adv.drew NoF)
  have := (tree_sound hns t).1 t' ops.length _ s hok hl hd h a w.drew μ hS'
  have e : ops.toArray.size = ops.length := by simp
  rw [e]
  exact this

/-! The equations by which `simp` walks such a region. -/
section
variable {P : Program} {X : Ctx}
@[congr] theorem vcT_congr {ops : Array Oper} {Q : AX → S → Prop} {t : TrO} {s s' : S} (e : s = s') : vcT P ops Q t s = vcT P ops Q t s' := by rw [e]
@[congr] theorem stepC_congr {o : Oper} {K : S → Prop} {s s' : S} (e : s = s') : stepC P o K s = stepC P o K s' := by rw [e]
@[simp] theorem vcT_done (ops : Array Oper) (Q : AX → S → Prop) (s : S) : vcT P ops Q .done s = Q .normal s := by rw [vcT]
@[simp] theorem vcT_stop (ops : Array Oper) (Q : AX → S → Prop) (s : S) : vcT P ops Q .stop s = True := by rw [vcT]
@[simp] theorem vcT_take (ops : Array Oper) (Q : AX → S → Prop) (s : S) (d : Option Tmp) (op : Op) (ty : TypeId) (pos : String) (aft : Array Edge) (t : TrO) : vcT P ops Q (.take ⟨d, op, ty, pos, aft, none⟩ t) s = stepC P ⟨d, op, ty, pos, aft, none⟩ (vcT P ops Q t) s := by rw [vcT]
@[simp] theorem vcT_takeG (ops : Array Oper) (Q : AX → S → Prop) (s : S) (d : Option Tmp) (op : Op) (ty : TypeId) (pos : String) (aft : Array Edge) (j : Nat) (want : Bool) (t : TrO) : vcT P ops Q (.take ⟨d, op, ty, pos, aft, some (j, want)⟩ t) s = gK (gval ops s.t j) ((ops[j]?).bind (·.dst)) want d (stepC P ⟨d, op, ty, pos, aft, some (j, want)⟩ (vcT P ops Q t)) (vcT P ops Q t) s := by rw [gK_eq, vcT]
@[simp] theorem vcT_alt (ops : Array Oper) (Q : AX → S → Prop) (s : S) (d : Option Tmp) (op : Op) (ty : TypeId) (pos : String) (aft : Array Edge) (t r : TrO) : vcT P ops Q (.alt ⟨d, op, ty, pos, aft, none⟩ t r) s = (stepK P ⟨d, op, ty, pos, aft, none⟩ (vcT P ops Q t) s ∧ vcT P ops Q r s) := by rw [vcT]
@[simp] theorem vcT_altG (ops : Array Oper) (Q : AX → S → Prop) (s : S) (d : Option Tmp) (op : Op) (ty : TypeId) (pos : String) (aft : Array Edge) (j : Nat) (want : Bool) (t r : TrO) : vcT P ops Q (.alt ⟨d, op, ty, pos, aft, some (j, want)⟩ t r) s = (gK (gval ops s.t j) ((ops[j]?).bind (·.dst)) want d (stepK P ⟨d, op, ty, pos, aft, some (j, want)⟩ (vcT P ops Q t)) (vcT P ops Q t) s ∧ vcT P ops Q r s) := by rw [gK_eq, vcT]
@[simp] theorem stepC_load (P : Program) (d : Option Tmp) (t : TypeId) (x : Operand) (ty : TypeId) (pos : String) (aft : Array Edge) (g : Option (Nat × Bool)) (K : S → Prop) (t0 : List A) (H0 : List Row) : stepC P ⟨d, .load t x, ty, pos, aft, g⟩ K ⟨t0, H0⟩ = ((ev t0 x).noid = true ∧ obind (aload P [] t (ev t0 x)) (fun r => K ⟨put t0 d r, H0⟩)) := rfl
end
section
@[simp] theorem stepC_move (P : Program) (d : Option Tmp) (x : Operand) (ty : TypeId) (pos : String) (aft : Array Edge) (g : Option (Nat × Bool)) (K : S → Prop) (t0 : List A) (H0 : List Row) : stepC P ⟨d, .move x, ty, pos, aft, g⟩ K ⟨t0, H0⟩ = obind (aop P H0 (ev t0) (.move x)) (finK d K t0) := rfl
@[simp] theorem stepC_assign (P : Program) (d : Option Tmp) (x : Operand) (ty : TypeId) (pos : String) (aft : Array Edge) (g : Option (Nat × Bool)) (K : S → Prop) (t0 : List A) (H0 : List Row) : stepC P ⟨d, .assign x, ty, pos, aft, g⟩ K ⟨t0, H0⟩ = obind (aop P H0 (ev t0) (.assign x)) (finK d K t0) := rfl
@[simp] theorem stepC_pick (P : Program) (d : Option Tmp) (c a b : Operand) (ty : TypeId) (pos : String) (aft : Array Edge) (g : Option (Nat × Bool)) (K : S → Prop) (t0 : List A) (H0 : List Row) : stepC P ⟨d, .pick c a b, ty, pos, aft, g⟩ K ⟨t0, H0⟩ = obind (aop P H0 (ev t0) (.pick c a b)) (finK d K t0) := rfl
@[simp] theorem stepC_binOp (P : Program) (d : Option Tmp) (b : BinOp) (t : TypeId) (x y : Operand) (u : TypeId) (ty : TypeId) (pos : String) (aft : Array Edge) (g : Option (Nat × Bool)) (K : S → Prop) (t0 : List A) (H0 : List Row) : stepC P ⟨d, .binOp b t x y u, ty, pos, aft, g⟩ K ⟨t0, H0⟩ = obind (aop P H0 (ev t0) (.binOp b t x y u)) (finK d K t0) := rfl
@[simp] theorem stepC_unOp (P : Program) (d : Option Tmp) (b : UnOp) (t : TypeId) (x : Operand) (ty : TypeId) (pos : String) (aft : Array Edge) (g : Option (Nat × Bool)) (K : S → Prop) (t0 : List A) (H0 : List Row) : stepC P ⟨d, .unOp b t x, ty, pos, aft, g⟩ K ⟨t0, H0⟩ = obind (aop P H0 (ev t0) (.unOp b t x)) (finK d K t0) := rfl
@[simp] theorem stepC_convert (P : Program) (d : Option Tmp) (a b : TypeId) (x : Operand) (ty : TypeId) (pos : String) (aft : Array Edge) (g : Option (Nat × Bool)) (K : S → Prop) (t0 : List A) (H0 : List Row) : stepC P ⟨d, .convert a b x, ty, pos, aft, g⟩ K ⟨t0, H0⟩ = obind (aop P H0 (ev t0) (.convert a b x)) (finK d K t0) := rfl
@[simp] theorem stepC_indexAddr (P : Program) (d : Option Tmp) (t : TypeId) (x i : Operand) (ty : TypeId) (pos : String) (aft : Array Edge) (g : Option (Nat × Bool)) (K : S → Prop) (t0 : List A) (H0 : List Row) : stepC P ⟨d, .indexAddr t x i, ty, pos, aft, g⟩ K ⟨t0, H0⟩ = obind (aop P H0 (ev t0) (.indexAddr t x i)) (finK d K t0) := rfl
@[simp] theorem stepC_index (P : Program) (d : Option Tmp) (t : TypeId) (x i : Operand) (ty : TypeId) (pos : String) (aft : Array Edge) (g : Option (Nat × Bool)) (K : S → Prop) (t0 : List A) (H0 : List Row) : stepC P ⟨d, .index t x i, ty, pos, aft, g⟩ K ⟨t0, H0⟩ = obind (aop P H0 (ev t0) (.index t x i)) (finK d K t0) := rfl
@[simp] theorem stepC_fieldAddr (P : Program) (d : Option Tmp) (t : TypeId) (x : Operand) (f : Nat) (ty : TypeId) (pos : String) (aft : Array Edge) (g : Option (Nat × Bool)) (K : S → Prop) (t0 : List A) (H0 : List Row) : stepC P ⟨d, .fieldAddr t x f, ty, pos, aft, g⟩ K ⟨t0, H0⟩ = obind (aop P H0 (ev t0) (.fieldAddr t x f)) (finK d K t0) := rfl
@[simp] theorem stepC_field (P : Program) (d : Option Tmp) (t : TypeId) (x : Operand) (f : Nat) (ty : TypeId) (pos : String) (aft : Array Edge) (g : Option (Nat × Bool)) (K : S → Prop) (t0 : List A) (H0 : List Row) : stepC P ⟨d, .field t x f, ty, pos, aft, g⟩ K ⟨t0, H0⟩ = obind (aop P H0 (ev t0) (.field t x f)) (finK d K t0) := rfl
@[simp] theorem stepC_extract (P : Program) (d : Option Tmp) (x : Operand) (i : Nat) (ty : TypeId) (pos : String) (aft : Array Edge) (g : Option (Nat × Bool)) (K : S → Prop) (t0 : List A) (H0 : List Row) : stepC P ⟨d, .extract x i, ty, pos, aft, g⟩ K ⟨t0, H0⟩ = obind (aop P H0 (ev t0) (.extract x i)) (finK d K t0) := rfl
@[simp] theorem stepC_slice (P : Program) (d : Option Tmp) (t : TypeId) (x : Operand) (lo hi mx : Option Operand) (ty : TypeId) (pos : String) (aft : Array Edge) (g : Option (Nat × Bool)) (K : S → Prop) (t0 : List A) (H0 : List Row) : stepC P ⟨d, .slice t x lo hi mx, ty, pos, aft, g⟩ K ⟨t0, H0⟩ = obind (aop P H0 (ev t0) (.slice t x lo hi mx)) (finK d K t0) := rfl
@[simp] theorem stepC_nilCheck (P : Program) (d : Option Tmp) (x : Operand) (ty : TypeId) (pos : String) (aft : Array Edge) (g : Option (Nat × Bool)) (K : S → Prop) (t0 : List A) (H0 : List Row) : stepC P ⟨d, .nilCheck x, ty, pos, aft, g⟩ K ⟨t0, H0⟩ = obind (aop P H0 (ev t0) (.nilCheck x)) (finK d K t0) := rfl
@[simp] theorem stepC_build (P : Program) (d : Option Tmp) (t : TypeId) (ps : Array (Nat × Operand)) (ty : TypeId) (pos : String) (aft : Array Edge) (g : Option (Nat × Bool)) (K : S → Prop) (t0 : List A) (H0 : List Row) : stepC P ⟨d, .build t ps, ty, pos, aft, g⟩ K ⟨t0, H0⟩ = obind (aop P H0 (ev t0) (.build t ps)) (finK d K t0) := rfl
@[simp] theorem stepC_makeFunc (P : Program) (d : Option Tmp) (fn : Fn) (a c : Array Operand) (ty : TypeId) (pos : String) (aft : Array Edge) (g : Option (Nat × Bool)) (K : S → Prop) (t0 : List A) (H0 : List Row) : stepC P ⟨d, .makeFunc fn a c, ty, pos, aft, g⟩ K ⟨t0, H0⟩ = obind (aop P H0 (ev t0) (.makeFunc fn a c)) (finK d K t0) := rfl
@[simp] theorem stepC_b_len (P : Program) (d : Option Tmp) (as : Array Operand) (ts : Array TypeId) (ty : TypeId) (pos : String) (aft : Array Edge) (g : Option (Nat × Bool)) (K : S → Prop) (t0 : List A) (H0 : List Row) : stepC P ⟨d, .call ⟨.builtin .len, as, ts⟩, ty, pos, aft, g⟩ K ⟨t0, H0⟩ = obind (abuiltin P H0 .len ts (as.toList.map (ev t0))) (finK d K t0) := rfl
@[simp] theorem stepC_b_max (P : Program) (d : Option Tmp) (as : Array Operand) (ts : Array TypeId) (ty : TypeId) (pos : String) (aft : Array Edge) (g : Option (Nat × Bool)) (K : S → Prop) (t0 : List A) (H0 : List Row) : stepC P ⟨d, .call ⟨.builtin .max, as, ts⟩, ty, pos, aft, g⟩ K ⟨t0, H0⟩ = obind (abuiltin P H0 .max ts (as.toList.map (ev t0))) (finK d K t0) := rfl
@[simp] theorem stepC_b_min (P : Program) (d : Option Tmp) (as : Array Operand) (ts : Array TypeId) (ty : TypeId) (pos : String) (aft : Array Edge) (g : Option (Nat × Bool)) (K : S → Prop) (t0 : List A) (H0 : List Row) : stepC P ⟨d, .call ⟨.builtin .min, as, ts⟩, ty, pos, aft, g⟩ K ⟨t0, H0⟩ = obind (abuiltin P H0 .min ts (as.toList.map (ev t0))) (finK d K t0) := rfl
end
end Go.AL
/- An abstract layer over the walk, 20: what is handed back as a fresh slice that grows: nil, empty and full told as one. No program in sight. -/
namespace Go.AL

/-- A fresh slice that grows: nil, or empty, or a row of its own. -/
def Fresh {α : Type} [Enc α] (ty : TypeId) (l : List α) (H : List Row) (r : A) (H' : List Row) : Prop :=
  (l = [] ∧ r = .sl true [] ∧ H' = H) ∨ (l = [] ∧ r = .own (H.length + 1) 0 0 0 true ∧ H' = H ++ [dead0] ++ [dead0]) ∨ (r = .own (H.length + 1) 0 l.length l.length false ∧ l ≠ [] ∧ H' = H ++ [dead0] ++ [⟨ty, Enc.sz α, l.map Enc.enc, 0, true⟩])

theorem xcall_new {α : Type} [Enc α] {P : Program} {f : FuncId} {args : List A} {H : List Row} (ty : TypeId) (l : List α) (h : XCall P f args H (Fresh ty l H)) : XCall P f args H (fun r H' => r = B (H.length + 1) l ∧ H' = H ++ [dead0] ++ [RF ty l 0]) := by
  refine ⟨h.1, fun w F0 μ vs hs hl => (h.2 w F0 μ vs hs hl).mono ?_⟩
  rintro e w' ⟨v, r, H', he, hf, hres⟩
  refine ⟨v, B (H.length + 1) l, H ++ [dead0] ++ [RF ty l 0], he, ⟨rfl, rfl⟩, ?_⟩
  rcases hf with ⟨rfl, rfl, rfl⟩ | ⟨rfl, rfl, rfl⟩ | ⟨rfl, hne, rfl⟩
  · exact hres.snocDead.snocDead.repR fun hr => rep_empty (.inl rfl) hr _
  · exact hres
  · have hi : l.isEmpty = false := by cases l <;> simp_all
    rw [RF_ne hne]
    unfold B
    rw [hi]
    exact hres
@[simp] theorem Ls_scal1 {α : Type} [Enc α] (f : Bool) (l : List α) : scal1 (Ls f l) = false := rfl
@[simp] theorem B_scal1 {α : Type} (id : Nat) (l : List α) : scal1 (B id l) = false := rfl
end Go.AL
/- An abstract layer over the walk, 21: the code as one condition, with some drawn regions left for the prover ('bl': their numbers). No program in sight. -/
namespace Go.AL

def allLexB (bl : List Nat) : Code → Bool
  | .region id ops true => !pureB ops.toList || bl.contains id || Region.lexB .any ops
  | .seq x y => allLexB bl x && allLexB bl y
  | .cond _ x y => allLexB bl x && allLexB bl y
  | .block _ c => allLexB bl c
  | .loop c => allLexB bl c
  | _ => true

def vcB (P : Program) (X : Ctx) (bl : List Nat) : Code → (AX → S → Prop) → S → Prop
  | .skip, Q, s => Q .normal s
  | .region id ops false, Q, s => if bl.contains id = true then awp P X (.region id ops false) Q s else vcOps P ops Q ops.toList s
  | .region id ops true, Q, s => if (pureB ops.toList && !bl.contains id) = true then vcQ P ops (Q .normal) ops.toList s else awp P X (.region id ops true) Q s
  | .seq x y, Q, s => vcB P X bl x (thenK (vcB P X bl y Q) Q) s
  | .cond c x y, Q, s => condK (ev s.t c) (vcB P X bl x Q s) (vcB P X bl y Q s)
  | .block id c, Q, s => vcB P X bl c (blockK id Q) s
  | .exit id, Q, s => Q (.exit id) s
  | .ret, Q, s => Q .ret s
  | c, Q, s => awp P X c Q s

theorem vcB_sound {P : Program} {X : Ctx} (bl : List Nat) (hm : P.follows .mixedOrders = true) : ∀ (c : Code) (Q : AX → S → Prop) (s : S), allLexB bl c = true → vcB P X bl c Q s → awp P X c Q s
  | .skip, Q, s, _, h => awp_skip h
  | .region id ops false, Q, s, _, h => by
    simp only [vcB] at h
    split at h
    · exact h
    · exact fun a w μ hS => wp_region_list (vcOps_sound _ _ h a w μ hS)
  | .region id ops true, Q, s, hl, h => by
    simp only [vcB] at h
    split at h
    · rename_i hp
      simp only [Bool.and_eq_true] at hp
      simp only [allLexB, hp.1, Bool.not_true, Bool.false_or] at hl
      have hb : bl.contains id = false := by simpa using hp.2
      simp only [hb, Bool.false_or] at hl
      exact awp_draw hm hl hp.1 h
    · exact h
  | .seq x y, Q, s, hl, h => by
    simp only [allLexB, Bool.and_eq_true] at hl
    exact awp_seq (awp_mono (vcB_sound bl hm x _ _ hl.1 h) fun e s' h' => by
      cases e with
      | normal => exact vcB_sound bl hm y _ _ hl.2 h'
      | exit id => exact h'
      | ret => exact h')
  | .cond c x y, Q, s, hl, h => by
    simp only [allLexB, Bool.and_eq_true] at hl
    exact awp_cond (by
      revert h
      simp only [vcB]
      unfold condK
      split
      · exact fun h => ⟨fun hb => vcB_sound bl hm x _ _ hl.1 (h.1 hb), fun hb => vcB_sound bl hm y _ _ hl.2 (h.2 hb)⟩
      · exact fun h => ⟨vcB_sound bl hm x _ _ hl.1 h.1, vcB_sound bl hm y _ _ hl.2 h.2⟩
      · exact id)
  | .block id c, Q, s, hl, h => awp_block (vcB_sound bl hm c _ _ hl h)
  | .exit id, Q, s, _, h => awp_exit h
  | .ret, Q, s, _, h => awp_ret h
  | .loop _, _, _, _, h => h
  | .rangeFunc .., _, _, _, h => h
  | .scope _, _, _, _, h => h
  | .label _, _, _, _, h => h
  | .goto _, _, _, _, h => h
  | .refuse _, _, _, _, h => h

/-- A contract out of a condition on the body. -/
theorem xcall_ofA {P : Program} {f : FuncId} {fn : Func} {c : Code} {args : List A} {H : List Row} {R : A → List Row → Prop} (hf : P.funcs[f]? = some fn) (hb : fn.body = some c) (hn : (fn.name == "runtime.NumGoroutine") = false)
    (h : ∀ X : Ctx, X.μ.length ≤ H.length → awp P X c (retX P fn.results R) ⟨args ++ List.replicate (fn.ntmps - args.length) .any, H⟩) : XCall P f args H R := by
  refine ⟨by simp [callable, hf, hb, hn], fun w F0 μ vs hs hl => ?_⟩
  refine calls_of_wp hf hb (Code.wp_mono ?_ (h ⟨w, μ, Fof μ H, F0⟩ (by simp [hs.len]) _ _ μ (sim_start hs hl fn.ntmps)))
  rintro e a' w' ⟨x, s', μ', rfl, hQ, hS⟩
  have fin : obind (ares P s'.h s'.t fn.results) (fun r => R r s'.h) → a'.defers = [] ∧ ∃ v, (results fn a'.tmps).run P w' = .ok v w' ∧ ∃ v' r H', Ending.returned v = .returned v' ∧ R r H' ∧ Res P w F0 μ H v' w' r H' := by
    intro hQ
    refine ⟨hS.defers, ?_⟩
    cases hr : ares P s'.h s'.t fn.results with
    | none => rw [hr] at hQ; exact hQ.elim
    | some r =>
      rw [hr] at hQ
      obtain ⟨v, h1, h2⟩ := s_ares hS hr
      exact ⟨v, h1, v, r, s'.h, rfl, hQ, μ', hS.hs, hS.adv, hS.pre, h2⟩
  cases x with
  | normal => exact fin hQ
  | ret => exact fin hQ
  | exit id => exact hQ.elim

theorem fcall_ofA {P : Program} {f : FuncId} {fn : Func} {c : Code} {args : List A} {R : A → Prop} (hf : P.funcs[f]? = some fn) (hb : fn.body = some c) (hn : (fn.name == "runtime.NumGoroutine") = false)
    (h : ∀ X : Ctx, X.μ.length ≤ 0 → awp P X c (retF P fn.results R) ⟨args ++ List.replicate (fn.ntmps - args.length) .any, []⟩) : FCall P f args R := by
  have hx : XCall P f args [] (fun r H => obind (resA P H 4 r) fun r => R (wkA r)) := by
    refine xcall_ofA hf hb hn fun X hX => ?_
    have : retX P fn.results (fun r H => obind (resA P H 4 r) fun r => R (wkA r)) = retF P fn.results R := by
      funext x s
      cases x <;> rfl
    rw [this]
    exact h X hX
  refine ⟨hx.1, fun w F0 vs hbd hl => ?_⟩
  have hnil : ∀ b o, ¬ Fof ([] : Mu) [] b o := by rintro b o ⟨i, r, bs, h1, _⟩; simp at h1
  refine (hx.2 w F0 [] vs (HS.nil hbd) ?_).mono ?_
  · have e : Ft F0 [] [] = F0 := by funext b o; exact propext ⟨fun h => h.elim id fun h => (hnil b o h).elim, .inl⟩
    rw [e]; exact hl
  · rintro e w' ⟨v, r, H', rfl, hR, μ', h1, h2, h3, h4⟩
    cases hr : resA P H' 4 r with
    | none => rw [hr] at hR; exact hR.elim
    | some r' =>
      rw [hr] at hR
      refine ⟨v, wkA r', rfl, hR, (s_resA h1 (fun b o hf => .inl hf) (fun i x b bs o hx hl hb _ => h1.sep i x b bs o hx hl hb) h4 hr).wk, ?_⟩
      exact ⟨h2.os, h2.tape, h2.output, h2.size, fun b o u hc _ => h2.cell b o u hc (hnil b o), fun _ _ _ hf => hf.elim, h2.shape, fun b hb _ => h2.block b hb fun o => hnil b o⟩

/-- The same, with drawn regions that are left for the prover. -/
theorem fcall_ofB {P : Program} {f : FuncId} {fn : Func} {c : Code} {args : List A} {R : A → Prop} (bl : List Nat) (hf : P.funcs[f]? = some fn) (hb : fn.body = some c) (hn : (fn.name == "runtime.NumGoroutine") = false) (hm : P.follows .mixedOrders = true) (hlx : allLexB bl c = true)
    (h : ∀ X : Ctx, X.μ.length ≤ 0 → vcB P X bl c (retF P fn.results R) ⟨args ++ List.replicate (fn.ntmps - args.length) .any, []⟩) : FCall P f args R :=
  fcall_ofA hf hb hn fun X hX => vcB_sound bl hm c _ _ hlx (h X hX)
theorem xcall_ofB {P : Program} {f : FuncId} {fn : Func} {c : Code} {args : List A} {H : List Row} {R : A → List Row → Prop} (bl : List Nat) (hf : P.funcs[f]? = some fn) (hb : fn.body = some c) (hn : (fn.name == "runtime.NumGoroutine") = false) (hm : P.follows .mixedOrders = true) (hlx : allLexB bl c = true)
    (h : ∀ X : Ctx, X.μ.length ≤ H.length → vcB P X bl c (retX P fn.results R) ⟨args ++ List.replicate (fn.ntmps - args.length) .any, H⟩) : XCall P f args H R :=
  xcall_ofA hf hb hn fun X hX => vcB_sound bl hm c _ _ hlx (h X hX)

section
variable {P : Program} {X : Ctx} {bl : List Nat} {Q : AX → S → Prop} {s : S}
@[congr] theorem vcB_congr {c : Code} {Q : AX → S → Prop} {s s' : S} (e : s = s') : vcB P X bl c Q s = vcB P X bl c Q s' := by rw [e]
@[simp] theorem vcB_skip : vcB P X bl .skip Q s = Q .normal s := by rw [vcB]
@[simp] theorem vcB_region (id : Nat) (ops : List Oper) : vcB P X bl (.region id ops.toArray false) Q s = if bl.contains id = true then awp P X (.region id ops.toArray false) Q s else vcOps P ops.toArray Q ops s := by rw [vcB]
@[simp] theorem vcB_seq (x y : Code) : vcB P X bl (.seq x y) Q s = vcB P X bl x (thenK (vcB P X bl y Q) Q) s := by rw [vcB]
@[simp] theorem vcB_cond (c : Operand) (x y : Code) : vcB P X bl (.cond c x y) Q s = condK (ev s.t c) (vcB P X bl x Q s) (vcB P X bl y Q s) := by rw [vcB]
@[simp] theorem vcB_block (id : Nat) (c : Code) : vcB P X bl (.block id c) Q s = vcB P X bl c (blockK id Q) s := by rw [vcB]
@[simp] theorem vcB_exit (id : Nat) : vcB P X bl (.exit id) Q s = Q (.exit id) s := by rw [vcB]
@[simp] theorem vcB_ret : vcB P X bl .ret Q s = Q .ret s := by rw [vcB]
@[simp] theorem vcB_loop (c : Code) : vcB P X bl (.loop c) Q s = awp P X (.loop c) Q s := by rw [vcB] <;> simp
@[simp] theorem vcB_draw (id : Nat) (ops : List Oper) : vcB P X bl (.region id ops.toArray true) Q s = if (pureB ops && !bl.contains id) = true then vcQ P ops.toArray (Q .normal) ops s else awp P X (.region id ops.toArray true) Q s := by rw [vcB]
end
end Go.AL
/- An abstract layer over the walk, 21b: a variable in memory that is not written any more. No program in sight. -/
namespace Go.AL

def A.isTup : A → Bool
  | .tup _ => true
  | _ => false

def fzA (id sz : Nat) (e : A) (x : A) : A :=
  match x with
  | .pto i s 0 0 => if i = id ∧ s = sz then .ptr e else x
  | x => x

theorem fzA_or (id sz : Nat) (e x : A) : fzA id sz e x = x ∨ (x = .pto id sz 0 0 ∧ fzA id sz e x = .ptr e) := by
  unfold fzA
  split
  · rename_i i s
    split
    · rename_i h; exact .inr ⟨by rw [h.1, h.2], rfl⟩
    · exact .inl rfl
  · exact .inl rfl

theorem Wk.fz {P : Program} {X : Ctx} {t : List A} {H : List Row} (id ty sz f : Nat) (e : A) (h : H[id]? = some ⟨ty, sz, [e], f, true⟩) (hn : (e.noid && !e.isTup) = true) : Wk P X ⟨t, H⟩ ⟨t.map (fzA id sz e), H.set id dead0⟩ := by
  simp only [Bool.and_eq_true, Bool.not_eq_true'] at hn
  obtain ⟨hn, htup⟩ := hn
  intro a w μ hs
  have hlen : id < μ.length := by rw [hs.hs.len]; exact (List.getElem?_eq_some_iff.1 h).1
  obtain ⟨⟨b, bs⟩, hμ⟩ : ∃ p, μ[id]? = some p := ⟨_, List.getElem?_eq_getElem hlen⟩
  have hco : CellsOK P w (Ft X.F0 μ H) μ ⟨ty, sz, [e], f, true⟩ b bs := by
    rcases hs.hs.row id _ b bs h rfl hμ with h1 | ⟨_, _, _, ms, _, _, h1, h2⟩
    · exact h1
    · simp at h1
      obtain ⟨m, hm⟩ : ∃ m, ms.toList[0]? = some m := ⟨_, List.getElem?_eq_getElem (by simp; omega)⟩
      obtain ⟨ka, va, rfl, _⟩ := h2 0 e m rfl hm
      cases htup
  obtain ⟨cur, h1, h2, h3, h4, h5⟩ := hco
  simp only at h2 h3
  obtain ⟨k1, V, k2, k3⟩ := h5 0 e rfl
  obtain ⟨g1, g2⟩ := hs.hs.kill (id := id) (d := dead0) rfl
  have hz := shp_cells k1 k2 (by rw [← h2]; exact h3)
  have hsub : ∀ b o, Ft X.F0 μ (H.set id dead0) b o → Ft X.F0 μ H b o := by
    rintro b o (hf | ⟨i, r, bs, h1, h2, h3, h4⟩)
    · exact .inl hf
    · refine .inr ⟨i, r, bs, ?_, h2, h3, h4⟩
      rw [List.getElem?_set] at h1
      split at h1
      · split at h1
        · cases h1; cases h2
        · cases h1
      · exact h1
  have hptr : Rep P w (Ft X.F0 μ (H.set id dead0)) μ (.ptr e) (.pointer (some ⟨b, bs, none⟩)) := by
    refine .ptr _ e b bs V ((k2.noid hn).mono (fun b o _ hf => hsub b o hf) (List.prefix_refl _)) (by rw [shp_ncells k1 (by rw [← h2]; exact h3), ← h2]; exact h3) ?_
    intro j u hu
    refine ⟨hz.2 u (List.mem_of_getElem? (by simpa using hu)), ?_, ?_⟩
    · rw [cell_of_row w b _ cur ty (0, 0) h1]; simpa using k3 j u hu
    · rintro (hf | ⟨i, r, bs', q1, q2, q3, q4⟩)
      · exact hs.hs.sep id _ b bs _ h rfl hμ hf
      · rw [List.getElem?_set] at q1
        split at q1
        · split at q1
          · cases q1; cases q2
          · cases q1
        · rename_i hne
          exact hne (hs.hs.inj id i _ r b bs bs' h rfl q1 q2 hμ q3)
  refine ⟨μ, by rw [hs.len]; simp, ?_, g1, hs.adv.trans g2, hs.pre, hs.defers⟩
  intro i x hx
  obtain ⟨y, hy, rfl⟩ : ∃ y, t[i]? = some y ∧ fzA id sz e y = x := by simpa using hx
  have hr := hs.rep i y hy
  rcases fzA_or id sz e y with h0 | ⟨rfl, h0⟩
  · rw [h0]; exact hr.mono (fun b o _ hf => hsub b o hf) (List.prefix_refl _)
  · rw [h0]
    generalize a.tmps.getD i undef = v at hr
    cases hr with | pto _ _ _ _ _ b' bs' hμ' =>
    rw [hμ] at hμ'
    cases hμ'
    simpa using hptr

/-- From here on the variable is not written any more. -/
theorem awp_fz {P : Program} {X : Ctx} {c : Code} {Q : AX → S → Prop} {t : List A} {H : List Row} (id : Nat) {ty sz f : Nat} {e : A} (h : H[id]? = some ⟨ty, sz, [e], f, true⟩) (hn : (e.noid && !e.isTup) = true) (hA : awp P X c Q ⟨t.map (fzA id sz e), H.set id dead0⟩) : awp P X c Q ⟨t, H⟩ :=
  awp_weaken (Wk.fz id ty sz f e h hn) hA
/-- The same, the row behind those of a caller. -/
theorem awp_fzH {P : Program} {X : Ctx} {c : Code} {Q : AX → S → Prop} {t : List A} {H L : List Row} {ty sz f : Nat} {e : A} (hn : (e.noid && !e.isTup) = true) (hA : awp P X c Q ⟨t.map (fzA H.length sz e), H ++ dead0 :: L⟩) : awp P X c Q ⟨t, H ++ ⟨ty, sz, [e], f, true⟩ :: L⟩ := by
  refine awp_fz (ty := ty) (sz := sz) (f := f) (e := e) H.length (by simp) hn ?_
  simpa using hA
attribute [simp] A.isTup
@[simp] theorem isTup_enc {α : Type} [Enc α] (x : α) : (Enc.enc x).isTup = false := by
  have h := Enc.nc x
  have hp : Enc.sz α ≠ 0 := Enc.pos
  cases hx : Enc.enc x with
  | tup l => rw [hx] at h; exact (hp h.symm).elim
  | _ => rfl
@[simp] theorem isTup_Ls {α : Type} [Enc α] (f : Bool) (l : List α) : (Ls f l).isTup = false := rfl
section
variable (id sz : Nat) (e : A)
@[simp] theorem fzA_pto (i s : Nat) : fzA id sz e (.pto i s 0 0) = if i = id ∧ s = sz then .ptr e else .pto i s 0 0 := rfl
@[simp] theorem fzA_ptoC (i s j co : Nat) (h : j ≠ 0 ∨ co ≠ 0) : fzA id sz e (.pto i s j co) = .pto i s j co := by
  unfold fzA
  split
  · rename_i i s heq
    cases heq
    simp at h
  · rfl
@[simp] theorem fzA_int (k : IntKind) (n : Int) : fzA id sz e (.int k n) = .int k n := rfl
@[simp] theorem fzA_bool (b : Bool) : fzA id sz e (.bool b) = .bool b := rfl
@[simp] theorem fzA_ub : fzA id sz e .ub = .ub := rfl
@[simp] theorem fzA_str (l : List UInt8) : fzA id sz e (.str l) = .str l := rfl
@[simp] theorem fzA_sl (f : Bool) (l : List A) : fzA id sz e (.sl f l) = .sl f l := rfl
@[simp] theorem fzA_own (i o l c : Nat) (x : Bool) : fzA id sz e (.own i o l c x) = .own i o l c x := rfl
@[simp] theorem fzA_ptr (d : A) : fzA id sz e (.ptr d) = .ptr d := rfl
@[simp] theorem fzA_nptr : fzA id sz e .nptr = .nptr := rfl
@[simp] theorem fzA_agg (l : List A) : fzA id sz e (.agg l) = .agg l := rfl
@[simp] theorem fzA_tup (l : List A) : fzA id sz e (.tup l) = .tup l := rfl
@[simp] theorem fzA_fn (f : FuncId) (l : List A) : fzA id sz e (.fn f l) = .fn f l := rfl
@[simp] theorem fzA_nfn : fzA id sz e .nfn = .nfn := rfl
@[simp] theorem fzA_any : fzA id sz e .any = .any := rfl
@[simp] theorem fzA_Ls {α : Type} [Enc α] (f : Bool) (l : List α) : fzA id sz e (Ls f l) = Ls f l := rfl
@[simp] theorem fzA_B {α : Type} (i : Nat) (l : List α) : fzA id sz e (B i l) = B i l := rfl
end

section
variable {P : Program}
theorem astore_at {H : List Row} (id : Nat) (ty t : TypeId) (l : List Int) (f j : Nat) (x : Int) (hr : H[id]? = some (RF ty l f)) (hc : P.cellsOf t = 1) (hs : shp P ty (.int .i64 x) = true) :
    astore P H t (.pto id 1 j 0) (.int .i64 x) = if f ≤ j ∧ j < l.length then some (H.set id (RF ty (l.set j x) f)) else none := by
  unfold astore
  by_cases h0 : l = []
  · subst h0
    simp [hr, dead0]
  · have h1 : l.set j x ≠ [] := by
      intro h; have := congrArg List.length h; simp at this; exact h0 this
    rw [RF_ne h0] at hr
    rw [RF_ne h1]
    simp only [hr, Option.bind_some, hc, List.getElem?_map, A.ncells]
    by_cases hf : f ≤ j
    · rw [if_pos ⟨trivial, by simp, hf, trivial, by decide⟩]
      by_cases hj : j < l.length
      · rw [if_pos ⟨hf, hj⟩, List.getElem?_eq_getElem hj]
        simp [hs, List.map_set]
      · rw [if_neg (fun h => hj h.2), List.getElem?_eq_none (by omega)]
        rfl
    · rw [if_neg (fun h => hf h.2.2.1), if_neg (fun h => hf h.1)]
@[simp high] theorem astore_RF0 (H : List Row) (ty t : TypeId) (l : List Int) (f j sz : Nat) (x : Int) (hz : sz = 1) (hc : P.cellsOf t = 1) (hs : shp P ty (.int .i64 x) = true) : astore P (RF ty l f :: H) t (.pto 0 sz j 0) (.int .i64 x) = if f ≤ j ∧ j < l.length then some (RF ty (l.set j x) f :: H) else none := by
  subst hz; exact astore_at 0 ty t l f j x (by rfl) hc hs
@[simp high] theorem astore_RF1 (r0 : Row) (H : List Row) (ty t : TypeId) (l : List Int) (f j sz : Nat) (x : Int) (hz : sz = 1) (hc : P.cellsOf t = 1) (hs : shp P ty (.int .i64 x) = true) : astore P (r0 :: RF ty l f :: H) t (.pto 1 sz j 0) (.int .i64 x) = if f ≤ j ∧ j < l.length then some (r0 :: RF ty (l.set j x) f :: H) else none := by
  subst hz; exact astore_at 1 ty t l f j x (by rfl) hc hs
@[simp high] theorem astore_RF2 (r0 r1 : Row) (H : List Row) (ty t : TypeId) (l : List Int) (f j sz : Nat) (x : Int) (hz : sz = 1) (hc : P.cellsOf t = 1) (hs : shp P ty (.int .i64 x) = true) : astore P (r0 :: r1 :: RF ty l f :: H) t (.pto 2 sz j 0) (.int .i64 x) = if f ≤ j ∧ j < l.length then some (r0 :: r1 :: RF ty (l.set j x) f :: H) else none := by
  subst hz; exact astore_at 2 ty t l f j x (by rfl) hc hs
@[simp high] theorem astore_RF3 (r0 r1 r2 : Row) (H : List Row) (ty t : TypeId) (l : List Int) (f j sz : Nat) (x : Int) (hz : sz = 1) (hc : P.cellsOf t = 1) (hs : shp P ty (.int .i64 x) = true) : astore P (r0 :: r1 :: r2 :: RF ty l f :: H) t (.pto 3 sz j 0) (.int .i64 x) = if f ≤ j ∧ j < l.length then some (r0 :: r1 :: r2 :: RF ty (l.set j x) f :: H) else none := by
  subst hz; exact astore_at 3 ty t l f j x (by rfl) hc hs
@[simp high] theorem astore_RF4 (r0 r1 r2 r3 : Row) (H : List Row) (ty t : TypeId) (l : List Int) (f j sz : Nat) (x : Int) (hz : sz = 1) (hc : P.cellsOf t = 1) (hs : shp P ty (.int .i64 x) = true) : astore P (r0 :: r1 :: r2 :: r3 :: RF ty l f :: H) t (.pto 4 sz j 0) (.int .i64 x) = if f ≤ j ∧ j < l.length then some (r0 :: r1 :: r2 :: r3 :: RF ty (l.set j x) f :: H) else none := by
  subst hz; exact astore_at 4 ty t l f j x (by rfl) hc hs
@[simp high] theorem astore_RF5 (r0 r1 r2 r3 r4 : Row) (H : List Row) (ty t : TypeId) (l : List Int) (f j sz : Nat) (x : Int) (hz : sz = 1) (hc : P.cellsOf t = 1) (hs : shp P ty (.int .i64 x) = true) : astore P (r0 :: r1 :: r2 :: r3 :: r4 :: RF ty l f :: H) t (.pto 5 sz j 0) (.int .i64 x) = if f ≤ j ∧ j < l.length then some (r0 :: r1 :: r2 :: r3 :: r4 :: RF ty (l.set j x) f :: H) else none := by
  subst hz; exact astore_at 5 ty t l f j x (by rfl) hc hs
end

/-! Parts of slices that grow. -/
section
variable {α : Type} [Enc α] {P : Program}
@[simp high] theorem ownOK_B {H : List Row} {t : TypeId} (id : Nat) (l : List α) (h : isSliceT P t = true) (hr : RowOf H[id]? (selem P t) l) : ownOK P H t (B id l) = true := by
  unfold ownOK B
  cases l with
  | nil => rfl
  | cons x l =>
    rcases hr with hr | ⟨f, hr⟩
    · cases hr
    · simp [selem_eq h, hr]
@[simp high] theorem aslice_B {t : TypeId} (id : Nat) (l : List α) (lo hi mx : Option A) (h : isSliceT P t = true) (hc : P.cellsOf (selem P t) = Enc.sz α) :
    aslice P t (B id l) lo hi mx = (abnd lo 0).bind fun a => (abnd hi l.length).bind fun b => (abnd mx l.length).bind fun m =>
      if a ≤ b ∧ b ≤ m ∧ m ≤ l.length ∧ (mx.isSome → hi.isSome) then some (if l.isEmpty then .own id 0 0 0 true else .own id a (b - a) (m - a) mx.isSome) else none := by
  unfold B
  rw [aslice_own _ _ _ _ _ _ _ _ h]
  have hp : (Enc.sz α) ≠ 0 := Enc.pos
  simp only [hc, hp, ne_eq, not_false_eq_true, true_and]
  cases l with
  | nil => simp
  | cons x l => simp
theorem resA_own_at {H : List Row} (id : Nat) (ty : TypeId) (l : List α) (f n off len cb : Nat) (ex : Bool) (hr : H[id]? = some (RF ty l f)) : resA P H (n + 1) (.own id off len cb ex) = if len = 0 ∨ off + len ≤ l.length then some (Ls false ((l.drop off).take len)) else none := by
  unfold resA
  simp only [A.noid, Bool.false_eq_true, if_false]
  by_cases h0 : len = 0
  · subst h0
    simp
  · rw [if_neg h0]
    by_cases hl : l = []
    · subst hl
      simp [hr, h0, dead0]
    · rw [RF_ne hl] at hr
      simp only [hr, Option.bind_some, List.length_map, true_and, h0, false_or]
      have e : ((List.map Enc.enc l).drop off).take len = ((l.drop off).take len).map Enc.enc := by simp [List.map_drop, List.map_take]
      rw [e, noidL_enc]
      simp [Ls]
@[simp high] theorem resA_own_RF0 (H : List Row) (ty : TypeId) (l : List α) (f n off len cb : Nat) (ex : Bool) : resA P (RF ty l f :: H) (n + 1) (.own 0 off len cb ex) = if len = 0 ∨ off + len ≤ l.length then some (Ls false ((l.drop off).take len)) else none := resA_own_at 0 ty l f n off len cb ex (by rfl)
@[simp high] theorem resA_own_RF1 (r0 : Row) (H : List Row) (ty : TypeId) (l : List α) (f n off len cb : Nat) (ex : Bool) : resA P (r0 :: RF ty l f :: H) (n + 1) (.own 1 off len cb ex) = if len = 0 ∨ off + len ≤ l.length then some (Ls false ((l.drop off).take len)) else none := resA_own_at 1 ty l f n off len cb ex (by rfl)
@[simp high] theorem resA_own_RF2 (r0 r1 : Row) (H : List Row) (ty : TypeId) (l : List α) (f n off len cb : Nat) (ex : Bool) : resA P (r0 :: r1 :: RF ty l f :: H) (n + 1) (.own 2 off len cb ex) = if len = 0 ∨ off + len ≤ l.length then some (Ls false ((l.drop off).take len)) else none := resA_own_at 2 ty l f n off len cb ex (by rfl)
@[simp high] theorem resA_own_RF3 (r0 r1 r2 : Row) (H : List Row) (ty : TypeId) (l : List α) (f n off len cb : Nat) (ex : Bool) : resA P (r0 :: r1 :: r2 :: RF ty l f :: H) (n + 1) (.own 3 off len cb ex) = if len = 0 ∨ off + len ≤ l.length then some (Ls false ((l.drop off).take len)) else none := resA_own_at 3 ty l f n off len cb ex (by rfl)
@[simp high] theorem resA_own_RF4 (r0 r1 r2 r3 : Row) (H : List Row) (ty : TypeId) (l : List α) (f n off len cb : Nat) (ex : Bool) : resA P (r0 :: r1 :: r2 :: r3 :: RF ty l f :: H) (n + 1) (.own 4 off len cb ex) = if len = 0 ∨ off + len ≤ l.length then some (Ls false ((l.drop off).take len)) else none := resA_own_at 4 ty l f n off len cb ex (by rfl)
@[simp high] theorem resA_own_RF5 (r0 r1 r2 r3 r4 : Row) (H : List Row) (ty : TypeId) (l : List α) (f n off len cb : Nat) (ex : Bool) : resA P (r0 :: r1 :: r2 :: r3 :: r4 :: RF ty l f :: H) (n + 1) (.own 5 off len cb ex) = if len = 0 ∨ off + len ≤ l.length then some (Ls false ((l.drop off).take len)) else none := resA_own_at 5 ty l f n off len cb ex (by rfl)
end

section
variable {α : Type} [Enc α] {P : Program}
theorem resA_B_at {H : List Row} (id : Nat) (ty : TypeId) (l m : List α) (f n : Nat) (hr : H[id]? = some (RF ty m f)) (h : l.length = m.length) : resA P H (n + 1) (B id l) = some (Ls false m) := by
  unfold B
  rw [resA_own_at id ty m f n _ _ _ _ hr, if_pos (.inr (by omega)), List.drop_zero, h, List.take_length]
@[simp high] theorem resA_B_RF0 (H : List Row) (ty : TypeId) (l m : List α) (f n : Nat) (h : l.length = m.length) : resA P (RF ty m f :: H) (n + 1) (B 0 l) = some (Ls false m) := resA_B_at 0 ty l m f n (by rfl) h
@[simp high] theorem resA_B_RF1 (r0 : Row) (H : List Row) (ty : TypeId) (l m : List α) (f n : Nat) (h : l.length = m.length) : resA P (r0 :: RF ty m f :: H) (n + 1) (B 1 l) = some (Ls false m) := resA_B_at 1 ty l m f n (by rfl) h
@[simp high] theorem resA_B_RF2 (r0 r1 : Row) (H : List Row) (ty : TypeId) (l m : List α) (f n : Nat) (h : l.length = m.length) : resA P (r0 :: r1 :: RF ty m f :: H) (n + 1) (B 2 l) = some (Ls false m) := resA_B_at 2 ty l m f n (by rfl) h
@[simp high] theorem resA_B_RF3 (r0 r1 r2 : Row) (H : List Row) (ty : TypeId) (l m : List α) (f n : Nat) (h : l.length = m.length) : resA P (r0 :: r1 :: r2 :: RF ty m f :: H) (n + 1) (B 3 l) = some (Ls false m) := resA_B_at 3 ty l m f n (by rfl) h
@[simp high] theorem resA_B_RF4 (r0 r1 r2 r3 : Row) (H : List Row) (ty : TypeId) (l m : List α) (f n : Nat) (h : l.length = m.length) : resA P (r0 :: r1 :: r2 :: r3 :: RF ty m f :: H) (n + 1) (B 4 l) = some (Ls false m) := resA_B_at 4 ty l m f n (by rfl) h
@[simp high] theorem resA_B_RF5 (r0 r1 r2 r3 r4 : Row) (H : List Row) (ty : TypeId) (l m : List α) (f n : Nat) (h : l.length = m.length) : resA P (r0 :: r1 :: r2 :: r3 :: r4 :: RF ty m f :: H) (n + 1) (B 5 l) = some (Ls false m) := resA_B_at 5 ty l m f n (by rfl) h
end
end Go.AL
/- An abstract layer over the walk, 21c: maps as lists of pairs. No program in sight. -/
namespace Go.AL

instance instEncPair : Enc (Int × Int) := ⟨fun p => .agg [.int .i64 p.1, .int .i64 p.2], 2, fun _ => rfl, fun _ => by simp, fun _ => rfl, by decide⟩
theorem enc_pair (p : Int × Int) : Enc.enc p = A.agg [.int .i64 p.1, .int .i64 p.2] := rfl

section
variable {κ ν : Type} [DecidableEq κ]
def mfind : List (κ × ν) → κ → Option (Nat × ν)
  | [], _ => none
  | p :: M, k => if p.1 = k then some (0, p.2) else (mfind M k).map fun q => (q.1 + 1, q.2)
def mget (M : List (κ × ν)) (k : κ) : Option ν := (mfind M k).map (·.2)
def mset (M : List (κ × ν)) (k : κ) (v : ν) : List (κ × ν) := match mfind M k with | some q => M.set q.1 (k, v) | none => M ++ [(k, v)]
@[simp] theorem mget_nil (k : κ) : mget ([] : List (κ × ν)) k = none := rfl
theorem mfind_cons (p : κ × ν) (M : List (κ × ν)) (k : κ) : mfind (p :: M) k = if p.1 = k then some (0, p.2) else (mfind M k).map fun q => (q.1 + 1, q.2) := rfl
theorem mget_cons (p : κ × ν) (M : List (κ × ν)) (k : κ) : mget (p :: M) k = if p.1 = k then some p.2 else mget M k := by
  unfold mget
  rw [mfind_cons]
  split
  · rfl
  · cases mfind M k <;> rfl
theorem mset_cons (p : κ × ν) (M : List (κ × ν)) (k : κ) (v : ν) : mset (p :: M) k v = if p.1 = k then (k, v) :: M else p :: mset M k v := by
  unfold mset
  by_cases h : p.1 = k
  · simp [mfind_cons, h]
  · simp only [mfind_cons, h, if_false]
    cases mfind M k <;> simp
theorem mget_set (M : List (κ × ν)) (k k' : κ) (v : ν) : mget (mset M k v) k' = if k = k' then some v else mget M k' := by
  induction M with
  | nil => rw [show mset ([] : List (κ × ν)) k v = [(k, v)] from rfl, mget_cons]
  | cons p M ih =>
    rw [mset_cons]
    by_cases h : p.1 = k
    · rw [if_pos h, mget_cons, mget_cons]
      simp only
      by_cases h2 : k = k'
      · rw [if_pos h2, if_pos h2]
      · rw [if_neg h2, if_neg h2, if_neg (by rw [h]; exact h2)]
    · rw [if_neg h, mget_cons, mget_cons, ih]
      by_cases h2 : k = k'
      · subst h2
        simp [h]
      · rw [if_neg h2, if_neg h2]
end

section
variable {κ ν : Type} [Enc κ] [Enc ν]
def encKV (p : κ × ν) : A := .tup [Enc.enc p.1, Enc.enc p.2]
/-- A map's row. -/
def RM (M : List (κ × ν)) : Row := RMp (M.map encKV)
theorem RM_nil : RMp [] = RM ([] : List (κ × ν)) := rfl
theorem afind_RM [DecidableEq κ] {P : Program} {t : TypeId} {k : κ} (hk : ∀ a b : κ, keq P t (Enc.enc a) (Enc.enc b) = some (decide (a = b))) : ∀ M : List (κ × ν), afind (keq P t (Enc.enc k)) (M.map encKV) = some ((mfind M k).map fun q => (q.1, Enc.enc q.2))
  | [] => rfl
  | p :: M => by
    rw [List.map_cons]
    simp only [show encKV p = A.tup [Enc.enc p.1, Enc.enc p.2] from rfl, afind, hk, mfind]
    by_cases h : p.1 = k
    · simp [h]
    · have h' : ¬ k = p.1 := fun e => h e.symm
      have ih := afind_RM hk M (k := k)
      simp only [decide_eq_false h', h, if_false]
      rw [ih]
      cases mfind M k <;> rfl
end

def isMapT (P : Program) (t : TypeId) : Bool := match P.underlying t with | some (.map _ _) => true | _ => false
def mkey (P : Program) (t : TypeId) : TypeId := match P.underlying t with | some (.map k _) => k | _ => 0
def melem (P : Program) (t : TypeId) : TypeId := match P.underlying t with | some (.map _ e) => e | _ => 0
theorem isMap_eq {P : Program} {t : TypeId} (h : isMapT P t = true) : P.underlying t = some (.map (mkey P t) (melem P t)) := by
  unfold isMapT at h
  unfold mkey melem
  split at h
  · rename_i k e hu; rw [hu]
  · cases h
theorem keq_ints {P : Program} {t : TypeId} (h : keyT P t = 1) (a b : Int) : keq P t (Enc.enc a) (Enc.enc b) = some (decide (a = b)) := by
  show keq P t (.int .i64 a) (.int .i64 b) = _
  simp [keq, h]
theorem keq_pairs {P : Program} {t : TypeId} (h : keyT P t = 2) (a b : Int × Int) : keq P t (Enc.enc a) (Enc.enc b) = some (decide (a = b)) := by
  show keq P t (.agg [.int .i64 a.1, .int .i64 a.2]) (.agg [.int .i64 b.1, .int .i64 b.2]) = _
  simp only [keq, h, and_self, if_true, Option.some.injEq]
  rw [Bool.eq_iff_iff]; simp [Prod.ext_iff]

section
variable {κ ν : Type} [Enc κ] [Enc ν] {P : Program} {H : List Row} {t : TypeId}
theorem alookup_at [DecidableEq κ] (id : Nat) (M : List (κ × ν)) (k : κ) (ok : Bool) (z : ν) (n : Nat) (hr : H[id]? = some (RM M)) (hm : isMapT P t = true) (hk : ∀ a b : κ, keq P (mkey P t) (Enc.enc a) (Enc.enc b) = some (decide (a = b))) (hok : keyOK P (mkey P t) (Enc.enc k) = true) (hz : zbox P (melem P t) = some (Enc.enc z, n)) :
    alookup P H t (.mp id) (Enc.enc k) ok = some (if ok then .tup [Enc.enc ((mget M k).getD z), .bool (mget M k).isSome] else Enc.enc ((mget M k).getD z)) := by
  unfold alookup
  rw [isMap_eq hm]
  simp only [hr, Option.bind_some, RM, RMp, hok, Enc.noid, and_self, if_true, afind_RM hk, hz, Option.map_some, mget]
  cases mfind M k <;> cases ok <;> rfl
theorem amapset_at [DecidableEq κ] (id : Nat) (M : List (κ × ν)) (k : κ) (v : ν) (hr : H[id]? = some (RM M)) (hm : isMapT P t = true) (hk : ∀ a b : κ, keq P (mkey P t) (Enc.enc a) (Enc.enc b) = some (decide (a = b))) (hok : keyOK P (mkey P t) (Enc.enc k) = true) :
    amapset P H t (.mp id) (Enc.enc k) (Enc.enc v) = some (H.set id (RM (mset M k v))) := by
  unfold amapset
  rw [isMap_eq hm]
  simp only [hr, Option.bind_some, RM, RMp, hok, Enc.noid, and_self, if_true, afind_RM hk, Option.map_some, mset]
  cases mfind M k with
  | none => simp [encKV]
  | some q => simp [encKV, List.map_set]
@[simp] theorem leRow_RM {ids : List Nat} {n : Nat} {j : Nat} (M : List (κ × ν)) : leRow ids n H j (RM M) = (H[j]? = some (RM M)) := by
  apply propext
  constructor
  · rintro (h | ⟨x, _, _, _, _, _, _, _, _, h⟩ | ⟨_, h⟩)
    · cases h
    · exact (h rfl).elim
    · exact h
  · exact fun h => .inr (.inr ⟨rfl, h⟩)
end
section
variable {P : Program} {t : TypeId}
attribute [simp] amkmap
@[simp] theorem fzA_mp (id sz : Nat) (e : A) (i : Nat) : fzA id sz e (.mp i) = .mp i := rfl
@[simp] theorem leA_mp' {ids : List Nat} (x : A) (i : Nat) : leA ids x (.mp i) = (x = .mp (ids.getD i 0)) := by cases x <;> simp [leA]
@[simp] theorem RM_inj_nil {κ ν : Type} [Enc κ] [Enc ν] : (RMp [] = RM ([] : List (κ × ν))) = True := eq_true rfl
@[simp high] theorem alookup_ii0 (H : List Row) (M : List (Int × Int)) (k : Int) (ok : Bool) (hm : isMapT P t = true) (hk : keyT P (mkey P t) = 1) (hz : zbox P (melem P t) = some (.int .i64 0, 8)) : alookup P (RM M :: H) t (.mp 0) (.int .i64 k) ok = some (if ok then .tup [.int .i64 ((mget M k).getD 0), .bool (mget M k).isSome] else .int .i64 ((mget M k).getD 0)) :=
  alookup_at (κ := Int) 0 M k ok 0 8 rfl hm (keq_ints hk) (by simp [keyOK, hk]) hz
@[simp high] theorem amapset_ii0 (H : List Row) (M : List (Int × Int)) (k : Int) (v : Int) (hm : isMapT P t = true) (hk : keyT P (mkey P t) = 1) : amapset P (RM M :: H) t (.mp 0) (.int .i64 k) (.int .i64 v) = some (RM (mset M k v) :: H) :=
  amapset_at (κ := Int) 0 M k v rfl hm (keq_ints hk) (by simp [keyOK, hk])
@[simp high] theorem alookup_ib0 (H : List Row) (M : List (Int × Bool)) (k : Int) (ok : Bool) (hm : isMapT P t = true) (hk : keyT P (mkey P t) = 1) (hz : zbox P (melem P t) = some (.bool false, 1)) : alookup P (RM M :: H) t (.mp 0) (.int .i64 k) ok = some (if ok then .tup [.bool ((mget M k).getD false), .bool (mget M k).isSome] else .bool ((mget M k).getD false)) :=
  alookup_at (κ := Int) 0 M k ok false 1 rfl hm (keq_ints hk) (by simp [keyOK, hk]) hz
@[simp high] theorem amapset_ib0 (H : List Row) (M : List (Int × Bool)) (k : Int) (v : Bool) (hm : isMapT P t = true) (hk : keyT P (mkey P t) = 1) : amapset P (RM M :: H) t (.mp 0) (.int .i64 k) (.bool v) = some (RM (mset M k v) :: H) :=
  amapset_at (κ := Int) 0 M k v rfl hm (keq_ints hk) (by simp [keyOK, hk])
@[simp high] theorem alookup_pi0 (H : List Row) (M : List ((Int × Int) × Int)) (k k2 : Int) (ok : Bool) (hm : isMapT P t = true) (hk : keyT P (mkey P t) = 2) (hz : zbox P (melem P t) = some (.int .i64 0, 8)) : alookup P (RM M :: H) t (.mp 0) (.agg [.int .i64 k, .int .i64 k2]) ok = some (if ok then .tup [.int .i64 ((mget M (k, k2)).getD 0), .bool (mget M (k, k2)).isSome] else .int .i64 ((mget M (k, k2)).getD 0)) :=
  alookup_at (κ := (Int × Int)) 0 M (k, k2) ok 0 8 rfl hm (keq_pairs hk) (by simp [keyOK, hk, enc_pair]) hz
@[simp high] theorem amapset_pi0 (H : List Row) (M : List ((Int × Int) × Int)) (k k2 : Int) (v : Int) (hm : isMapT P t = true) (hk : keyT P (mkey P t) = 2) : amapset P (RM M :: H) t (.mp 0) (.agg [.int .i64 k, .int .i64 k2]) (.int .i64 v) = some (RM (mset M (k, k2) v) :: H) :=
  amapset_at (κ := (Int × Int)) 0 M (k, k2) v rfl hm (keq_pairs hk) (by simp [keyOK, hk, enc_pair])
@[simp high] theorem alookup_pb0 (H : List Row) (M : List ((Int × Int) × Bool)) (k k2 : Int) (ok : Bool) (hm : isMapT P t = true) (hk : keyT P (mkey P t) = 2) (hz : zbox P (melem P t) = some (.bool false, 1)) : alookup P (RM M :: H) t (.mp 0) (.agg [.int .i64 k, .int .i64 k2]) ok = some (if ok then .tup [.bool ((mget M (k, k2)).getD false), .bool (mget M (k, k2)).isSome] else .bool ((mget M (k, k2)).getD false)) :=
  alookup_at (κ := (Int × Int)) 0 M (k, k2) ok false 1 rfl hm (keq_pairs hk) (by simp [keyOK, hk, enc_pair]) hz
@[simp high] theorem amapset_pb0 (H : List Row) (M : List ((Int × Int) × Bool)) (k k2 : Int) (v : Bool) (hm : isMapT P t = true) (hk : keyT P (mkey P t) = 2) : amapset P (RM M :: H) t (.mp 0) (.agg [.int .i64 k, .int .i64 k2]) (.bool v) = some (RM (mset M (k, k2) v) :: H) :=
  amapset_at (κ := (Int × Int)) 0 M (k, k2) v rfl hm (keq_pairs hk) (by simp [keyOK, hk, enc_pair])
@[simp high] theorem alookup_ii1 (r0 : Row) (H : List Row) (M : List (Int × Int)) (k : Int) (ok : Bool) (hm : isMapT P t = true) (hk : keyT P (mkey P t) = 1) (hz : zbox P (melem P t) = some (.int .i64 0, 8)) : alookup P (r0 :: RM M :: H) t (.mp 1) (.int .i64 k) ok = some (if ok then .tup [.int .i64 ((mget M k).getD 0), .bool (mget M k).isSome] else .int .i64 ((mget M k).getD 0)) :=
  alookup_at (κ := Int) 1 M k ok 0 8 rfl hm (keq_ints hk) (by simp [keyOK, hk]) hz
@[simp high] theorem amapset_ii1 (r0 : Row) (H : List Row) (M : List (Int × Int)) (k : Int) (v : Int) (hm : isMapT P t = true) (hk : keyT P (mkey P t) = 1) : amapset P (r0 :: RM M :: H) t (.mp 1) (.int .i64 k) (.int .i64 v) = some (r0 :: RM (mset M k v) :: H) :=
  amapset_at (κ := Int) 1 M k v rfl hm (keq_ints hk) (by simp [keyOK, hk])
@[simp high] theorem alookup_ib1 (r0 : Row) (H : List Row) (M : List (Int × Bool)) (k : Int) (ok : Bool) (hm : isMapT P t = true) (hk : keyT P (mkey P t) = 1) (hz : zbox P (melem P t) = some (.bool false, 1)) : alookup P (r0 :: RM M :: H) t (.mp 1) (.int .i64 k) ok = some (if ok then .tup [.bool ((mget M k).getD false), .bool (mget M k).isSome] else .bool ((mget M k).getD false)) :=
  alookup_at (κ := Int) 1 M k ok false 1 rfl hm (keq_ints hk) (by simp [keyOK, hk]) hz
@[simp high] theorem amapset_ib1 (r0 : Row) (H : List Row) (M : List (Int × Bool)) (k : Int) (v : Bool) (hm : isMapT P t = true) (hk : keyT P (mkey P t) = 1) : amapset P (r0 :: RM M :: H) t (.mp 1) (.int .i64 k) (.bool v) = some (r0 :: RM (mset M k v) :: H) :=
  amapset_at (κ := Int) 1 M k v rfl hm (keq_ints hk) (by simp [keyOK, hk])
@[simp high] theorem alookup_pi1 (r0 : Row) (H : List Row) (M : List ((Int × Int) × Int)) (k k2 : Int) (ok : Bool) (hm : isMapT P t = true) (hk : keyT P (mkey P t) = 2) (hz : zbox P (melem P t) = some (.int .i64 0, 8)) : alookup P (r0 :: RM M :: H) t (.mp 1) (.agg [.int .i64 k, .int .i64 k2]) ok = some (if ok then .tup [.int .i64 ((mget M (k, k2)).getD 0), .bool (mget M (k, k2)).isSome] else .int .i64 ((mget M (k, k2)).getD 0)) :=
  alookup_at (κ := (Int × Int)) 1 M (k, k2) ok 0 8 rfl hm (keq_pairs hk) (by simp [keyOK, hk, enc_pair]) hz
@[simp high] theorem amapset_pi1 (r0 : Row) (H : List Row) (M : List ((Int × Int) × Int)) (k k2 : Int) (v : Int) (hm : isMapT P t = true) (hk : keyT P (mkey P t) = 2) : amapset P (r0 :: RM M :: H) t (.mp 1) (.agg [.int .i64 k, .int .i64 k2]) (.int .i64 v) = some (r0 :: RM (mset M (k, k2) v) :: H) :=
  amapset_at (κ := (Int × Int)) 1 M (k, k2) v rfl hm (keq_pairs hk) (by simp [keyOK, hk, enc_pair])
@[simp high] theorem alookup_pb1 (r0 : Row) (H : List Row) (M : List ((Int × Int) × Bool)) (k k2 : Int) (ok : Bool) (hm : isMapT P t = true) (hk : keyT P (mkey P t) = 2) (hz : zbox P (melem P t) = some (.bool false, 1)) : alookup P (r0 :: RM M :: H) t (.mp 1) (.agg [.int .i64 k, .int .i64 k2]) ok = some (if ok then .tup [.bool ((mget M (k, k2)).getD false), .bool (mget M (k, k2)).isSome] else .bool ((mget M (k, k2)).getD false)) :=
  alookup_at (κ := (Int × Int)) 1 M (k, k2) ok false 1 rfl hm (keq_pairs hk) (by simp [keyOK, hk, enc_pair]) hz
@[simp high] theorem amapset_pb1 (r0 : Row) (H : List Row) (M : List ((Int × Int) × Bool)) (k k2 : Int) (v : Bool) (hm : isMapT P t = true) (hk : keyT P (mkey P t) = 2) : amapset P (r0 :: RM M :: H) t (.mp 1) (.agg [.int .i64 k, .int .i64 k2]) (.bool v) = some (r0 :: RM (mset M (k, k2) v) :: H) :=
  amapset_at (κ := (Int × Int)) 1 M (k, k2) v rfl hm (keq_pairs hk) (by simp [keyOK, hk, enc_pair])
@[simp high] theorem alookup_ii2 (r0 r1 : Row) (H : List Row) (M : List (Int × Int)) (k : Int) (ok : Bool) (hm : isMapT P t = true) (hk : keyT P (mkey P t) = 1) (hz : zbox P (melem P t) = some (.int .i64 0, 8)) : alookup P (r0 :: r1 :: RM M :: H) t (.mp 2) (.int .i64 k) ok = some (if ok then .tup [.int .i64 ((mget M k).getD 0), .bool (mget M k).isSome] else .int .i64 ((mget M k).getD 0)) :=
  alookup_at (κ := Int) 2 M k ok 0 8 rfl hm (keq_ints hk) (by simp [keyOK, hk]) hz
@[simp high] theorem amapset_ii2 (r0 r1 : Row) (H : List Row) (M : List (Int × Int)) (k : Int) (v : Int) (hm : isMapT P t = true) (hk : keyT P (mkey P t) = 1) : amapset P (r0 :: r1 :: RM M :: H) t (.mp 2) (.int .i64 k) (.int .i64 v) = some (r0 :: r1 :: RM (mset M k v) :: H) :=
  amapset_at (κ := Int) 2 M k v rfl hm (keq_ints hk) (by simp [keyOK, hk])
@[simp high] theorem alookup_ib2 (r0 r1 : Row) (H : List Row) (M : List (Int × Bool)) (k : Int) (ok : Bool) (hm : isMapT P t = true) (hk : keyT P (mkey P t) = 1) (hz : zbox P (melem P t) = some (.bool false, 1)) : alookup P (r0 :: r1 :: RM M :: H) t (.mp 2) (.int .i64 k) ok = some (if ok then .tup [.bool ((mget M k).getD false), .bool (mget M k).isSome] else .bool ((mget M k).getD false)) :=
  alookup_at (κ := Int) 2 M k ok false 1 rfl hm (keq_ints hk) (by simp [keyOK, hk]) hz
@[simp high] theorem amapset_ib2 (r0 r1 : Row) (H : List Row) (M : List (Int × Bool)) (k : Int) (v : Bool) (hm : isMapT P t = true) (hk : keyT P (mkey P t) = 1) : amapset P (r0 :: r1 :: RM M :: H) t (.mp 2) (.int .i64 k) (.bool v) = some (r0 :: r1 :: RM (mset M k v) :: H) :=
  amapset_at (κ := Int) 2 M k v rfl hm (keq_ints hk) (by simp [keyOK, hk])
@[simp high] theorem alookup_pi2 (r0 r1 : Row) (H : List Row) (M : List ((Int × Int) × Int)) (k k2 : Int) (ok : Bool) (hm : isMapT P t = true) (hk : keyT P (mkey P t) = 2) (hz : zbox P (melem P t) = some (.int .i64 0, 8)) : alookup P (r0 :: r1 :: RM M :: H) t (.mp 2) (.agg [.int .i64 k, .int .i64 k2]) ok = some (if ok then .tup [.int .i64 ((mget M (k, k2)).getD 0), .bool (mget M (k, k2)).isSome] else .int .i64 ((mget M (k, k2)).getD 0)) :=
  alookup_at (κ := (Int × Int)) 2 M (k, k2) ok 0 8 rfl hm (keq_pairs hk) (by simp [keyOK, hk, enc_pair]) hz
@[simp high] theorem amapset_pi2 (r0 r1 : Row) (H : List Row) (M : List ((Int × Int) × Int)) (k k2 : Int) (v : Int) (hm : isMapT P t = true) (hk : keyT P (mkey P t) = 2) : amapset P (r0 :: r1 :: RM M :: H) t (.mp 2) (.agg [.int .i64 k, .int .i64 k2]) (.int .i64 v) = some (r0 :: r1 :: RM (mset M (k, k2) v) :: H) :=
  amapset_at (κ := (Int × Int)) 2 M (k, k2) v rfl hm (keq_pairs hk) (by simp [keyOK, hk, enc_pair])
@[simp high] theorem alookup_pb2 (r0 r1 : Row) (H : List Row) (M : List ((Int × Int) × Bool)) (k k2 : Int) (ok : Bool) (hm : isMapT P t = true) (hk : keyT P (mkey P t) = 2) (hz : zbox P (melem P t) = some (.bool false, 1)) : alookup P (r0 :: r1 :: RM M :: H) t (.mp 2) (.agg [.int .i64 k, .int .i64 k2]) ok = some (if ok then .tup [.bool ((mget M (k, k2)).getD false), .bool (mget M (k, k2)).isSome] else .bool ((mget M (k, k2)).getD false)) :=
  alookup_at (κ := (Int × Int)) 2 M (k, k2) ok false 1 rfl hm (keq_pairs hk) (by simp [keyOK, hk, enc_pair]) hz
@[simp high] theorem amapset_pb2 (r0 r1 : Row) (H : List Row) (M : List ((Int × Int) × Bool)) (k k2 : Int) (v : Bool) (hm : isMapT P t = true) (hk : keyT P (mkey P t) = 2) : amapset P (r0 :: r1 :: RM M :: H) t (.mp 2) (.agg [.int .i64 k, .int .i64 k2]) (.bool v) = some (r0 :: r1 :: RM (mset M (k, k2) v) :: H) :=
  amapset_at (κ := (Int × Int)) 2 M (k, k2) v rfl hm (keq_pairs hk) (by simp [keyOK, hk, enc_pair])
@[simp high] theorem alookup_ii3 (r0 r1 r2 : Row) (H : List Row) (M : List (Int × Int)) (k : Int) (ok : Bool) (hm : isMapT P t = true) (hk : keyT P (mkey P t) = 1) (hz : zbox P (melem P t) = some (.int .i64 0, 8)) : alookup P (r0 :: r1 :: r2 :: RM M :: H) t (.mp 3) (.int .i64 k) ok = some (if ok then .tup [.int .i64 ((mget M k).getD 0), .bool (mget M k).isSome] else .int .i64 ((mget M k).getD 0)) :=
  alookup_at (κ := Int) 3 M k ok 0 8 rfl hm (keq_ints hk) (by simp [keyOK, hk]) hz
@[simp high] theorem amapset_ii3 (r0 r1 r2 : Row) (H : List Row) (M : List (Int × Int)) (k : Int) (v : Int) (hm : isMapT P t = true) (hk : keyT P (mkey P t) = 1) : amapset P (r0 :: r1 :: r2 :: RM M :: H) t (.mp 3) (.int .i64 k) (.int .i64 v) = some (r0 :: r1 :: r2 :: RM (mset M k v) :: H) :=
  amapset_at (κ := Int) 3 M k v rfl hm (keq_ints hk) (by simp [keyOK, hk])
@[simp high] theorem alookup_ib3 (r0 r1 r2 : Row) (H : List Row) (M : List (Int × Bool)) (k : Int) (ok : Bool) (hm : isMapT P t = true) (hk : keyT P (mkey P t) = 1) (hz : zbox P (melem P t) = some (.bool false, 1)) : alookup P (r0 :: r1 :: r2 :: RM M :: H) t (.mp 3) (.int .i64 k) ok = some (if ok then .tup [.bool ((mget M k).getD false), .bool (mget M k).isSome] else .bool ((mget M k).getD false)) :=
  alookup_at (κ := Int) 3 M k ok false 1 rfl hm (keq_ints hk) (by simp [keyOK, hk]) hz
@[simp high] theorem amapset_ib3 (r0 r1 r2 : Row) (H : List Row) (M : List (Int × Bool)) (k : Int) (v : Bool) (hm : isMapT P t = true) (hk : keyT P (mkey P t) = 1) : amapset P (r0 :: r1 :: r2 :: RM M :: H) t (.mp 3) (.int .i64 k) (.bool v) = some (r0 :: r1 :: r2 :: RM (mset M k v) :: H) :=
  amapset_at (κ := Int) 3 M k v rfl hm (keq_ints hk) (by simp [keyOK, hk])
@[simp high] theorem alookup_pi3 (r0 r1 r2 : Row) (H : List Row) (M : List ((Int × Int) × Int)) (k k2 : Int) (ok : Bool) (hm : isMapT P t = true) (hk : keyT P (mkey P t) = 2) (hz : zbox P (melem P t) = some (.int .i64 0, 8)) : alookup P (r0 :: r1 :: r2 :: RM M :: H) t (.mp 3) (.agg [.int .i64 k, .int .i64 k2]) ok = some (if ok then .tup [.int .i64 ((mget M (k, k2)).getD 0), .bool (mget M (k, k2)).isSome] else .int .i64 ((mget M (k, k2)).getD 0)) :=
  alookup_at (κ := (Int × Int)) 3 M (k, k2) ok 0 8 rfl hm (keq_pairs hk) (by simp [keyOK, hk, enc_pair]) hz
@[simp high] theorem amapset_pi3 (r0 r1 r2 : Row) (H : List Row) (M : List ((Int × Int) × Int)) (k k2 : Int) (v : Int) (hm : isMapT P t = true) (hk : keyT P (mkey P t) = 2) : amapset P (r0 :: r1 :: r2 :: RM M :: H) t (.mp 3) (.agg [.int .i64 k, .int .i64 k2]) (.int .i64 v) = some (r0 :: r1 :: r2 :: RM (mset M (k, k2) v) :: H) :=
  amapset_at (κ := (Int × Int)) 3 M (k, k2) v rfl hm (keq_pairs hk) (by simp [keyOK, hk, enc_pair])
@[simp high] theorem alookup_pb3 (r0 r1 r2 : Row) (H : List Row) (M : List ((Int × Int) × Bool)) (k k2 : Int) (ok : Bool) (hm : isMapT P t = true) (hk : keyT P (mkey P t) = 2) (hz : zbox P (melem P t) = some (.bool false, 1)) : alookup P (r0 :: r1 :: r2 :: RM M :: H) t (.mp 3) (.agg [.int .i64 k, .int .i64 k2]) ok = some (if ok then .tup [.bool ((mget M (k, k2)).getD false), .bool (mget M (k, k2)).isSome] else .bool ((mget M (k, k2)).getD false)) :=
  alookup_at (κ := (Int × Int)) 3 M (k, k2) ok false 1 rfl hm (keq_pairs hk) (by simp [keyOK, hk, enc_pair]) hz
@[simp high] theorem amapset_pb3 (r0 r1 r2 : Row) (H : List Row) (M : List ((Int × Int) × Bool)) (k k2 : Int) (v : Bool) (hm : isMapT P t = true) (hk : keyT P (mkey P t) = 2) : amapset P (r0 :: r1 :: r2 :: RM M :: H) t (.mp 3) (.agg [.int .i64 k, .int .i64 k2]) (.bool v) = some (r0 :: r1 :: r2 :: RM (mset M (k, k2) v) :: H) :=
  amapset_at (κ := (Int × Int)) 3 M (k, k2) v rfl hm (keq_pairs hk) (by simp [keyOK, hk, enc_pair])
@[simp high] theorem alookup_ii4 (r0 r1 r2 r3 : Row) (H : List Row) (M : List (Int × Int)) (k : Int) (ok : Bool) (hm : isMapT P t = true) (hk : keyT P (mkey P t) = 1) (hz : zbox P (melem P t) = some (.int .i64 0, 8)) : alookup P (r0 :: r1 :: r2 :: r3 :: RM M :: H) t (.mp 4) (.int .i64 k) ok = some (if ok then .tup [.int .i64 ((mget M k).getD 0), .bool (mget M k).isSome] else .int .i64 ((mget M k).getD 0)) :=
  alookup_at (κ := Int) 4 M k ok 0 8 rfl hm (keq_ints hk) (by simp [keyOK, hk]) hz
@[simp high] theorem amapset_ii4 (r0 r1 r2 r3 : Row) (H : List Row) (M : List (Int × Int)) (k : Int) (v : Int) (hm : isMapT P t = true) (hk : keyT P (mkey P t) = 1) : amapset P (r0 :: r1 :: r2 :: r3 :: RM M :: H) t (.mp 4) (.int .i64 k) (.int .i64 v) = some (r0 :: r1 :: r2 :: r3 :: RM (mset M k v) :: H) :=
  amapset_at (κ := Int) 4 M k v rfl hm (keq_ints hk) (by simp [keyOK, hk])
@[simp high] theorem alookup_ib4 (r0 r1 r2 r3 : Row) (H : List Row) (M : List (Int × Bool)) (k : Int) (ok : Bool) (hm : isMapT P t = true) (hk : keyT P (mkey P t) = 1) (hz : zbox P (melem P t) = some (.bool false, 1)) : alookup P (r0 :: r1 :: r2 :: r3 :: RM M :: H) t (.mp 4) (.int .i64 k) ok = some (if ok then .tup [.bool ((mget M k).getD false), .bool (mget M k).isSome] else .bool ((mget M k).getD false)) :=
  alookup_at (κ := Int) 4 M k ok false 1 rfl hm (keq_ints hk) (by simp [keyOK, hk]) hz
@[simp high] theorem amapset_ib4 (r0 r1 r2 r3 : Row) (H : List Row) (M : List (Int × Bool)) (k : Int) (v : Bool) (hm : isMapT P t = true) (hk : keyT P (mkey P t) = 1) : amapset P (r0 :: r1 :: r2 :: r3 :: RM M :: H) t (.mp 4) (.int .i64 k) (.bool v) = some (r0 :: r1 :: r2 :: r3 :: RM (mset M k v) :: H) :=
  amapset_at (κ := Int) 4 M k v rfl hm (keq_ints hk) (by simp [keyOK, hk])
@[simp high] theorem alookup_pi4 (r0 r1 r2 r3 : Row) (H : List Row) (M : List ((Int × Int) × Int)) (k k2 : Int) (ok : Bool) (hm : isMapT P t = true) (hk : keyT P (mkey P t) = 2) (hz : zbox P (melem P t) = some (.int .i64 0, 8)) : alookup P (r0 :: r1 :: r2 :: r3 :: RM M :: H) t (.mp 4) (.agg [.int .i64 k, .int .i64 k2]) ok = some (if ok then .tup [.int .i64 ((mget M (k, k2)).getD 0), .bool (mget M (k, k2)).isSome] else .int .i64 ((mget M (k, k2)).getD 0)) :=
  alookup_at (κ := (Int × Int)) 4 M (k, k2) ok 0 8 rfl hm (keq_pairs hk) (by simp [keyOK, hk, enc_pair]) hz
@[simp high] theorem amapset_pi4 (r0 r1 r2 r3 : Row) (H : List Row) (M : List ((Int × Int) × Int)) (k k2 : Int) (v : Int) (hm : isMapT P t = true) (hk : keyT P (mkey P t) = 2) : amapset P (r0 :: r1 :: r2 :: r3 :: RM M :: H) t (.mp 4) (.agg [.int .i64 k, .int .i64 k2]) (.int .i64 v) = some (r0 :: r1 :: r2 :: r3 :: RM (mset M (k, k2) v) :: H) :=
  amapset_at (κ := (Int × Int)) 4 M (k, k2) v rfl hm (keq_pairs hk) (by simp [keyOK, hk, enc_pair])
@[simp high] theorem alookup_pb4 (r0 r1 r2 r3 : Row) (H : List Row) (M : List ((Int × Int) × Bool)) (k k2 : Int) (ok : Bool) (hm : isMapT P t = true) (hk : keyT P (mkey P t) = 2) (hz : zbox P (melem P t) = some (.bool false, 1)) : alookup P (r0 :: r1 :: r2 :: r3 :: RM M :: H) t (.mp 4) (.agg [.int .i64 k, .int .i64 k2]) ok = some (if ok then .tup [.bool ((mget M (k, k2)).getD false), .bool (mget M (k, k2)).isSome] else .bool ((mget M (k, k2)).getD false)) :=
  alookup_at (κ := (Int × Int)) 4 M (k, k2) ok false 1 rfl hm (keq_pairs hk) (by simp [keyOK, hk, enc_pair]) hz
@[simp high] theorem amapset_pb4 (r0 r1 r2 r3 : Row) (H : List Row) (M : List ((Int × Int) × Bool)) (k k2 : Int) (v : Bool) (hm : isMapT P t = true) (hk : keyT P (mkey P t) = 2) : amapset P (r0 :: r1 :: r2 :: r3 :: RM M :: H) t (.mp 4) (.agg [.int .i64 k, .int .i64 k2]) (.bool v) = some (r0 :: r1 :: r2 :: r3 :: RM (mset M (k, k2) v) :: H) :=
  amapset_at (κ := (Int × Int)) 4 M (k, k2) v rfl hm (keq_pairs hk) (by simp [keyOK, hk, enc_pair])
@[simp high] theorem alookup_ii5 (r0 r1 r2 r3 r4 : Row) (H : List Row) (M : List (Int × Int)) (k : Int) (ok : Bool) (hm : isMapT P t = true) (hk : keyT P (mkey P t) = 1) (hz : zbox P (melem P t) = some (.int .i64 0, 8)) : alookup P (r0 :: r1 :: r2 :: r3 :: r4 :: RM M :: H) t (.mp 5) (.int .i64 k) ok = some (if ok then .tup [.int .i64 ((mget M k).getD 0), .bool (mget M k).isSome] else .int .i64 ((mget M k).getD 0)) :=
  alookup_at (κ := Int) 5 M k ok 0 8 rfl hm (keq_ints hk) (by simp [keyOK, hk]) hz
@[simp high] theorem amapset_ii5 (r0 r1 r2 r3 r4 : Row) (H : List Row) (M : List (Int × Int)) (k : Int) (v : Int) (hm : isMapT P t = true) (hk : keyT P (mkey P t) = 1) : amapset P (r0 :: r1 :: r2 :: r3 :: r4 :: RM M :: H) t (.mp 5) (.int .i64 k) (.int .i64 v) = some (r0 :: r1 :: r2 :: r3 :: r4 :: RM (mset M k v) :: H) :=
  amapset_at (κ := Int) 5 M k v rfl hm (keq_ints hk) (by simp [keyOK, hk])
@[simp high] theorem alookup_ib5 (r0 r1 r2 r3 r4 : Row) (H : List Row) (M : List (Int × Bool)) (k : Int) (ok : Bool) (hm : isMapT P t = true) (hk : keyT P (mkey P t) = 1) (hz : zbox P (melem P t) = some (.bool false, 1)) : alookup P (r0 :: r1 :: r2 :: r3 :: r4 :: RM M :: H) t (.mp 5) (.int .i64 k) ok = some (if ok then .tup [.bool ((mget M k).getD false), .bool (mget M k).isSome] else .bool ((mget M k).getD false)) :=
  alookup_at (κ := Int) 5 M k ok false 1 rfl hm (keq_ints hk) (by simp [keyOK, hk]) hz
@[simp high] theorem amapset_ib5 (r0 r1 r2 r3 r4 : Row) (H : List Row) (M : List (Int × Bool)) (k : Int) (v : Bool) (hm : isMapT P t = true) (hk : keyT P (mkey P t) = 1) : amapset P (r0 :: r1 :: r2 :: r3 :: r4 :: RM M :: H) t (.mp 5) (.int .i64 k) (.bool v) = some (r0 :: r1 :: r2 :: r3 :: r4 :: RM (mset M k v) :: H) :=
  amapset_at (κ := Int) 5 M k v rfl hm (keq_ints hk) (by simp [keyOK, hk])
@[simp high] theorem alookup_pi5 (r0 r1 r2 r3 r4 : Row) (H : List Row) (M : List ((Int × Int) × Int)) (k k2 : Int) (ok : Bool) (hm : isMapT P t = true) (hk : keyT P (mkey P t) = 2) (hz : zbox P (melem P t) = some (.int .i64 0, 8)) : alookup P (r0 :: r1 :: r2 :: r3 :: r4 :: RM M :: H) t (.mp 5) (.agg [.int .i64 k, .int .i64 k2]) ok = some (if ok then .tup [.int .i64 ((mget M (k, k2)).getD 0), .bool (mget M (k, k2)).isSome] else .int .i64 ((mget M (k, k2)).getD 0)) :=
  alookup_at (κ := (Int × Int)) 5 M (k, k2) ok 0 8 rfl hm (keq_pairs hk) (by simp [keyOK, hk, enc_pair]) hz
@[simp high] theorem amapset_pi5 (r0 r1 r2 r3 r4 : Row) (H : List Row) (M : List ((Int × Int) × Int)) (k k2 : Int) (v : Int) (hm : isMapT P t = true) (hk : keyT P (mkey P t) = 2) : amapset P (r0 :: r1 :: r2 :: r3 :: r4 :: RM M :: H) t (.mp 5) (.agg [.int .i64 k, .int .i64 k2]) (.int .i64 v) = some (r0 :: r1 :: r2 :: r3 :: r4 :: RM (mset M (k, k2) v) :: H) :=
  amapset_at (κ := (Int × Int)) 5 M (k, k2) v rfl hm (keq_pairs hk) (by simp [keyOK, hk, enc_pair])
@[simp high] theorem alookup_pb5 (r0 r1 r2 r3 r4 : Row) (H : List Row) (M : List ((Int × Int) × Bool)) (k k2 : Int) (ok : Bool) (hm : isMapT P t = true) (hk : keyT P (mkey P t) = 2) (hz : zbox P (melem P t) = some (.bool false, 1)) : alookup P (r0 :: r1 :: r2 :: r3 :: r4 :: RM M :: H) t (.mp 5) (.agg [.int .i64 k, .int .i64 k2]) ok = some (if ok then .tup [.bool ((mget M (k, k2)).getD false), .bool (mget M (k, k2)).isSome] else .bool ((mget M (k, k2)).getD false)) :=
  alookup_at (κ := (Int × Int)) 5 M (k, k2) ok false 1 rfl hm (keq_pairs hk) (by simp [keyOK, hk, enc_pair]) hz
@[simp high] theorem amapset_pb5 (r0 r1 r2 r3 r4 : Row) (H : List Row) (M : List ((Int × Int) × Bool)) (k k2 : Int) (v : Bool) (hm : isMapT P t = true) (hk : keyT P (mkey P t) = 2) : amapset P (r0 :: r1 :: r2 :: r3 :: r4 :: RM M :: H) t (.mp 5) (.agg [.int .i64 k, .int .i64 k2]) (.bool v) = some (r0 :: r1 :: r2 :: r3 :: r4 :: RM (mset M (k, k2) v) :: H) :=
  amapset_at (κ := (Int × Int)) 5 M (k, k2) v rfl hm (keq_pairs hk) (by simp [keyOK, hk, enc_pair])
end
end Go.AL
/- An abstract layer over the walk, 22: small laws for loops and searches. No program in sight. -/
namespace Go.AL

theorem wrap_succ {k n : Nat} (h : k < n) (hn : n ≤ 9223372036854775807) : IntKind.i64.wrap ((k : Int) + 1) = ((k + 1 : Nat) : Int) := by
  rw [i64_id (by omega) (by omega)]; omega
theorem wrap_pred {k n : Nat} (h : k < n) (hn : n ≤ 9223372036854775807) : IntKind.i64.wrap ((k : Int) - 1) = (k : Int) - 1 := i64_id (by omega) (by omega)
theorem wrap_nat {k n : Nat} (h : k < n) (hn : n ≤ 9223372036854775807) : IntKind.i64.wrap (k : Int) = (k : Int) := i64_id (by omega) (by omega)
theorem take_succ_eq {α : Type} {a b : List α} {k : Nat} (ha : k < a.length) (hb : k < b.length) (e : a.take k = b.take k) (g : a[k] = b[k]) : a.take (k + 1) = b.take (k + 1) := by
  rw [List.take_succ_eq_append_getElem ha, List.take_succ_eq_append_getElem hb, e, g]
theorem ne_of_get {α : Type} {a b : List α} {k : Nat} (ha : k < a.length) (hb : k < b.length) (g : a[k] ≠ b[k]) : a ≠ b := by
  rintro rfl; exact g rfl
theorem eq_of_take {α : Type} {a b : List α} (hl : a.length = b.length) (e : a.take a.length = b.take a.length) : a = b := by
  rw [List.take_length, hl, List.take_length] at e; exact e

theorem leL_noid {ids : List Nat} : ∀ {xs : List A}, noidL xs = true → leL ids xs xs := by
  intro xs
  have one : ∀ x : A, x.noid = true → leA ids x x := by
    intro x
    refine A.rec (motive_1 := fun x => x.noid = true → leA ids x x) (motive_2 := fun xs => noidL xs = true → leL ids xs xs) ?_ ?_ ?_ ?_ ?_ ?_ ?_ ?_ ?_ ?_ ?_ ?_ ?_ ?_ ?_ ?_ ?_ x
    all_goals (intros; simp_all [leA, leL, A.noid, noidL])
  induction xs with
  | nil => intro _; simp [leL]
  | cons x xs ih => intro h; simp [noidL] at h; simp [leL, one x h.1, ih h.2]

/-- The first place where p holds, or -1. -/
def idxZ {α : Type} (p : α → Bool) (l : List α) : Int := if l.findIdx p < l.length then (l.findIdx p : Int) else -1
theorem idxZ_at {α : Type} {p : α → Bool} {l : List α} {k : Nat} (hk : k < l.length) (g : p l[k] = true) (hb : ∀ j (hj : j < l.length), j < k → p l[j] = false) : idxZ p l = k := by
  have : l.findIdx p = k := (List.findIdx_eq hk).2 ⟨g, fun j hj => hb j (by omega) hj⟩
  simp [idxZ, this, hk]
theorem idxZ_no {α : Type} {p : α → Bool} {l : List α} (hb : ∀ j (hj : j < l.length), p l[j] = false) : idxZ p l = -1 := by
  have : l.findIdx p = l.length := List.findIdx_eq_length.2 fun x hx => by
    obtain ⟨j, hj, rfl⟩ := List.mem_iff_getElem.1 hx
    exact hb j hj
  simp [idxZ, this]
theorem idxZ_nonneg {α : Type} {p : α → Bool} {l : List α} : (0 ≤ idxZ p l) = (l.any p = true) := by
  apply propext
  unfold idxZ
  rw [List.any_eq_true]
  split
  · rename_i h
    exact ⟨fun _ => by obtain ⟨x, hx, hp⟩ := List.findIdx_lt_length.1 h; exact ⟨x, hx, hp⟩, fun _ => by omega⟩
  · rename_i h
    exact ⟨fun h0 => by omega, fun ⟨x, hx, hp⟩ => absurd (List.findIdx_lt_length.2 ⟨x, hx, hp⟩) h⟩
theorem step_no {α : Type} {p : α → Bool} {l : List α} {k : Nat} (hinv : ∀ j (hj : j < l.length), j < k → p l[j] = false) (hk : k < l.length) (g : p l[k] = false) : ∀ j (hj : j < l.length), j < k + 1 → p l[j] = false := by
  intro j hj hjk
  rcases Nat.lt_or_ge j k with h1 | h1
  · exact hinv j hj h1
  · have : j = k := by omega
    subst this; exact g
theorem step_all {α : Type} {p : α → Bool} {l : List α} {k : Nat} (hinv : ∀ j (hj : j < l.length), j < k → p l[j] = true) (hk : k < l.length) (g : p l[k] = true) : ∀ j (hj : j < l.length), j < k + 1 → p l[j] = true := by
  intro j hj hjk
  rcases Nat.lt_or_ge j k with h1 | h1
  · exact hinv j hj h1
  · have : j = k := by omega
    subst this; exact g
theorem all_yes {α : Type} {p : α → Bool} {l : List α} (hb : ∀ j (hj : j < l.length), p l[j] = true) : l.all p = true := by
  refine List.all_eq_true.2 fun x hx => ?_
  obtain ⟨j, hj, rfl⟩ := List.mem_iff_getElem.1 hx
  exact hb j hj
theorem any_no {α : Type} {p : α → Bool} {l : List α} (hb : ∀ j (hj : j < l.length), p l[j] = false) : l.any p = false := by
  rw [Bool.eq_false_iff]
  intro h
  obtain ⟨x, hx, hp⟩ := List.any_eq_true.1 h
  obtain ⟨j, hj, rfl⟩ := List.mem_iff_getElem.1 hx
  rw [hb j hj] at hp; cases hp
theorem any_at {α : Type} {p : α → Bool} {l : List α} {k : Nat} (hk : k < l.length) (g : p l[k] = true) : l.any p = true := List.any_eq_true.2 ⟨_, List.getElem_mem hk, g⟩
theorem any_dec {α : Type} {p : α → Bool} {l : List α} : decide (∃ x, x ∈ l ∧ p x = true) = l.any p := by
  rw [Bool.eq_iff_iff]; simp

/-- The numbers of a fresh array. -/
def zerosI (n : Nat) : List Int := List.replicate n 0
@[simp] theorem zerosI_len (n : Nat) : (zerosI n).length = n := List.length_replicate
theorem zerosI_get {n i : Nat} (h : i < n) : (zerosI n)[i]? = some 0 := by unfold zerosI; rw [List.getElem?_replicate, if_pos h]
end Go.AL
/- An abstract layer over the walk, 22: a call that works on one live row; the caller's other rows stay. No program in sight. -/
namespace Go.AL

/-- The result of such a call, in the caller's numbers. -/
def reA (id : Nat) : A → A
  | .own 0 off len c ex => .own id off len c ex
  | x => x
def frmd : A → Bool
  | .own 0 _ _ _ _ => true
  | x => x.noid
theorem reA_or (id : Nat) (r : A) (h : frmd r = true) : (∃ off len c ex, r = .own 0 off len c ex ∧ reA id r = .own id off len c ex) ∨ (r.noid = true ∧ reA id r = r) := by
  unfold frmd at h
  split at h
  · exact .inl ⟨_, _, _, _, rfl, rfl⟩
  · rename_i x hx
    refine .inr ⟨h, ?_⟩
    unfold reA
    split
    · rename_i off len c ex
      exact (hx off len c ex rfl).elim
    · rfl
theorem dead_get {k i : Nat} {r : Row} (h : (List.replicate k dead0)[i]? = some r) : r.live = false := by
  rw [List.getElem?_replicate] at h
  split at h
  · cases h; rfl
  · cases h
theorem cons_get {r1 : Row} {k i : Nat} {r : Row} (h : (r1 :: List.replicate k dead0)[i]? = some r) (hl : r.live = true) : i = 0 ∧ r = r1 := by
  cases i with
  | zero => simp at h; exact ⟨rfl, h.symm⟩
  | succ i =>
    simp only [List.getElem?_cons_succ] at h
    rw [dead_get h] at hl; cases hl

/-- A call by a contract on one row. -/
theorem xcall_frame {P : Program} {f : FuncId} {args args' : List A} {H : List Row} {r0 : Row} {R : A → Row → Prop} {K : A → List Row → Prop} (id : Nat)
    (h : XCall P f args' [r0] fun r H' => ∃ r1 k, H' = r1 :: List.replicate k dead0 ∧ (r1.live = true → r0.live = true) ∧ noidL r1.es = true ∧ frmd r = true ∧ R r r1)
    (hr : H[id]? = some r0) (hes : noidL r0.es = true) (ha : leL [id] args args') (hah : hasRL 1 args') (hK : ∀ r r1, R r r1 → K (reA id r) (H.set id r1)) : XCall P f args H K := by
  refine ⟨h.1, fun w F0 μ vs hs hl => ?_⟩
  have hid : id < H.length := (List.getElem?_eq_some_iff.1 hr).1
  have hidμ : id < μ.length := by rw [hs.len]; exact hid
  obtain ⟨⟨b0, bs0⟩, hμ⟩ : ∃ p, μ[id]? = some p := ⟨_, List.getElem?_eq_getElem hidμ⟩
  have hrn : rnMu μ [id] = [(b0, bs0)] := by
    simp only [rnMu, List.map_cons, List.map_nil]
    rw [List.getD_eq_getElem?_getD, hμ]; rfl
  -- the cells of the others
  let F1 : Fz := fun b o => Ft F0 μ H b o ∧ ¬ (r0.live = true ∧ b = b0)
  have fsub : ∀ b o, Ft F1 [(b0, bs0)] [r0] b o → Ft F0 μ H b o := by
    rintro b o (hf | ⟨i, r, bs, h1, h2, h3, h4⟩)
    · exact hf.1
    · cases i with
      | zero =>
        simp at h1 h3
        obtain ⟨rfl, rfl⟩ := h3
        subst h1
        exact .inr ⟨id, r0, bs0, hr, h2, hμ, h4⟩
      | succ i => simp at h1
  have hs1 : HS P w F1 [(b0, bs0)] [r0] := by
    refine ⟨rfl, fun b o hf => hs.lt hf.1, ?_, ?_, ?_⟩
    · intro i r b bs h1 h2 h3
      cases i with
      | succ i => simp at h1
      | zero =>
        simp at h1 h3
        obtain ⟨rfl, rfl⟩ := h3
        subst h1
        have hA : Adv w (Ft F0 μ H) w (Ft F1 [(b0, bs0)] [r0]) := ⟨rfl, rfl, rfl, Nat.le_refl _, fun _ _ _ h _ => h, fun b o _ h => fsub b o h, fun _ _ _ h => h, fun _ _ _ => rfl⟩
        rcases hs.row id r0 b0 bs0 hr h2 hμ with ⟨cur, c1, c2, c3, c4, c5⟩ | hm
        · refine .inl ⟨cur, c1, c2, c3, c4, fun k e he => ?_⟩
          obtain ⟨g1, V, g2, g3⟩ := c5 k e he
          exact ⟨g1, V, (g2.noid (noidL_get hes k e he)).adv hA (List.nil_prefix), g3⟩
        · exact .inr (hm.adv hA rfl)
    · intro i j r r' b bs bs' h1 _ h3 _ _ _
      cases i with
      | succ i => simp at h1
      | zero => cases j with
        | succ j => simp at h3
        | zero => rfl
    · intro i r b bs o h1 h2 h3 hf
      cases i with
      | succ i => simp at h1
      | zero =>
        simp at h1 h3
        subst h1
        exact hf.2 ⟨h2, h3.1.symm⟩
  have hl1 : RepL P w (Ft F1 [(b0, bs0)] [r0]) [(b0, bs0)] args' vs := by
    obtain ⟨g1, g2⟩ := RepL.get hl
    refine RepL.ofget (by rw [g1]; exact (leL_len ha).symm) fun i c u hc hu => ?_
    obtain ⟨x, hx, hle⟩ := leL_get ha i c hc
    have := rep_ren (g2 i x u hx hu) hle (hasRL_get hah i c hc)
    rw [hrn] at this
    exact this.mono (fun b o _ hf => fsub b o hf) (List.prefix_refl _)
  refine (h.2 w F1 [(b0, bs0)] vs hs1 hl1).mono ?_
  rintro e w' ⟨v, r, H', rfl, ⟨r1, k, rfl, hlive, hnid, hfr, hR⟩, μ', h1, h2, h3, h4⟩
  have hμ0 : μ'[0]? = some (b0, bs0) := get_prefix h3 rfl
  -- the row itself, as the callee has left it
  have hF1 : ∀ b o, Fof [(b0, bs0)] [r0] b o → Fof μ H b o ∧ b = b0 := by
    rintro b o ⟨i, r, bs, g1, g2, g3, g4⟩
    cases i with
    | succ i => simp at g1
    | zero =>
      simp at g1 g3
      obtain ⟨rfl, rfl⟩ := g3
      subst g1
      exact ⟨⟨id, r0, bs0, hr, g2, hμ, g4⟩, rfl⟩
  have other : ∀ (i : Nat) (r : Row) (b bs : Nat), H[i]? = some r → r.live = true → μ[i]? = some (b, bs) → i ≠ id → ¬ (r0.live = true ∧ b = b0) := by
    rintro i r b bs g1 g2 g3 g4 ⟨g5, rfl⟩
    exact g4 (hs.inj i id r r0 b bs bs0 g1 g2 hr g5 g3 hμ)
  have get2 : ∀ (i : Nat) (r : Row), (H.set id r1)[i]? = some r → (i = id ∧ r = r1) ∨ (i ≠ id ∧ H[i]? = some r) := by
    intro i r g
    rw [List.getElem?_set] at g
    by_cases e : id = i
    · rw [if_pos e, if_pos hid] at g
      cases g
      exact .inl ⟨e.symm, rfl⟩
    · rw [if_neg e] at g
      exact .inr ⟨fun h => e h.symm, g⟩
  have sub2 : ∀ b o, Ft F0 μ (H.set id r1) b o → Ft F1 μ' (r1 :: List.replicate k dead0) b o := by
    rintro b o (hf | ⟨i, r, bs, g1, g2, g3, g4⟩)
    · exact .inl ⟨.inl hf, fun ⟨g5, g6⟩ => hs.sep id r0 b0 bs0 o hr g5 hμ (by rw [← g6]; exact hf)⟩
    · rcases get2 i r g1 with ⟨rfl, rfl⟩ | ⟨gi, g5⟩
      · rw [hμ] at g3; cases g3
        exact .inr ⟨0, r, _, rfl, g2, hμ0, g4⟩
      · exact .inl ⟨.inr ⟨i, r, bs, g5, g2, g3, g4⟩, other i r b bs g5 g2 g3 gi⟩
  have mono2 : ∀ b o, b < w.heap.size → Fof μ (H.set id r1) b o → Fof μ H b o := by
    rintro b o hb ⟨i, r, bs, g1, g2, g3, g4⟩
    rcases get2 i r g1 with ⟨rfl, rfl⟩ | ⟨gi, g5⟩
    · rw [hμ] at g3; cases g3
      exact (hF1 _ o (h2.mono _ o hb ⟨0, r, _, rfl, g2, hμ0, g4⟩)).1
    · exact ⟨i, r, bs, g5, g2, g3, g4⟩
  have hA : Adv w (Fof μ H) w' (Fof μ (H.set id r1)) :=
    ⟨h2.os, h2.tape, h2.output, h2.size, fun b o u hc hf => h2.cell b o u hc fun g => hf (hF1 b o g).1, mono2, h2.shape, fun b hb hf => h2.block b hb fun o g => hf o (hF1 b o g).1⟩
  have hB : Adv w' (Ft F1 μ' (r1 :: List.replicate k dead0)) w' (Ft F0 μ (H.set id r1)) :=
    ⟨rfl, rfl, rfl, Nat.le_refl _, fun _ _ _ h _ => h, fun b o _ h => sub2 b o h, fun _ _ _ h => h, fun _ _ _ => rfl⟩
  refine ⟨v, reA id r, H.set id r1, rfl, hK r r1 hR, μ, ?_, hA, List.prefix_refl _, ?_⟩
  · refine ⟨by rw [List.length_set]; exact hs.len, fun b o hf => Nat.lt_of_lt_of_le (hs.bound b o hf) h2.size, ?_, ?_, ?_⟩
    · intro i r b bs g1 g2 g3
      rcases get2 i r g1 with ⟨rfl, rfl⟩ | ⟨gi, g5⟩
      · rw [hμ] at g3; cases g3
        rcases h1.row 0 r _ _ rfl g2 hμ0 with ⟨cur, c1, c2, c3, c4, c5⟩ | hm
        · refine .inl ⟨cur, c1, c2, c3, c4, fun k e he => ?_⟩
          obtain ⟨q1, V, q2, q3⟩ := c5 k e he
          exact ⟨q1, V, (q2.noid (noidL_get hnid k e he)).adv hB (List.nil_prefix), q3⟩
        · exact .inr (hm.adv hB rfl)
      · have hb := hs.lt (b := b) (o := bs + r.f * r.sz) (.inr ⟨i, r, bs, g5, g2, g3, Nat.le_refl _⟩)
        have hne := other i r b bs g5 g2 g3 gi
        have hblk : w'.heap[b]? = w.heap[b]? := h2.block b hb fun o g => by
          obtain ⟨⟨j, rj, bj, j1, j2, j3, _⟩, g7⟩ := hF1 b o g
          obtain ⟨j', r', bs', q1, q2, q3, _⟩ := g
          cases j' with
          | succ j' => simp at q1
          | zero =>
            simp at q1
            subst q1
            exact hne ⟨q2, g7⟩
        rcases hs.row i r b bs g5 g2 g3 with hc | hm
        · exact .inl (hc.adv (hA.join F0) (List.prefix_refl _) hblk)
        · exact .inr (hm.adv (hA.join F0) hblk)
    · intro i j r r' b bs bs' g1 g2 g3 g4 g5 g6
      have flat : ∀ (i : Nat) (r : Row), (H.set id r1)[i]? = some r → r.live = true → ∃ r', H[i]? = some r' ∧ r'.live = true := by
        intro i r q1 q2
        rcases get2 i r q1 with ⟨rfl, rfl⟩ | ⟨_, q3⟩
        · exact ⟨r0, hr, hlive q2⟩
        · exact ⟨r, q3, q2⟩
      obtain ⟨s1, s2, s3⟩ := flat i r g1 g2
      obtain ⟨t1, t2, t3⟩ := flat j r' g3 g4
      exact hs.inj i j s1 t1 b bs bs' s2 s3 t2 t3 g5 g6
    · intro i r b bs o g1 g2 g3
      rcases get2 i r g1 with ⟨rfl, rfl⟩ | ⟨_, q3⟩
      · exact hs.sep i r0 b bs o hr (hlive g2) g3
      · exact hs.sep i r b bs o q3 g2 g3
  · rcases reA_or id r hfr with ⟨off, len, c, ex, rfl, e2⟩ | ⟨hn, e2⟩
    · rw [e2]
      cases h4 with
      | own _ id' off len cb ex b bs cap ty n hμ' hsh hfit hlen hcb hmax hex ao hat =>
        rw [hμ0] at hμ'; cases hμ'
        exact .own _ id off len _ ex _ _ cap ty n hμ hsh hfit hlen hcb hmax hex ao hat
      | ownn _ _ _ a => exact .ownn _ _ _ a
    · rw [e2]
      exact (h4.noid hn).adv hB (List.nil_prefix)

/-- The result of a call that is handed no row, in the caller's numbers. -/
def shA (n : Nat) : A → A
  | .own i off len c ex => .own (n + i) off len c ex
  | x => x
def frsh : A → Bool
  | .own _ _ _ _ _ => true
  | x => x.noid
theorem shA_or (n : Nat) (r : A) (h : frsh r = true) : (∃ i off len c ex, r = .own i off len c ex ∧ shA n r = .own (n + i) off len c ex) ∨ (r.noid = true ∧ shA n r = r) := by
  cases r with
  | own i off len c ex => exact .inl ⟨_, _, _, _, _, rfl, rfl⟩
  | _ => exact .inr ⟨h, rfl⟩

/-- A call by a contract that is handed no row: its own new rows come behind the caller's. -/
theorem xcall_fresh {P : Program} {f : FuncId} {args : List A} {H : List Row} {R : A → List Row → Prop} {K : A → List Row → Prop}
    (h : XCall P f args [] fun r L => (∀ x ∈ L, noidL x.es = true) ∧ frsh r = true ∧ R r L) (hn : noidL args = true) (hK : ∀ r L, R r L → K (shA H.length r) (H ++ L)) : XCall P f args H K := by
  refine ⟨h.1, fun w F0 μ vs hs hl => ?_⟩
  have hnil : ∀ b o, ¬ Fof ([] : Mu) [] b o := by rintro b o ⟨i, r, bs, h1, _⟩; simp at h1
  have hFt : Ft (Ft F0 μ H) [] [] = Ft F0 μ H := by funext b o; exact propext ⟨fun h => h.elim id fun h => (hnil b o h).elim, .inl⟩
  refine (h.2 w (Ft F0 μ H) [] vs (HS.nil fun b o hf => hs.lt hf) (by rw [hFt]; exact RepL.noid hn hl)).mono ?_
  rintro e w' ⟨v, r, L, rfl, ⟨hnid, hfr, hR⟩, μ', h1, h2, _, h4⟩
  have hlen := hs.len
  have hblk : ∀ b, b < w.heap.size → w'.heap[b]? = w.heap[b]? := fun b hb => h2.block b hb fun o => hnil b o
  have new : ∀ (i : Nat) (r : Row) (b bs : Nat), L[i]? = some r → r.live = true → μ'[i]? = some (b, bs) → ¬ b < w.heap.size := by
    intro i r b bs g1 g2 g3 hb
    exact hnil b _ (h2.mono b (bs + r.f * r.sz) hb ⟨i, r, bs, g1, g2, g3, Nat.le_refl _⟩)
  have get : ∀ (i : Nat) (r : Row) (p : Nat × Nat), (H ++ L)[i]? = some r → (μ ++ μ')[i]? = some p → (i < H.length ∧ H[i]? = some r ∧ μ[i]? = some p) ∨ (H.length ≤ i ∧ L[i - H.length]? = some r ∧ μ'[i - H.length]? = some p) := by
    intro i r p g1 g2
    rcases Nat.lt_or_ge i H.length with hi | hi
    · rw [List.getElem?_append_left hi] at g1
      rw [List.getElem?_append_left (by omega)] at g2
      exact .inl ⟨hi, g1, g2⟩
    · rw [List.getElem?_append_right hi] at g1
      rw [List.getElem?_append_right (by omega), hlen] at g2
      exact .inr ⟨hi, g1, g2⟩
  have sub : ∀ b o, Ft F0 (μ ++ μ') (H ++ L) b o → Ft (Ft F0 μ H) μ' L b o := by
    rintro b o (hf | ⟨i, r, bs, g1, g2, g3, g4⟩)
    · exact .inl (.inl hf)
    · rcases get i r _ g1 g3 with ⟨_, q1, q2⟩ | ⟨_, q1, q2⟩
      · exact .inl (.inr ⟨i, r, bs, q1, g2, q2, g4⟩)
      · exact .inr ⟨_, r, bs, q1, g2, q2, g4⟩
  have mono : ∀ b o, b < w.heap.size → Fof (μ ++ μ') (H ++ L) b o → Fof μ H b o := by
    rintro b o hb ⟨i, r, bs, g1, g2, g3, g4⟩
    rcases get i r _ g1 g3 with ⟨_, q1, q2⟩ | ⟨_, q1, q2⟩
    · exact ⟨i, r, bs, q1, g2, q2, g4⟩
    · exact (new _ r b bs q1 g2 q2 hb).elim
  have hA : Adv w (Fof μ H) w' (Fof (μ ++ μ') (H ++ L)) :=
    ⟨h2.os, h2.tape, h2.output, h2.size, fun b o u hc _ => h2.cell b o u hc (hnil b o), mono, h2.shape, fun b hb _ => hblk b hb⟩
  have hB : Adv w' (Ft (Ft F0 μ H) μ' L) w' (Ft F0 (μ ++ μ') (H ++ L)) :=
    ⟨rfl, rfl, rfl, Nat.le_refl _, fun _ _ _ h _ => h, fun b o _ h => sub b o h, fun _ _ _ h => h, fun _ _ _ => rfl⟩
  refine ⟨v, shA H.length r, H ++ L, rfl, hK r L hR, μ ++ μ', ?_, hA, List.prefix_append _ _, ?_⟩
  · refine ⟨by rw [List.length_append, List.length_append, hlen, h1.len], fun b o hf => Nat.lt_of_lt_of_le (hs.bound b o hf) h2.size, ?_, ?_, ?_⟩
    · intro i r b bs g1 g2 g3
      rcases get i r _ g1 g3 with ⟨hi, q1, q2⟩ | ⟨hi, q1, q2⟩
      · have hb := hblk b (hs.lt (o := bs + r.f * r.sz) (.inr ⟨i, r, bs, q1, g2, q2, Nat.le_refl _⟩))
        rcases hs.row i r b bs q1 g2 q2 with hc | hm
        · exact .inl (hc.adv (hA.join F0) (List.prefix_append _ _) hb)
        · exact .inr (hm.adv (hA.join F0) hb)
      · rcases h1.row _ r b bs q1 g2 q2 with ⟨cur, c1, c2, c3, c4, c5⟩ | hm
        · refine .inl ⟨cur, c1, c2, c3, c4, fun k e he => ?_⟩
          obtain ⟨p1, V, p2, p3⟩ := c5 k e he
          exact ⟨p1, V, (p2.noid (noidL_get (hnid r (List.mem_of_getElem? q1)) k e he)).adv hB (List.nil_prefix), p3⟩
        · exact .inr (hm.adv hB rfl)
    · intro i j r r' b bs bs' g1 g2 g3 g4 g5 g6
      rcases get i r _ g1 g5 with ⟨hi, q1, q2⟩ | ⟨hi, q1, q2⟩
      · rcases get j r' _ g3 g6 with ⟨hj, p1, p2⟩ | ⟨hj, p1, p2⟩
        · exact hs.inj i j r r' b bs bs' q1 g2 p1 g4 q2 p2
        · exact (new _ r' b bs' p1 g4 p2 (hs.lt (o := bs + r.f * r.sz) (.inr ⟨i, r, bs, q1, g2, q2, Nat.le_refl _⟩))).elim
      · rcases get j r' _ g3 g6 with ⟨hj, p1, p2⟩ | ⟨hj, p1, p2⟩
        · exact (new _ r b bs q1 g2 q2 (hs.lt (o := bs' + r'.f * r'.sz) (.inr ⟨j, r', bs', p1, g4, p2, Nat.le_refl _⟩))).elim
        · have := h1.inj _ _ r r' b bs bs' q1 g2 p1 g4 q2 p2
          omega
    · intro i r b bs o g1 g2 g3 hf
      rcases get i r _ g1 g3 with ⟨hi, q1, q2⟩ | ⟨hi, q1, q2⟩
      · exact hs.sep i r b bs o q1 g2 q2 hf
      · exact h1.sep _ r b bs o q1 g2 q2 (.inl hf)
  · rcases shA_or H.length r hfr with ⟨i, off, len, c, ex, rfl, e2⟩ | ⟨hn2, e2⟩
    · rw [e2]
      cases h4 with
      | own _ _ off len cb ex b bs cap ty n hμ' hsh hfit hlen' hcb hmax hex ao hat =>
        refine .own _ _ off len _ ex b bs cap ty n ?_ hsh hfit hlen' hcb hmax hex ao hat
        rw [List.getElem?_append_right (by omega), hlen, Nat.add_sub_cancel_left]
        exact hμ'
      | ownn _ _ _ a => exact .ownn _ _ _ a
    · rw [e2]
      exact (h4.noid hn2).adv hB (List.nil_prefix)

/-- A slice that holds the first elements of a row. -/
def RowCut {α : Type} [Enc α] (o : Option Row) (l : List α) : Prop := l = [] ∨ ∃ ty es f, o = some ⟨ty, Enc.sz α, es, f, true⟩ ∧ es.take l.length = l.map Enc.enc
@[simp 20000] theorem resA_cut {α : Type} [Enc α] {P : Program} {H : List Row} (id n c : Nat) (ex : Bool) (l : List α) (h : RowCut H[id]? l) : resA P H (n + 1) (.own id 0 l.length c ex) = some (Ls false l) := by
  unfold resA
  simp only [A.noid, Bool.false_eq_true, if_false]
  rcases h with rfl | ⟨ty, es, f, h1, h2⟩
  · rfl
  · by_cases h0 : l.length = 0
    · rw [if_pos h0, List.eq_nil_of_length_eq_zero h0]; rfl
    · rw [if_neg h0, h1]
      have hle : l.length ≤ es.length := by
        have := congrArg List.length h2
        simp at this; omega
      simp only [Option.bind_some, List.drop_zero, Nat.zero_add, h2, noidL_enc]
      simp [Ls, hle]
theorem noidL_replicate (a : A) (h : a.noid = true) : ∀ n : Nat, noidL (List.replicate n a) = true
  | 0 => rfl
  | n + 1 => by rw [List.replicate_succ]; simp only [noidL, h, noidL_replicate a h n, Bool.and_self]
@[simp] theorem noidL_RF {α : Type} [Enc α] (ty : TypeId) (l : List α) (f : Nat) : noidL (RF ty l f).es = true := by
  unfold RF
  split
  · rfl
  · exact noidL_enc l
/-- Nowhere, or at a first place. -/
theorem idxZ_or {α : Type} (p : α → Bool) (l : List α) : (idxZ p l = -1 ∧ ∀ x ∈ l, p x = false) ∨ ∃ i : Nat, idxZ p l = i ∧ ∃ hi : i < l.length, p l[i] = true ∧ ∀ j (hj : j < l.length), j < i → p l[j] = false := by
  by_cases hi : l.findIdx p < l.length
  · refine .inr ⟨l.findIdx p, by rw [idxZ, if_pos hi], hi, List.findIdx_getElem, fun j hj hji => ?_⟩
    have := List.not_of_lt_findIdx hji
    simpa using this
  · refine .inl ⟨by rw [idxZ, if_neg hi], fun x hx => ?_⟩
    have h1 : l.findIdx p = l.length := Nat.le_antisymm List.findIdx_le_length (by omega)
    have := List.findIdx_eq_length.1 h1 x hx
    simpa using this
end Go.AL
/- An abstract layer over the walk, 23: a call of a function without a body, by the model's own entry. No program in sight. -/
namespace Go.AL

theorem run_ext {P : Program} {fid : FuncId} {fn : Func} {e : Array Value → Sem Value} (hf : P.funcs[fid]? = some fn) (hname : (fn.name == "runtime.NumGoroutine") = false) (hb : fn.body.isNone = true) (hn : Extern.findNext fn = none) (he : Extern.find fn = some e)
    {a : Act} {as : Array Operand} {ts : Array TypeId} {v : Value} {w : World} (hv : (e (as.map a.eval)).run P w = .ok v w) (dst : Option Tmp) (type : TypeId) (pos : String) (aft : Array Edge) (g : Option (Nat × Bool)) :
    (execOp a.eval ⟨dst, .call ⟨.value (.func fid), as, ts⟩, type, pos, aft, g⟩).run P w = .ok (.value v) w := by
  have e1 : (#[] ++ Array.map a.eval as ++ #[] : Array Value) = as.map a.eval := by simp
  simp only [execOp, Sem.run_bind, resolve, Act.eval, Deferred.ofValue, Sem.run_pure, Result.andThen, invoke, e1]
  rw [run_callFunc_extern hf hname hb hn he, hv]
  rfl

/-- One operation: what it yields is told by the entry. -/
theorem alist_ext {P : Program} {X : Ctx} {ops : Array Oper} {Q : AX → S → Prop} {rest : List Oper} {s : S} {dst : Option Tmp} {type : TypeId} {pos : String} {aft : Array Edge} {as : Array Operand} {ts : Array TypeId} {fid : FuncId} {fn : Func} {e : Array Value → Sem Value} (r : A)
    (hf : P.funcs[fid]? = some fn) (hname : (fn.name == "runtime.NumGoroutine") = false) (hb : fn.body.isNone = true) (hn : Extern.findNext fn = none) (he : Extern.find fn = some e)
    (hx : ∀ (a : Act) (w : World) (μ : Mu), Sim P X s a w μ → ∃ v, (e (as.map a.eval)).run P w = .ok v w ∧ Rep P w (Ft X.F0 μ s.h) μ r v)
    (hK : alist P X ops Q rest ⟨put s.t dst r, s.h⟩) : alist P X ops Q (⟨dst, .call ⟨.value (.func fid), as, ts⟩, type, pos, aft, none⟩ :: rest) s := by
  intro a w μ hS
  unfold wpList
  rw [if_pos (by rfl)]
  refine .inl ?_
  obtain ⟨v, h1, h2⟩ := hx a w μ hS
  unfold Oper.wp
  rw [run_ext hf hname hb hn he h1]
  obtain ⟨μ', h4⟩ := sim_step (d := dst) hS (Res.same hS.hs h2)
  exact hK _ _ μ' h4

/-- One operation that yields a value and leaves the world as it is. -/
theorem alist_op {P : Program} {X : Ctx} {ops : Array Oper} {Q : AX → S → Prop} {rest : List Oper} {o : Oper} {s : S} (r : A) (hg : o.guard = none)
    (hx : ∀ (a : Act) (w : World) (μ : Mu), Sim P X s a w μ → ∃ v, (execOp a.eval o).run P w = .ok (.value v) w ∧ Rep P w (Ft X.F0 μ s.h) μ r v)
    (hK : alist P X ops Q rest ⟨put s.t o.dst r, s.h⟩) : alist P X ops Q (o :: rest) s := by
  intro a w μ hS
  unfold wpList
  rw [if_pos (by simp [Region.wanted, hg])]
  refine .inl ?_
  obtain ⟨v, h1, h2⟩ := hx a w μ hS
  unfold Oper.wp
  rw [h1]
  obtain ⟨μ', h4⟩ := sim_step (d := o.dst) hS (Res.same hS.hs h2)
  exact hK _ _ μ' h4
/-- A live slice, read off. -/
theorem Sim.read {P : Program} {X : Ctx} {s : S} {a : Act} {w : World} {μ : Mu} (hS : Sim P X s a w μ) (x : Operand) {y : A} (h : resA P s.h 4 (ev s.t x) = some y) : Rep P w X.F0 [] y (a.eval x) :=
  s_resA hS.hs (fun _ _ hf => .inl hf) (fun i r b bs o hx hl hb _ => hS.hs.sep i r b bs o hx hl hb) (hS.eval x) h
/-- One operation that may make a row. -/
theorem alist_opw {P : Program} {X : Ctx} {ops : Array Oper} {Q : AX → S → Prop} {rest : List Oper} {o : Oper} {s : S} (r : A) (H' : List Row) (hg : o.guard = none)
    (hx : ∀ (a : Act) (w : World) (μ : Mu), Sim P X s a w μ → ∃ v w', (execOp a.eval o).run P w = .ok (.value v) w' ∧ Res P w X.F0 μ s.h v w' r H')
    (hK : alist P X ops Q rest ⟨put s.t o.dst r, H'⟩) : alist P X ops Q (o :: rest) s := by
  intro a w μ hS
  unfold wpList
  rw [if_pos (by simp [Region.wanted, hg])]
  refine .inl ?_
  obtain ⟨v, w', h1, h2⟩ := hx a w μ hS
  unfold Oper.wp
  rw [h1]
  obtain ⟨μ', h4⟩ := sim_step (d := o.dst) hS h2
  exact hK _ _ μ' h4

theorem zeros_flat {P : Program} {w : World} {F : Fz} {μ : Mu} {e : TypeId} {inf : TypeInfo} {z : Value} (hi : P.info? e = some inf) (hzs : z.cells.size = inf.size) (hnz : P.cellsOf e ≠ 0) {zA : A} (hr : Rep P w F μ zA z) (hsh : shp P e zA = true) (len : Nat) :
    Flat P w F μ e (P.cellsOf e) (List.replicate len zA) (Builtin.zeroCells z.cells len).toList := by
  have hci := cellsOf_info hi
  obtain ⟨news, g1, g2⟩ := flat_of (P := P) (w := w) (F := F) (μ := μ) (ty := e) rfl hnz (fun o => (Builtin.zeroCells z.cells len)[o]?) (List.replicate len zA) 0 (fun k x hx => by
    have hk : k < len := by have := (List.getElem?_eq_some_iff.1 hx).1; simpa using this
    simp [hk] at hx
    subst hx
    refine ⟨hsh, z, hr, fun j u hu' => ?_⟩
    have := zeros_get z.cells len k j u hk hu'
    rw [Nat.zero_add, hci, ← hzs]
    exact this)
  have hnews : news = (Builtin.zeroCells z.cells len).toList := by
    apply List.ext_getElem?
    intro k
    have hl1 := g1.len
    have hl2 : (Builtin.zeroCells z.cells len).toList.length = news.length := by rw [Array.length_toList, size_zeroC, hl1, hci, hzs]; simp
    by_cases hk : k < news.length
    · have := g2 k news[k] (List.getElem?_eq_getElem hk)
      rw [List.getElem?_eq_getElem hk]
      rw [Nat.zero_add] at this
      rw [← this]; simp
    · rw [List.getElem?_eq_none (by omega), List.getElem?_eq_none (by omega)]
  rw [← hnews]
  exact g1

/-- 'append' of so many zero values to nothing. -/
theorem s_appendZeros {P : Program} {w : World} {F0 : Fz} {μ : Mu} {H : List Row} (hs : HS P w F0 μ H) {t tn ty e : TypeId} {kq kn : IntKind} {z : A} {bytes : Nat} (ht : P.underlying t = some (.slice e)) (htn : P.underlying tn = some (.int kn)) (hz : zbox P e = some (z, bytes)) (hsh : shp P e z = true) (hnz : P.cellsOf e ≠ 0)
    (a : Option Addr) (n : Nat) (h0 : 0 < n) (h63 : n ≤ 9223372036854775807) (h48 : n * bytes ≤ 140737488355328) :
    ∃ v w', (Builtin.append_ #[t, tn] ty #[.slice a 0 0, .int kq n]).run P w = .ok v w' ∧ Res P w F0 μ H v w' (.own H.length 0 n n false) (H ++ [⟨e, P.cellsOf e, List.replicate n z, 0, true⟩]) := by
  obtain ⟨inf, zv, hi, hzv, hzs, rfl, rfl⟩ := zbox_some hz
  have hci := cellsOf_info hi
  have hold : (Builtin.firstCells inf.size 0 (.slice a 0 0)).run P w.drew = .ok ([] : List Value).toArray w.drew := run_first (by simp) (fun _ => rfl) (.inl rfl) _ rfl
  have hnc : Builtin.nextslicecap (0 + n) 0 = n := by rw [Nat.zero_add]; exact nextslicecap_zero h0
  have r := Lib.run_append_grow_zeros (P := P) w t tn ty e inf zv kq kn ht htn hi hzv a 0 0 [] hold n h0 (by omega) (by omega) (by omega) (by omega) (by rw [hnc]; omega)
  refine ⟨_, _, r, ?_⟩
  have hgc := grown_le w (0 + n) 0 e (by omega)
  have hd : (([] : List Value).toArray ++ Builtin.zeroCells zv.cells n : Array Value) = (Builtin.zeroCells zv.cells n).toList.toArray := by simp
  rw [hd]
  have hfl := zeros_flat (P := P) (w := w) (F := Ft F0 μ H) (μ := μ) hi hzs hnz (rep_ofV zv) hsh n
  have := newOwn hs (e := e) (cap := grownCap w (0 + n) 0 e) (es := List.replicate n (ofV zv)) (vals := (Builtin.zeroCells zv.cells n).toList) (pad := Builtin.zeroCells zv.cells (grownCap w (0 + n) 0 e - (0 + n))) hnz hfl
    hgc.2 (by rw [size_zeroC, hzs, ← hci, hfl.len, List.length_replicate, ← Nat.add_mul]; congr 1; omega) n false 0 (by simp) (by omega) (by simp) _ (pushed_drew_alloc w _)
  obtain ⟨k1, k2, k3⟩ := this
  refine ⟨_, k1, k2, List.prefix_append _ _, ?_⟩
  simpa using k3

theorem alist_cons {P : Program} {X : Ctx} {ops : Array Oper} {Q : AX → S → Prop} {rest : List Oper} {o : Oper} {s : S} (hg : o.guard = none) (h : stepK P o (alist P X ops Q rest) s) : alist P X ops Q (o :: rest) s :=
  fun _ _ _ hS => alist_step (fun _ h => h) hS (by simp [Region.wanted, hg]) h
theorem alist_nil {P : Program} {X : Ctx} {ops : Array Oper} {Q : AX → S → Prop} {s : S} (h : Q .normal s) : alist P X ops Q [] s := vcOps_sound [] s h
@[congr] theorem alist_congr {P : Program} {X : Ctx} {ops : Array Oper} {Q : AX → S → Prop} {l : List Oper} {s s' : S} (e : s = s') : alist P X ops Q l s = alist P X ops Q l s' := by rw [e]
theorem awp_list {P : Program} {X : Ctx} {id : Nat} {l : List Oper} {Q : AX → S → Prop} {s : S} (h : alist P X l.toArray Q l s) : awp P X (.region id l.toArray false) Q s :=
  fun a w μ hS => wp_region_list (by simpa using h a w μ hS)

/-- A region that was left, walked after all. -/
theorem awp_ops {P : Program} {X : Ctx} {id : Nat} {l : List Oper} {Q : AX → S → Prop} {s : S} (h : vcOps P l.toArray Q l s) : awp P X (.region id l.toArray false) Q s := awp_list (vcOps_sound l s h)

/-- The first place of a byte. -/
theorem indexByte_idx (c : UInt8) : ∀ l : List UInt8, Lib.indexByte l c = idxZ (fun b => decide (b = c)) l
  | [] => rfl
  | b :: l => by
    have ih := indexByte_idx c l
    unfold Lib.indexByte
    unfold idxZ at ih ⊢
    rw [List.findIdx_cons]
    by_cases h : b = c
    · simp [h]
    · have hf : (fun b => decide (b = c)) b = false := by simpa using h
      rw [if_neg (by simpa using h)]
      simp only [hf, cond_false, List.length_cons]
      by_cases h2 : l.findIdx (fun b => decide (b = c)) < l.length
      · rw [if_pos h2] at ih
        have h3 : l.findIdx (fun b => decide (b = c)) + 1 < l.length + 1 := by omega
        have : (((l.findIdx fun b => decide (b = c)) : Int) == -1) = false := by rw [beq_eq_false_iff_ne]; omega
        rw [ih, this, if_neg (by decide), if_pos h3]
        omega
      · rw [if_neg h2] at ih
        have h3 : ¬ l.findIdx (fun b => decide (b = c)) + 1 < l.length + 1 := by omega
        rw [ih, if_pos (by decide), if_neg h3]
end Go.AL
/- An abstract layer over the walk, 24: append of make; fresh slices handed back. No program in sight. -/
namespace Go.AL

@[simp] theorem leL_replicate {ids : List Nat} {a : A} (h : leA ids a a) : ∀ n : Nat, leL ids (List.replicate n a) (List.replicate n a) = True
  | 0 => eq_true (by simp [leL])
  | n + 1 => eq_true (by rw [List.replicate_succ, leL]; exact ⟨h, by rw [leL_replicate h n]; trivial⟩)
@[simp] theorem hasRL_replicate {m : Nat} {a : A} (h : hasR m a) : ∀ n : Nat, hasRL m (List.replicate n a) = True
  | 0 => eq_true (by simp [hasRL])
  | n + 1 => eq_true (by rw [List.replicate_succ, hasRL]; exact ⟨h, by rw [hasRL_replicate h n]; trivial⟩)
@[simp] theorem noany_replicate {a : A} (h : isAny a = false) : ∀ n : Nat, noany (List.replicate n a) = true
  | 0 => rfl
  | n + 1 => by rw [List.replicate_succ, noany, h, noany_replicate h n]; rfl
theorem sl_nil_val {P : Program} {w : World} {F : Fz} {μ : Mu} {v : Value} (h : Rep P w F μ (.sl true []) v) : ∃ ad, v = .slice ad 0 0 := by
  cases h with
  | slnil _ _ ad => exact ⟨ad, rfl⟩
  | sl _ _ _ b off m cap sz V hm hcap hmax hfull hsz hrep hcell =>
    have := hfull rfl
    simp only [List.length_nil] at hm
    subst hm
    subst this
    exact ⟨_, rfl⟩
theorem alist_cap0 {P : Program} {X : Ctx} {ops : Array Oper} {Q : AX → S → Prop} {rest : List Oper} {s : S} {dst : Option Tmp} {type : TypeId} {pos : String} {aft : Array Edge} {x : Operand} {t e : TypeId} (ht : P.underlying t = some (.slice e)) (hx : ev s.t x = .sl true [])
    (hK : alist P X ops Q rest ⟨put s.t dst (.int .i64 0), s.h⟩) : alist P X ops Q (⟨dst, .call ⟨.builtin .cap, #[x], #[t]⟩, type, pos, aft, none⟩ :: rest) s := by
  refine alist_op _ rfl (fun a w μ hS => ?_) hK
  have e1 := hS.eval x
  rw [hx] at e1
  obtain ⟨ad, e3⟩ := sl_nil_val e1
  refine ⟨.int .i64 0, ?_, .int _ _ _⟩
  simp [execOp, resolve, invoke, builtin, e3, Builtin.cap_, run_underlying ht, goInt]
theorem alist_appendZeros {P : Program} {X : Ctx} {ops : Array Oper} {Q : AX → S → Prop} {rest : List Oper} {s : S} {dst : Option Tmp} {type : TypeId} {pos : String} {aft : Array Edge} {x y : Operand} {t tn e : TypeId} {kq kn : IntKind} {z : A} {bytes : Nat} (n : Nat)
    (ht : P.underlying t = some (.slice e)) (htn : P.underlying tn = some (.int kn)) (hz : zbox P e = some (z, bytes)) (hsh : shp P e z = true) (hnz : P.cellsOf e ≠ 0) (hx : ev s.t x = .sl true []) (hy : ev s.t y = .int kq n) (h0 : 0 < n) (h63 : n ≤ 9223372036854775807) (h48 : n * bytes ≤ 140737488355328)
    (hK : alist P X ops Q rest ⟨put s.t dst (.own s.h.length 0 n n false), s.h ++ [⟨e, P.cellsOf e, List.replicate n z, 0, true⟩]⟩) : alist P X ops Q (⟨dst, .call ⟨.builtin .append, #[x, y], #[t, tn]⟩, type, pos, aft, none⟩ :: rest) s := by
  refine alist_opw _ _ rfl (fun a w μ hS => ?_) hK
  have e1 := hS.eval x
  rw [hx] at e1
  have e2 : a.eval y = .int kq n := Rep.int_inv (by rw [← hy]; exact hS.eval y)
  obtain ⟨ad, e3⟩ := sl_nil_val e1
  obtain ⟨v, w', h1, h2⟩ := s_appendZeros (ty := type) (kq := kq) hS.hs ht htn hz hsh hnz ad n h0 h63 h48
  refine ⟨v, w', ?_, h2⟩
  simp only [execOp, resolve, invoke, builtin, Sem.run_bind, Sem.run_pure, Result.andThen_ok, List.map_toArray, List.map_cons, List.map_nil, e2, e3, h1]
/-- One live row, seen alone. -/
theorem HS.one {P : Program} {w : World} {F0 : Fz} {μ : Mu} {H : List Row} (hs : HS P w F0 μ H) {id b0 bs0 : Nat} {r0 : Row} (hr : H[id]? = some r0) (_hl : r0.live = true) (hμ : μ[id]? = some (b0, bs0)) (hes : noidL r0.es = true) :
    HS P w (fun b o => Ft F0 μ H b o ∧ b ≠ b0) [(b0, bs0)] [r0] ∧ ∀ b o, Ft (fun b o => Ft F0 μ H b o ∧ b ≠ b0) [(b0, bs0)] [r0] b o → Ft F0 μ H b o := by
  have fsub : ∀ b o, Ft (fun b o => Ft F0 μ H b o ∧ b ≠ b0) [(b0, bs0)] [r0] b o → Ft F0 μ H b o := by
    rintro b o (hf | ⟨i, r, bs, h1, h2, h3, h4⟩)
    · exact hf.1
    · cases i with
      | zero =>
        simp at h1 h3
        obtain ⟨rfl, rfl⟩ := h3
        subst h1
        exact .inr ⟨id, r0, bs0, hr, h2, hμ, h4⟩
      | succ i => simp at h1
  refine ⟨⟨rfl, fun b o hf => hs.lt hf.1, ?_, ?_, ?_⟩, fsub⟩
  · intro i r b bs h1 h2 h3
    cases i with
    | succ i => simp at h1
    | zero =>
      simp at h1 h3
      obtain ⟨rfl, rfl⟩ := h3
      subst h1
      have hA : Adv w (Ft F0 μ H) w (Ft (fun b o => Ft F0 μ H b o ∧ b ≠ b0) [(b0, bs0)] [r0]) := ⟨rfl, rfl, rfl, Nat.le_refl _, fun _ _ _ h _ => h, fun b o _ h => fsub b o h, fun _ _ _ h => h, fun _ _ _ => rfl⟩
      rcases hs.row id r0 b0 bs0 hr h2 hμ with ⟨cur, c1, c2, c3, c4, c5⟩ | hm
      · refine .inl ⟨cur, c1, c2, c3, c4, fun k e he => ?_⟩
        obtain ⟨g1, V, g2, g3⟩ := c5 k e he
        exact ⟨g1, V, (g2.noid (noidL_get hes k e he)).adv hA (List.nil_prefix), g3⟩
      · exact .inr (hm.adv hA rfl)
  · intro i j r r' b bs bs' h1 _ h3 _ _ _
    cases i with
    | succ i => simp at h1
    | zero => cases j with
      | succ j => simp at h3
      | zero => rfl
  · intro i r b bs o h1 h2 h3 hf
    cases i with
    | succ i => simp at h1
    | zero =>
      simp at h1 h3
      exact hf.2 h3.1.symm

/-- A live slice that is handed over is not written any more. -/
theorem xcall_fzown {P : Program} {f : FuncId} {H : List Row} {K : A → List Row → Prop} (id off len cb : Nat) (ex : Bool) {r0 : Row} (hr : H[id]? = some r0) (hl : r0.live = true) (hes : noidL r0.es = true) (hle : off + len ≤ r0.es.length)
    (h : XCall P f [.sl false ((r0.es.drop off).take len)] (H.set id dead0) K) : XCall P f [.own id off len cb ex] H K := by
  refine ⟨h.1, fun w F0 μ vs hs hL => ?_⟩
  have hid : id < H.length := (List.getElem?_eq_some_iff.1 hr).1
  have hidμ : id < μ.length := by rw [hs.len]; exact hid
  obtain ⟨⟨b0, bs0⟩, hμ⟩ : ∃ p, μ[id]? = some p := ⟨_, List.getElem?_eq_getElem hidμ⟩
  obtain ⟨hs1, fsub⟩ := hs.one hr hl hμ hes
  obtain ⟨hk, hA⟩ := hs.kill (id := id) (d := dead0) rfl
  have hrn : rnMu μ [id] = [(b0, bs0)] := by
    simp only [rnMu, List.map_cons, List.map_nil]
    rw [List.getD_eq_getElem?_getD, hμ]; rfl
  match vs, hL with
  | [v], hL =>
    have h0 : Rep P w (Ft (fun b o => Ft F0 μ H b o ∧ b ≠ b0) [(b0, bs0)] [r0]) [(b0, bs0)] (.own 0 off len cb ex) v := by
      cases hL.1 with
      | own _ _ off len cb ex b bs cap ty n hμ' hsh hfit hlen' hcb hmax hex ao hat =>
        rw [hμ] at hμ'; cases hμ'
        exact .own _ 0 off len _ ex _ _ cap ty n rfl hsh hfit hlen' hcb hmax hex ao hat
      | ownn _ _ _ a => exact .ownn _ _ _ a
    have hres : resA P [r0] 1 (.own 0 off len cb ex) = some (.sl false ((r0.es.drop off).take len)) := by
      unfold resA
      simp only [A.noid, Bool.false_eq_true, if_false]
      by_cases hz : len = 0
      · rw [if_pos hz, hz]; simp
      · rw [if_neg hz]
        simp only [List.getElem?_cons_zero, Option.bind_some]
        rw [if_pos ⟨hl, hle⟩, if_pos (noidL_take (noidL_drop hes off) len)]
    have h1 := s_resA (F' := Ft F0 μ (H.set id dead0)) hs1 (fun b o hf => .inl (by
      rcases hf with hf | ⟨i, r, bs, g1, g2, g3, g4⟩
      · exact ⟨.inl hf, fun e => hs.sep id r0 b0 bs0 o hr hl hμ (by rw [← e]; exact hf)⟩
      · rw [List.getElem?_set] at g1
        split at g1
        · cases g1; cases g2
        · rename_i hne
          refine ⟨.inr ⟨i, r, bs, g1, g2, g3, g4⟩, fun e => ?_⟩
          subst e
          exact hne (hs.inj id i r0 r b bs0 bs hr hl g1 g2 hμ g3))) (fun i r b bs o g1 g2 g3 _ hf => by
      cases i with
      | succ i => simp at g1
      | zero =>
        simp at g1 g3
        obtain ⟨rfl, rfl⟩ := g3
        rcases hf with hf | ⟨j, r', bs', q1, q2, q3, q4⟩
        · exact hs.sep id r0 b0 bs0 o hr hl hμ hf
        · rw [List.getElem?_set] at q1
          split at q1
          · cases q1; cases q2
          · rename_i hne
            exact hne (hs.inj id j r0 r' b0 bs0 bs' hr hl q1 q2 hμ q3)) h0 hres
    have hnid : (A.sl false ((r0.es.drop off).take len)).noid = true := rfl
    refine (h.2 w F0 μ [v] hk ⟨h1.mono (fun _ _ _ h => h) (List.nil_prefix), trivial⟩).mono ?_
    rintro e w' ⟨v', r, H', rfl, hK, μ', q1, q2, q3, q4⟩
    exact ⟨v', r, H', rfl, hK, μ', q1, hA.trans q2, q3, q4⟩

/-- What is handed back as a fresh slice: nil, or a row of its own. -/
theorem xcall_new0 {α : Type} [Enc α] {P : Program} {f : FuncId} {args : List A} {H : List Row} (ty : TypeId) (l : List α) (h : XCall P f args H fun r H' => (l = [] ∧ r = .sl true [] ∧ H' = H) ∨ (r = .own H.length 0 l.length l.length false ∧ l ≠ [] ∧ H' = H ++ [⟨ty, Enc.sz α, l.map Enc.enc, 0, true⟩])) : XCall P f args H (fun r H' => r = B H.length l ∧ H' = H ++ [RF ty l 0]) := by
  refine ⟨h.1, fun w F0 μ vs hs hl => (h.2 w F0 μ vs hs hl).mono ?_⟩
  rintro e w' ⟨v, r, H', he, hf, hres⟩
  refine ⟨v, B H.length l, H ++ [RF ty l 0], he, ⟨rfl, rfl⟩, ?_⟩
  rcases hf with ⟨rfl, rfl, rfl⟩ | ⟨rfl, hne, rfl⟩
  · exact hres.snocDead.repR fun hr => rep_empty (.inl rfl) hr _
  · have hi : l.isEmpty = false := by cases l <;> simp_all
    rw [RF_ne hne]
    unfold B
    rw [hi]
    exact hres
@[simp] theorem shA_B {α : Type} (n i : Nat) (l : List α) : shA n (B i l) = B (n + i) l := rfl
@[simp] theorem frsh_B {α : Type} (i : Nat) (l : List α) : frsh (B i l) = true := rfl
end Go.AL
/- An abstract layer over the walk, 26: a live slice that is not written any more, wherever it is held. No program in sight. -/
namespace Go.AL

mutual
def fzS (id : Nat) (es : List A) : A → A
  | .own i off len cb ex => if i = id ∧ off + len ≤ es.length then .sl false ((es.drop off).take len) else .own i off len cb ex
  | .agg cs => .agg (fzSL id es cs)
  | x => x
def fzSL (id : Nat) (es : List A) : List A → List A
  | [] => []
  | x :: xs => fzS id es x :: fzSL id es xs
end
theorem fzSL_map (id : Nat) (es : List A) : ∀ xs : List A, fzSL id es xs = xs.map (fzS id es)
  | [] => rfl
  | x :: xs => by rw [fzSL, fzSL_map id es xs]; rfl
theorem fzS_agg (id : Nat) (es cs : List A) : fzS id es (.agg cs) = .agg (cs.map (fzS id es)) := by rw [fzS, fzSL_map]
theorem fzS_own (id : Nat) (es : List A) (i off len cb : Nat) (ex : Bool) : fzS id es (.own i off len cb ex) = if i = id ∧ off + len ≤ es.length then .sl false ((es.drop off).take len) else .own i off len cb ex := by rw [fzS]
theorem fzS_int (id : Nat) (es : List A) (k : IntKind) (n : Int) : fzS id es (.int k n) = .int k n := by rw [fzS] <;> simp
theorem fzS_bool (id : Nat) (es : List A) (b : Bool) : fzS id es (.bool b) = .bool b := by rw [fzS] <;> simp
theorem fzS_str (id : Nat) (es : List A) (l : List UInt8) : fzS id es (.str l) = .str l := by rw [fzS] <;> simp
theorem fzS_sl (id : Nat) (es : List A) (f : Bool) (l : List A) : fzS id es (.sl f l) = .sl f l := by rw [fzS] <;> simp
theorem fzS_ptr (id : Nat) (es : List A) (d : A) : fzS id es (.ptr d) = .ptr d := by rw [fzS] <;> simp
theorem fzS_pto (id : Nat) (es : List A) (i sz j co : Nat) : fzS id es (.pto i sz j co) = .pto i sz j co := by rw [fzS] <;> simp
theorem fzS_nptr (id : Nat) (es : List A) : fzS id es .nptr = .nptr := by rw [fzS] <;> simp
theorem fzS_nfn (id : Nat) (es : List A) : fzS id es .nfn = .nfn := by rw [fzS] <;> simp
theorem fzS_fn (id : Nat) (es : List A) (f : FuncId) (cs : List A) : fzS id es (.fn f cs) = .fn f cs := by rw [fzS] <;> simp
theorem fzS_tup (id : Nat) (es : List A) (cs : List A) : fzS id es (.tup cs) = .tup cs := by rw [fzS] <;> simp
theorem fzS_mp (id : Nat) (es : List A) (i : Nat) : fzS id es (.mp i) = .mp i := by rw [fzS] <;> simp
theorem fzS_ub (id : Nat) (es : List A) : fzS id es .ub = .ub := by rw [fzS] <;> simp
theorem fzS_any (id : Nat) (es : List A) : fzS id es .any = .any := by rw [fzS] <;> simp
attribute [simp] fzS_agg fzS_own fzS_int fzS_bool fzS_str fzS_sl fzS_ptr fzS_pto fzS_nptr fzS_nfn fzS_fn fzS_tup fzS_mp fzS_ub fzS_any
mutual
theorem fzS_noid (id : Nat) (es : List A) : ∀ x : A, x.noid = true → fzS id es x = x
  | .own _ _ _ _ _, h => by simp [A.noid] at h
  | .agg cs, h => by
    rw [fzS]
    rw [fzSL_noid id es cs (by simpa [A.noid] using h)]
  | .int _ _, _ | .bool _, _ | .ub, _ | .str _, _ | .sl _ _, _ | .ptr _, _ | .pto _ _ _ _, _ | .nptr, _ | .tup _, _ | .fn _ _, _ | .nfn, _ | .mp _, _ | .any, _ => by simp
theorem fzSL_noid (id : Nat) (es : List A) : ∀ xs : List A, noidL xs = true → fzSL id es xs = xs
  | [], _ => rfl
  | x :: xs, h => by
    simp only [noidL, Bool.and_eq_true] at h
    rw [fzSL, fzS_noid id es x h.1, fzSL_noid id es xs h.2]
end
@[simp] theorem fzS_Ls {α : Type} [Enc α] (id : Nat) (es : List A) (f : Bool) (l : List α) : fzS id es (Ls f l) = Ls f l := fzS_noid id es _ (by simp)
@[simp] theorem fzS_enc {α : Type} [Enc α] (id : Nat) (es : List A) (x : α) : fzS id es (Enc.enc x) = Enc.enc x := fzS_noid id es _ (Enc.noid x)
theorem shp_fzS {P : Program} {t : TypeId} (id : Nat) (es : List A) (x : A) : shp P t (fzS id es x) = shp P t x := by
  cases x with
  | own i off len cb ex => rw [fzS_own]; split <;> rfl
  | agg cs => simp [shp]
  | _ => simp

theorem own_fzS {P : Program} {w : World} {F0 : Fz} {μ : Mu} {H : List Row} (hs : HS P w F0 μ H) {id off len cb : Nat} {ex : Bool} {r0 : Row} (hr : H[id]? = some r0) (hl : r0.live = true) (hes : noidL r0.es = true) (hle : off + len ≤ r0.es.length) {v : Value}
    (h : Rep P w (Ft F0 μ H) μ (.own id off len cb ex) v) : Rep P w (Ft F0 μ (H.set id dead0)) μ (.sl false ((r0.es.drop off).take len)) v := by
  have hid : id < H.length := (List.getElem?_eq_some_iff.1 hr).1
  have hidμ : id < μ.length := by rw [hs.len]; exact hid
  obtain ⟨⟨b0, bs0⟩, hμ⟩ : ∃ p, μ[id]? = some p := ⟨_, List.getElem?_eq_getElem hidμ⟩
  obtain ⟨hs1, fsub⟩ := hs.one hr hl hμ hes
  have h0 : Rep P w (Ft (fun b o => Ft F0 μ H b o ∧ b ≠ b0) [(b0, bs0)] [r0]) [(b0, bs0)] (.own 0 off len cb ex) v := by
    cases h with
    | own _ _ off len cb ex b bs cap ty n hμ' hsh hfit hlen' hcb hmax hex ao hat =>
      rw [hμ] at hμ'; cases hμ'
      exact .own _ 0 off len _ ex _ _ cap ty n rfl hsh hfit hlen' hcb hmax hex ao hat
    | ownn _ _ _ a => exact .ownn _ _ _ a
  have hres : resA P [r0] 1 (.own 0 off len cb ex) = some (.sl false ((r0.es.drop off).take len)) := by
    unfold resA
    simp only [A.noid, Bool.false_eq_true, if_false]
    by_cases hz : len = 0
    · rw [if_pos hz, hz]; simp
    · rw [if_neg hz]
      simp only [List.getElem?_cons_zero, Option.bind_some]
      rw [if_pos ⟨hl, hle⟩, if_pos (noidL_take (noidL_drop hes off) len)]
  have h1 := s_resA (F' := Ft F0 μ (H.set id dead0)) hs1 (fun b o hf => .inl (by
    rcases hf with hf | ⟨i, r, bs, g1, g2, g3, g4⟩
    · exact ⟨.inl hf, fun e => hs.sep id r0 b0 bs0 o hr hl hμ (by rw [← e]; exact hf)⟩
    · rw [List.getElem?_set] at g1
      split at g1
      · cases g1; cases g2
      · rename_i hne
        refine ⟨.inr ⟨i, r, bs, g1, g2, g3, g4⟩, fun e => ?_⟩
        subst e
        exact hne (hs.inj id i r0 r b bs0 bs hr hl g1 g2 hμ g3))) (fun i r b bs o g1 g2 g3 _ hf => by
    cases i with
    | succ i => simp at g1
    | zero =>
      simp at g1 g3
      obtain ⟨rfl, rfl⟩ := g3
      rcases hf with hf | ⟨j, r', bs', q1, q2, q3, q4⟩
      · exact hs.sep id r0 b0 bs0 o hr hl hμ hf
      · rw [List.getElem?_set] at q1
        split at q1
        · cases q1; cases q2
        · rename_i hne
          exact hne (hs.inj id j r0 r' b0 bs0 bs' hr hl q1 q2 hμ q3)) h0 hres
  exact h1.mono (fun _ _ _ h => h) (List.nil_prefix)

theorem rep_fzS {P : Program} {w : World} {F0 : Fz} {μ : Mu} {H : List Row} (hs : HS P w F0 μ H) {id : Nat} {r0 : Row} (hr : H[id]? = some r0) (hl : r0.live = true) (hes : noidL r0.es = true) (hsub : ∀ b o, Ft F0 μ (H.set id dead0) b o → Ft F0 μ H b o) :
    ∀ (x : A) (v : Value), Rep P w (Ft F0 μ H) μ x v → Rep P w (Ft F0 μ (H.set id dead0)) μ (fzS id r0.es x) v
  | .own i off len cb ex, v, h => by
    rw [fzS_own]
    split
    · rename_i q
      obtain ⟨rfl, q⟩ := q
      exact own_fzS hs hr hl hes q h
    · exact h.mono (fun b o _ hf => hsub b o hf) (List.prefix_refl _)
  | .agg cs, v, h => by
    rw [fzS_agg]
    cases h with
    | agg _ _ vs hlen h1 h =>
      refine .agg _ _ vs (by simpa using hlen) h1 fun i c u hc hu => ?_
      simp only [List.getElem?_map, Option.map_eq_some_iff] at hc
      obtain ⟨c0, hc0, rfl⟩ := hc
      have : SizeOf.sizeOf c0 < SizeOf.sizeOf cs := List.sizeOf_lt_of_mem (List.mem_of_getElem? hc0)
      exact rep_fzS hs hr hl hes hsub c0 u (h i c0 u hc0 hu)
  | .int _ _, v, h => by rw [fzS_int]; exact h.mono (fun b o _ hf => hsub b o hf) (List.prefix_refl _)
  | .bool _, v, h => by rw [fzS_bool]; exact h.mono (fun b o _ hf => hsub b o hf) (List.prefix_refl _)
  | .ub, v, h => by rw [fzS_ub]; exact h.mono (fun b o _ hf => hsub b o hf) (List.prefix_refl _)
  | .str _, v, h => by rw [fzS_str]; exact h.mono (fun b o _ hf => hsub b o hf) (List.prefix_refl _)
  | .sl _ _, v, h => by rw [fzS_sl]; exact h.mono (fun b o _ hf => hsub b o hf) (List.prefix_refl _)
  | .ptr _, v, h => by rw [fzS_ptr]; exact h.mono (fun b o _ hf => hsub b o hf) (List.prefix_refl _)
  | .pto _ _ _ _, v, h => by rw [fzS_pto]; exact h.mono (fun b o _ hf => hsub b o hf) (List.prefix_refl _)
  | .nptr, v, h => by rw [fzS_nptr]; exact h.mono (fun b o _ hf => hsub b o hf) (List.prefix_refl _)
  | .tup _, v, h => by rw [fzS_tup]; exact h.mono (fun b o _ hf => hsub b o hf) (List.prefix_refl _)
  | .fn _ _, v, h => by rw [fzS_fn]; exact h.mono (fun b o _ hf => hsub b o hf) (List.prefix_refl _)
  | .nfn, v, h => by rw [fzS_nfn]; exact h.mono (fun b o _ hf => hsub b o hf) (List.prefix_refl _)
  | .mp _, v, h => by rw [fzS_mp]; exact h.mono (fun b o _ hf => hsub b o hf) (List.prefix_refl _)
  | .any, v, h => by rw [fzS_any]; exact h.mono (fun b o _ hf => hsub b o hf) (List.prefix_refl _)
termination_by x => SizeOf.sizeOf x
decreasing_by simp_wf; omega

def fzR (id : Nat) (es : List A) (r : Row) : Row := ⟨r.ty, r.sz, r.es.map (fzS id es), r.f, r.live⟩
@[simp] theorem fzR_mk (id : Nat) (es : List A) (ty : TypeId) (sz : Nat) (cs : List A) (f : Nat) (l : Bool) : fzR id es ⟨ty, sz, cs, f, l⟩ = ⟨ty, sz, cs.map (fzS id es), f, l⟩ := rfl
theorem Fof_fzR (id : Nat) (es : List A) (μ : Mu) (H : List Row) : Fof μ (H.map (fzR id es)) = Fof μ H := by
  funext b o
  refine propext ⟨?_, ?_⟩
  · rintro ⟨i, r, bs, h1, h2, h3, h4⟩
    simp only [List.getElem?_map, Option.map_eq_some_iff] at h1
    obtain ⟨r', h1, rfl⟩ := h1
    exact ⟨i, r', bs, h1, h2, h3, h4⟩
  · rintro ⟨i, r, bs, h1, h2, h3, h4⟩
    exact ⟨i, fzR id es r, bs, by simp [h1], h2, h3, h4⟩
theorem Ft_fzR (id : Nat) (es : List A) (F0 : Fz) (μ : Mu) (H : List Row) : Ft F0 μ (H.map (fzR id es)) = Ft F0 μ H := by unfold Ft; rw [Fof_fzR]

theorem Wk.fzS {P : Program} {X : Ctx} {t : List A} {H : List Row} (id : Nat) {r0 : Row} (hr : H[id]? = some r0) (hl : r0.live = true) (hes : noidL r0.es = true) :
    Wk P X ⟨t, H⟩ ⟨t.map (fzS id r0.es), (H.set id dead0).map (fzR id r0.es)⟩ := by
  intro a w μ hs
  obtain ⟨g1, g2⟩ := hs.hs.kill (id := id) (d := dead0) rfl
  have get : ∀ (i : Nat) (x : Row), (H.set id dead0)[i]? = some x → x.live = true → H[i]? = some x := by
    intro i x hx hlx
    rw [List.getElem?_set] at hx
    split at hx
    · split at hx
      · cases hx; cases hlx
      · cases hx
    · exact hx
  have hsub : ∀ b o, Ft X.F0 μ (H.set id dead0) b o → Ft X.F0 μ H b o := by
    rintro b o (hf | ⟨i, r, bs, h1, h2, h3, h4⟩)
    · exact .inl hf
    · exact .inr ⟨i, r, bs, get i r h1 h2, h2, h3, h4⟩
  have key := rep_fzS hs.hs hr hl hes hsub
  have back : ∀ (i : Nat) (y : Row), ((H.set id dead0).map (fzR id r0.es))[i]? = some y → ∃ x, (H.set id dead0)[i]? = some x ∧ fzR id r0.es x = y := by
    intro i y hy
    rw [List.getElem?_map, Option.map_eq_some_iff] at hy
    exact hy
  refine ⟨μ, by rw [hs.len]; simp, ?_, ⟨?_, g1.bound, ?_, ?_, ?_⟩, ?_, hs.pre, hs.defers⟩
  · intro i x hx
    obtain ⟨y, hy, rfl⟩ : ∃ y, t[i]? = some y ∧ AL.fzS id r0.es y = x := by simpa using hx
    simp only [Ft_fzR]
    exact key _ _ (hs.rep i y hy)
  · rw [g1.len]; simp
  · intro i y b bs hy hly hb
    obtain ⟨x, hx, rfl⟩ := back i y hy
    rw [Ft_fzR]
    rcases hs.hs.row i x b bs (get i x hx hly) hly hb with ⟨cur, c1, c2, c3, c4, c5⟩ | ⟨m1, m2, m3, ms, clock, m4, m5, m6⟩
    · refine .inl ⟨cur, c1, c2, c3, by simpa [fzR] using c4, fun k e he => ?_⟩
      obtain ⟨e0, he0, rfl⟩ : ∃ e0, x.es[k]? = some e0 ∧ AL.fzS id r0.es e0 = e := by simpa [fzR] using he
      obtain ⟨q1, V, q2, q3⟩ := c5 k e0 he0
      exact ⟨by rw [shp_fzS]; exact q1, V, key _ _ q2, q3⟩
    · refine .inr ⟨m1, m2, m3, ms, clock, m4, by simpa [fzR] using m5, fun k e m he hm => ?_⟩
      obtain ⟨e0, he0, rfl⟩ : ∃ e0, x.es[k]? = some e0 ∧ AL.fzS id r0.es e0 = e := by simpa [fzR] using he
      obtain ⟨ka, va, rfl, q2, q3⟩ := m6 k e0 m he0 hm
      exact ⟨ka, va, by simp, q2.mono (fun b o _ hf => hsub b o hf) (List.prefix_refl _), q3.mono (fun b o _ hf => hsub b o hf) (List.prefix_refl _)⟩
  · intro i j r r' b bs bs' h1 h2 h3 h4 h5 h6
    obtain ⟨x, hx, rfl⟩ := back i r h1
    obtain ⟨x', hx', rfl⟩ := back j r' h3
    exact g1.inj i j x x' b bs bs' hx h2 hx' h4 h5 h6
  · intro i r b bs o h1 h2 h3
    obtain ⟨x, hx, rfl⟩ := back i r h1
    exact g1.sep i x b bs o hx h2 h3
  · rw [Fof_fzR]
    exact hs.adv.trans g2
/-- From here on the slice is not written any more. -/
theorem awp_fzS {P : Program} {X : Ctx} {c : Code} {Q : AX → S → Prop} {t : List A} {H : List Row} (id : Nat) {r0 : Row} (hr : H[id]? = some r0) (hl : r0.live = true) (hes : noidL r0.es = true) (hA : awp P X c Q ⟨t.map (fzS id r0.es), (H.set id dead0).map (fzR id r0.es)⟩) : awp P X c Q ⟨t, H⟩ :=
  awp_weaken (Wk.fzS id hr hl hes) hA
/-! The same of an empty slice without room, wherever it lies. -/
mutual
def fzE (id : Nat) : A → A
  | .own i off len cb ex => if i = id ∧ len = 0 ∧ cb = 0 ∧ ex = true then .sl false [] else .own i off len cb ex
  | .agg cs => .agg (fzEL id cs)
  | x => x
def fzEL (id : Nat) : List A → List A
  | [] => []
  | x :: xs => fzE id x :: fzEL id xs
end
theorem fzEL_map (id : Nat) : ∀ xs : List A, fzEL id xs = xs.map (fzE id)
  | [] => rfl
  | x :: xs => by rw [fzEL, fzEL_map id xs]; rfl
@[simp] theorem fzE_agg (id : Nat) (cs : List A) : fzE id (.agg cs) = .agg (cs.map (fzE id)) := by rw [fzE, fzEL_map]
@[simp] theorem fzE_own (id i off len cb : Nat) (ex : Bool) : fzE id (.own i off len cb ex) = if i = id ∧ len = 0 ∧ cb = 0 ∧ ex = true then .sl false [] else .own i off len cb ex := by rw [fzE]
@[simp] theorem fzE_int (id : Nat) (k : IntKind) (n : Int) : fzE id (.int k n) = .int k n := by rw [fzE] <;> simp
@[simp] theorem fzE_bool (id : Nat) (b : Bool) : fzE id (.bool b) = .bool b := by rw [fzE] <;> simp
@[simp] theorem fzE_str (id : Nat) (l : List UInt8) : fzE id (.str l) = .str l := by rw [fzE] <;> simp
@[simp] theorem fzE_sl (id : Nat) (f : Bool) (l : List A) : fzE id (.sl f l) = .sl f l := by rw [fzE] <;> simp
@[simp] theorem fzE_ptr (id : Nat) (d : A) : fzE id (.ptr d) = .ptr d := by rw [fzE] <;> simp
@[simp] theorem fzE_pto (id i sz j co : Nat) : fzE id (.pto i sz j co) = .pto i sz j co := by rw [fzE] <;> simp
@[simp] theorem fzE_nptr (id : Nat) : fzE id .nptr = .nptr := by rw [fzE] <;> simp
@[simp] theorem fzE_nfn (id : Nat) : fzE id .nfn = .nfn := by rw [fzE] <;> simp
@[simp] theorem fzE_fn (id : Nat) (f : FuncId) (cs : List A) : fzE id (.fn f cs) = .fn f cs := by rw [fzE] <;> simp
@[simp] theorem fzE_tup (id : Nat) (cs : List A) : fzE id (.tup cs) = .tup cs := by rw [fzE] <;> simp
@[simp] theorem fzE_mp (id i : Nat) : fzE id (.mp i) = .mp i := by rw [fzE] <;> simp
@[simp] theorem fzE_ub (id : Nat) : fzE id .ub = .ub := by rw [fzE] <;> simp
@[simp] theorem fzE_any (id : Nat) : fzE id .any = .any := by rw [fzE] <;> simp
mutual
theorem fzE_noid (id : Nat) : ∀ x : A, x.noid = true → fzE id x = x
  | .own _ _ _ _ _, h => by simp [A.noid] at h
  | .agg cs, h => by
    rw [fzE]
    rw [fzEL_noid id cs (by simpa [A.noid] using h)]
  | .int _ _, _ | .bool _, _ | .ub, _ | .str _, _ | .sl _ _, _ | .ptr _, _ | .pto _ _ _ _, _ | .nptr, _ | .tup _, _ | .fn _ _, _ | .nfn, _ | .mp _, _ | .any, _ => by simp
theorem fzEL_noid (id : Nat) : ∀ xs : List A, noidL xs = true → fzEL id xs = xs
  | [], _ => rfl
  | x :: xs, h => by
    simp only [noidL, Bool.and_eq_true] at h
    rw [fzEL, fzE_noid id x h.1, fzEL_noid id xs h.2]
end
@[simp] theorem fzE_Ls {α : Type} [Enc α] (id : Nat) (f : Bool) (l : List α) : fzE id (Ls f l) = Ls f l := fzE_noid id _ (by simp)
@[simp] theorem fzE_enc {α : Type} [Enc α] (id : Nat) (x : α) : fzE id (Enc.enc x) = Enc.enc x := fzE_noid id _ (Enc.noid x)
theorem shp_fzE {P : Program} {t : TypeId} (id : Nat) (x : A) : shp P t (fzE id x) = shp P t x := by
  cases x with
  | own i off len cb ex => rw [fzE_own]; split <;> rfl
  | agg cs => simp [shp]
  | _ => simp
theorem rep_fzE {P : Program} {w : World} {F : Fz} {μ : Mu} (id : Nat) : ∀ (x : A) (v : Value), Rep P w F μ x v → Rep P w F μ (fzE id x) v
  | .own i off len cb ex, v, h => by
    rw [fzE_own]
    split
    · rename_i q
      obtain ⟨_, rfl, rfl, rfl⟩ := q
      cases h with
      | own _ _ off len cb ex b bs cap ty n hμ' hsh hfit hlen' hcb hmax hex ao hat =>
        have := hex rfl
        subst this
        exact .slnil _ _ _
      | ownn _ _ _ a => exact .slnil _ _ _
    · exact h
  | .agg cs, v, h => by
    rw [fzE_agg]
    cases h with
    | agg _ _ vs hlen h1 h =>
      refine .agg _ _ vs (by simpa using hlen) h1 fun i c u hc hu => ?_
      simp only [List.getElem?_map, Option.map_eq_some_iff] at hc
      obtain ⟨c0, hc0, rfl⟩ := hc
      have : SizeOf.sizeOf c0 < SizeOf.sizeOf cs := List.sizeOf_lt_of_mem (List.mem_of_getElem? hc0)
      exact rep_fzE id c0 u (h i c0 u hc0 hu)
  | .int _ _, v, h => by rw [fzE_int]; exact h
  | .bool _, v, h => by rw [fzE_bool]; exact h
  | .ub, v, h => by rw [fzE_ub]; exact h
  | .str _, v, h => by rw [fzE_str]; exact h
  | .sl _ _, v, h => by rw [fzE_sl]; exact h
  | .ptr _, v, h => by rw [fzE_ptr]; exact h
  | .pto _ _ _ _, v, h => by rw [fzE_pto]; exact h
  | .nptr, v, h => by rw [fzE_nptr]; exact h
  | .tup _, v, h => by rw [fzE_tup]; exact h
  | .fn _ _, v, h => by rw [fzE_fn]; exact h
  | .nfn, v, h => by rw [fzE_nfn]; exact h
  | .mp _, v, h => by rw [fzE_mp]; exact h
  | .any, v, h => by rw [fzE_any]; exact h
termination_by x => SizeOf.sizeOf x
decreasing_by simp_wf; omega
def fzRE (id : Nat) (r : Row) : Row := ⟨r.ty, r.sz, r.es.map (fzE id), r.f, r.live⟩
@[simp] theorem fzRE_mk (id : Nat) (ty : TypeId) (sz : Nat) (cs : List A) (f : Nat) (l : Bool) : fzRE id ⟨ty, sz, cs, f, l⟩ = ⟨ty, sz, cs.map (fzE id), f, l⟩ := rfl
theorem Fof_fzRE (id : Nat) (μ : Mu) (H : List Row) : Fof μ (H.map (fzRE id)) = Fof μ H := by
  funext b o
  refine propext ⟨?_, ?_⟩
  · rintro ⟨i, r, bs, h1, h2, h3, h4⟩
    simp only [List.getElem?_map, Option.map_eq_some_iff] at h1
    obtain ⟨r', h1, rfl⟩ := h1
    exact ⟨i, r', bs, h1, h2, h3, h4⟩
  · rintro ⟨i, r, bs, h1, h2, h3, h4⟩
    exact ⟨i, fzRE id r, bs, by simp [h1], h2, h3, h4⟩
theorem Ft_fzRE (id : Nat) (F0 : Fz) (μ : Mu) (H : List Row) : Ft F0 μ (H.map (fzRE id)) = Ft F0 μ H := by unfold Ft; rw [Fof_fzRE]
theorem Wk.fzE {P : Program} {X : Ctx} {t : List A} {H : List Row} (id : Nat) : Wk P X ⟨t, H⟩ ⟨t.map (fzE id), H.map (fzRE id)⟩ := by
  intro a w μ hs
  have back : ∀ (i : Nat) (y : Row), (H.map (fzRE id))[i]? = some y → ∃ x, H[i]? = some x ∧ fzRE id x = y := by
    intro i y hy
    rw [List.getElem?_map, Option.map_eq_some_iff] at hy
    exact hy
  refine ⟨μ, by rw [hs.len]; simp, ?_, ⟨?_, hs.hs.bound, ?_, ?_, ?_⟩, ?_, hs.pre, hs.defers⟩
  · intro i x hx
    obtain ⟨y, hy, rfl⟩ : ∃ y, t[i]? = some y ∧ AL.fzE id y = x := by simpa using hx
    simp only [Ft_fzRE]
    exact rep_fzE id _ _ (hs.rep i y hy)
  · rw [hs.hs.len]; simp
  · intro i y b bs hy hly hb
    obtain ⟨x, hx, rfl⟩ := back i y hy
    rw [Ft_fzRE]
    rcases hs.hs.row i x b bs hx hly hb with ⟨cur, c1, c2, c3, c4, c5⟩ | ⟨m1, m2, m3, ms, clock, m4, m5, m6⟩
    · refine .inl ⟨cur, c1, c2, c3, by simpa [fzRE] using c4, fun k e he => ?_⟩
      obtain ⟨e0, he0, rfl⟩ : ∃ e0, x.es[k]? = some e0 ∧ AL.fzE id e0 = e := by simpa [fzRE] using he
      obtain ⟨q1, V, q2, q3⟩ := c5 k e0 he0
      exact ⟨by rw [shp_fzE]; exact q1, V, rep_fzE id _ _ q2, q3⟩
    · refine .inr ⟨m1, m2, m3, ms, clock, m4, by simpa [fzRE] using m5, fun k e m he hm => ?_⟩
      obtain ⟨e0, he0, rfl⟩ : ∃ e0, x.es[k]? = some e0 ∧ AL.fzE id e0 = e := by simpa [fzRE] using he
      obtain ⟨ka, va, rfl, q2, q3⟩ := m6 k e0 m he0 hm
      exact ⟨ka, va, by simp, q2, q3⟩
  · intro i j r r' b bs bs' h1 h2 h3 h4 h5 h6
    obtain ⟨x, hx, rfl⟩ := back i r h1
    obtain ⟨x', hx', rfl⟩ := back j r' h3
    exact hs.hs.inj i j x x' b bs bs' hx h2 hx' h4 h5 h6
  · intro i r b bs o h1 h2 h3
    obtain ⟨x, hx, rfl⟩ := back i r h1
    exact hs.hs.sep i x b bs o hx h2 h3
  · rw [Fof_fzRE]
    exact hs.adv
/-- From here on the slice (empty or not) is not written any more. -/
theorem awp_fzE {P : Program} {X : Ctx} {c : Code} {Q : AX → S → Prop} {t : List A} {H : List Row} (id : Nat) (hA : awp P X c Q ⟨t.map (fzE id), H.map (fzRE id)⟩) : awp P X c Q ⟨t, H⟩ := awp_weaken (Wk.fzE id) hA

/-! A slice that grows, in its row. -/
section
variable {α : Type} [Enc α]
def fzB (id : Nat) (l : List α) (x : A) : A := match l with
  | [] => fzE id x
  | a :: m => fzS id ((a :: m).map Enc.enc) x
theorem fzB_nil (id : Nat) (x : A) : fzB id ([] : List α) x = fzE id x := rfl
theorem fzB_ne (id : Nat) {l : List α} (h : l ≠ []) (x : A) : fzB id l x = fzS id (l.map Enc.enc) x := by
  cases l with
  | nil => exact absurd rfl h
  | cons a m => rfl
@[simp] theorem fzB_int (id : Nat) (l : List α) (k : IntKind) (n : Int) : fzB id l (.int k n) = .int k n := by cases l <;> simp [fzB]
@[simp] theorem fzB_bool (id : Nat) (l : List α) (b : Bool) : fzB id l (.bool b) = .bool b := by cases l <;> simp [fzB]
@[simp] theorem fzB_str (id : Nat) (l : List α) (s : List UInt8) : fzB id l (.str s) = .str s := by cases l <;> simp [fzB]
@[simp] theorem fzB_sl (id : Nat) (l : List α) (f : Bool) (es : List A) : fzB id l (.sl f es) = .sl f es := by cases l <;> simp [fzB]
@[simp] theorem fzB_ptr (id : Nat) (l : List α) (d : A) : fzB id l (.ptr d) = .ptr d := by cases l <;> simp [fzB]
@[simp] theorem fzB_pto (id : Nat) (l : List α) (i sz j co : Nat) : fzB id l (.pto i sz j co) = .pto i sz j co := by cases l <;> simp [fzB]
@[simp] theorem fzB_nptr (id : Nat) (l : List α) : fzB id l .nptr = .nptr := by cases l <;> simp [fzB]
@[simp] theorem fzB_nfn (id : Nat) (l : List α) : fzB id l .nfn = .nfn := by cases l <;> simp [fzB]
@[simp] theorem fzB_fn (id : Nat) (l : List α) (f : FuncId) (cs : List A) : fzB id l (.fn f cs) = .fn f cs := by cases l <;> simp [fzB]
@[simp] theorem fzB_tup (id : Nat) (l : List α) (cs : List A) : fzB id l (.tup cs) = .tup cs := by cases l <;> simp [fzB]
@[simp] theorem fzB_mp (id : Nat) (l : List α) (i : Nat) : fzB id l (.mp i) = .mp i := by cases l <;> simp [fzB]
@[simp] theorem fzB_any (id : Nat) (l : List α) : fzB id l .any = .any := by cases l <;> simp [fzB]
@[simp] theorem fzB_agg (id : Nat) (l : List α) (cs : List A) : fzB id l (.agg cs) = .agg (cs.map (fzB id l)) := by
  cases l with
  | nil => rw [fzB_nil, fzE_agg]; rfl
  | cons a m => rw [fzB_ne id (by simp), fzS_agg]; rfl
@[simp] theorem fzB_Ls {β : Type} [Enc β] (id : Nat) (l : List α) (f : Bool) (m : List β) : fzB id l (Ls f m) = Ls f m := by cases l <;> simp [fzB]
@[simp] theorem fzB_self (id : Nat) (l : List α) : fzB id l (B id l) = Ls false l := by
  cases l with
  | nil => rw [fzB_nil]; simp [B, Ls]
  | cons a m =>
    rw [fzB_ne id (by simp)]
    have : (m.map Enc.enc).take m.length = m.map Enc.enc := List.take_of_length_le (by simp)
    simp [B, Ls, this]
theorem fzB_other {β : Type} [Enc β] {id i : Nat} (l : List α) (m : List β) (h : i ≠ id) : fzB id l (B i m) = B i m := by
  cases l <;> simp [fzB, B, h]
def fzRB (id : Nat) (l : List α) (r : Row) : Row := ⟨r.ty, r.sz, r.es.map (fzB id l), r.f, r.live⟩
@[simp] theorem fzRB_mk (id : Nat) (l : List α) (ty : TypeId) (sz : Nat) (cs : List A) (f : Nat) (v : Bool) : fzRB id l ⟨ty, sz, cs, f, v⟩ = ⟨ty, sz, cs.map (fzB id l), f, v⟩ := rfl
@[simp] theorem fzRB_RF {β : Type} [Enc β] (id : Nat) (l : List α) (ty : TypeId) (m : List β) (f : Nat) : fzRB id l (RF ty m f) = RF ty m f := by
  cases m with
  | nil => rfl
  | cons b m =>
    rw [RF_ne (by simp), fzRB_mk]
    congr 1
    rw [List.map_map]
    refine List.map_congr_left fun x _ => ?_
    cases l <;> simp [fzB]
theorem awp_fzB {P : Program} {X : Ctx} {c : Code} {Q : AX → S → Prop} {t : List A} {H : List Row} (id : Nat) (ty : TypeId) (l : List α) (f : Nat) (h : H[id]? = some (RF ty l f)) (hA : awp P X c Q ⟨t.map (fzB id l), (H.set id dead0).map (fzRB id l)⟩) : awp P X c Q ⟨t, H⟩ := by
  cases l with
  | nil =>
    have e : H.set id dead0 = H := by
      refine List.ext_getElem? fun i => ?_
      rw [List.getElem?_set]
      split
      · rename_i q
        subst q
        have hid := (List.getElem?_eq_some_iff.1 h).1
        rw [if_pos hid, h]
        rfl
      · rfl
    rw [e] at hA
    exact awp_fzE id hA
  | cons a m =>
    rw [RF_ne (by simp)] at h
    exact awp_fzS id h rfl (noidL_enc _) hA
end
end Go.AL
