/- An abstract layer over the walk, 10: all operations but calls of Go functions. No program in sight. -/
import Derived.Test.YtnahhdbheeinfaaAlMp
namespace Go.AL

def abuiltin (P : Program) (H : List Row) (b : Builtin) (ts : Array TypeId) (args : List A) : Option (A × List Row) :=
  match b with
  | .len => match args with
    | [x] => (ts[0]?).bind fun t => (alen P t x).map (·, H)
    | _ => none
  | .append => match args with
    | [s, x] => aappend2 P H ts s x
    | _ => none
  | .max => (amaxmin amax2 args).map (·, H)
  | .min => (amaxmin amin2 args).map (·, H)
  | .clear => match args with
    | [x] => (ts[0]?).bind fun t => (aclear P H t x).map (A.tup [], ·)
    | _ => none
  | _ => none

def ownOK (P : Program) (H : List Row) (t : TypeId) (x : A) : Bool :=
  match x with
  | .own id _ _ cb ex => (cb == 0 && ex) || match P.underlying t, H[id]? with
    | some (.slice e), some r => r.live && r.ty == e
    | _, _ => false
  | _ => true

def aop (P : Program) (H : List Row) (ρ : Operand → A) (op : Op) : Option (A × List Row) :=
  match op with
  | .move x => some (ρ x, H)
  | .assign x => some (ρ x, H)
  | .pick c a b => match ρ c with
    | .bool t => some (if t then ρ a else ρ b, H)
    | _ => none
  | .binOp op t x y _ => if nilOp y then (acmpNil P op t (ρ x)).map (·, H) else (abin2 P op t (ρ x) (ρ y)).map (·, H)
  | .unOp op _ x => (aun op (ρ x)).map (·, H)
  | .convert s d x => (aconv P s d (ρ x)).map (·, H)
  | .indexAddr t x i => (aidx P H t (ρ x) (ρ i)).map (·, H)
  | .index t x i => (aindex P t (ρ x) (ρ i)).map (·, H)
  | .load t x => (aload P H t (ρ x)).map (·, H)
  | .store t p x => (astore P H t (ρ p) (ρ x)).map (A.any, ·)
  | .fieldAddr t x f => (afieldAddr P t (ρ x) f).map (·, H)
  | .field t x f => (afield P t (ρ x) f).map (·, H)
  | .extract x i => (aextract (ρ x) i).map (·, H)
  | .slice t x lo hi mx => if ownOK P H t (ρ x) then (aslice P t (ρ x) (lo.map ρ) (hi.map ρ) (mx.map ρ)).map (·, H) else none
  | .nilCheck x => (anilCheck (ρ x)).map (·, H)
  | .build t parts => (abuilt P t (parts.toList.map fun p => (p.1, ρ p.2))).map (·, H)
  | .buildSlice t n parts => abuildSlice P H t n (parts.toList.map fun p => (p.1, ρ p.2))
  | .box t x => abox P H t (ρ x)
  | .alloc t => aalloc P H t
  | .makeSlice t l c => amake2 P H t (ρ l) (ρ c)
  | .makeMap t none => amkmap P H t
  | .lookup t x k ok => (alookup P H t (ρ x) (ρ k) ok).map (·, H)
  | .mapUpdate t m k v => (amapset P H t (ρ m) (ρ k) (ρ v)).map (A.any, ·)
  | .makeFunc (.func f) first caps => if first.size = 0 then some (.fn f (caps.toList.map ρ), H) else none
  | .call c => match c.callee with
    | .builtin b => abuiltin P H b c.argTypes (c.args.toList.map ρ)
    | _ => none
  | _ => none

theorem ownOK_some {P : Program} {H : List Row} {t : TypeId} {y : A} (hok : ownOK P H t y = true) : ∀ e, P.underlying t = some (.slice e) → ∀ id off len cb ex, y = .own id off len cb ex → ¬ (cb = 0 ∧ ex = true) → ∃ r, H[id]? = some r ∧ r.live = true ∧ r.ty = e := by
  intro e hu id off len cb ex hx hroom
  simp only [ownOK, hx, hu, Bool.or_eq_true, Bool.and_eq_true, beq_iff_eq] at hok
  rcases hok with hok | hok
  · exact (hroom hok).elim
  · split at hok
    · rename_i e' r he' hr
      simp only [Option.some.injEq, TypeDesc.slice.injEq] at he'
      subst he'
      simp at hok
      exact ⟨r, hr, hok.1, hok.2⟩
    · cases hok

theorem nilOp_some {y : Operand} (h : nilOp y = true) : y = .const (.slice none 0 0) := by
  unfold nilOp at h
  split at h
  · rfl
  · cases h

theorem repL_map {P : Program} {w : World} {F : Fz} {μ : Mu} {ρ : Operand → A} {e : Operand → Value} (h : ∀ x, Rep P w F μ (ρ x) (e x)) : ∀ (l : List Operand), RepL P w F μ (l.map ρ) (l.map e)
  | [] => trivial
  | x :: xs => ⟨h x, repL_map h xs⟩

theorem repPs_map {P : Program} {w : World} {F : Fz} {μ : Mu} {ρ : Operand → A} {e : Operand → Value} (h : ∀ x, Rep P w F μ (ρ x) (e x)) : ∀ (l : List (Nat × Operand)), RepPs P w F μ (l.map fun p => (p.1, ρ p.2)) (l.map fun p => (p.1, e p.2))
  | [] => trivial
  | x :: xs => ⟨rfl, h x.2, repPs_map h xs⟩

theorem repO_map {P : Program} {w : World} {F : Fz} {μ : Mu} {ρ : Operand → A} {e : Operand → Value} (h : ∀ x, Rep P w F μ (ρ x) (e x)) (o : Option Operand) : RepO P w F μ (o.map ρ) (o.map e) := by
  cases o with
  | none => trivial
  | some x => exact h x

theorem RepL.get {P : Program} {w : World} {F : Fz} {μ : Mu} : ∀ {xs : List A} {vs : List Value}, RepL P w F μ xs vs → vs.length = xs.length ∧ ∀ (i : Nat) (c : A) (u : Value), xs[i]? = some c → vs[i]? = some u → Rep P w F μ c u
  | [], [], _ => ⟨rfl, by simp⟩
  | x :: xs, v :: vs, h => by
    obtain ⟨h1, h2⟩ := RepL.get h.2
    refine ⟨by simp [h1], ?_⟩
    intro i c u hc hu
    cases i with
    | zero => simp at hc hu; subst hc hu; exact h.1
    | succ i => simp at hc hu; exact h2 i c u hc hu
  | [], _ :: _, h => h.elim
  | _ :: _, [], h => h.elim

theorem s_abuiltin {P : Program} {w : World} {F0 : Fz} {μ : Mu} {H H' : List Row} {b : Builtin} {ts : Array TypeId} {ty : TypeId} {cs : Array Bool} {args : List A} {vs : Array Value} {r : A} (hs : HS P w F0 μ H) (hl : RepL P w (Ft F0 μ H) μ args vs.toList) (h : abuiltin P H b ts args = some (r, H')) :
    ∃ v w', (builtin b ts ty cs vs).run P w = .ok (.value v) w' ∧ Res P w F0 μ H v w' r H' := by
  obtain ⟨vs⟩ := vs
  simp only at hl
  unfold abuiltin at h
  split at h
  · split at h
    · rename_i x
      match vs, hl with
      | [v], hl =>
        obtain ⟨t, ht, h⟩ := Option.bind_eq_some_iff.1 h
        obtain ⟨q, hq, h⟩ := Option.map_eq_some_iff.1 h
        cases h
        obtain ⟨u, h1, h2⟩ := s_alen (ty := ty) ht hl.1 hq
        exact ⟨u, w, by simp [builtin, h1 w trivial], Res.same hs h2⟩
      | _ :: _ :: _, hl => exact hl.2.elim
      | [], hl => exact hl.elim
    · cases h
  · split at h
    · rename_i s x
      match vs, hl with
      | [v1, v2], hl =>
        obtain ⟨v', w', h1, h2⟩ := s_aappend2 (ty := ty) hs hl.1 hl.2.1 h
        exact ⟨v', w', by simp [builtin, h1], h2⟩
      | [_], hl => exact hl.2.elim
      | _ :: _ :: _ :: _, hl => exact hl.2.2.elim
      | [], hl => exact hl.elim
    · cases h
  · obtain ⟨q, hq, h⟩ := Option.map_eq_some_iff.1 h
    cases h
    match args, vs, hl, hq with
    | x :: xs, v :: vs, hl, hq =>
      obtain ⟨u, h1, h2⟩ := s_afold (g := Builtin.max2) (fun _ _ _ _ _ hx hy h => s_amax2 hx hy h) xs vs x _ v hl.1 hl.2 hq
      exact ⟨u, w, by simp [builtin, Builtin.max_, h1 w trivial], Res.same hs h2⟩
    | [], _, _, hq => cases hq
    | _ :: _, [], hl, _ => exact hl.elim
  · obtain ⟨q, hq, h⟩ := Option.map_eq_some_iff.1 h
    cases h
    match args, vs, hl, hq with
    | x :: xs, v :: vs, hl, hq =>
      obtain ⟨u, h1, h2⟩ := s_afold (g := Builtin.min2) (fun _ _ _ _ _ hx hy h => s_amin2 hx hy h) xs vs x _ v hl.1 hl.2 hq
      exact ⟨u, w, by simp [builtin, Builtin.min_, h1 w trivial], Res.same hs h2⟩
    | [], _, _, hq => cases hq
    | _ :: _, [], hl, _ => exact hl.elim
  · split at h
    · rename_i x
      match vs, hl with
      | [v], hl =>
        obtain ⟨t, ht, h⟩ := Option.bind_eq_some_iff.1 h
        obtain ⟨q, hq, h⟩ := Option.map_eq_some_iff.1 h
        cases h
        obtain ⟨w', h1, h2, h3⟩ := s_aclear (ty := ty) hs ht hl.1 hq
        exact ⟨_, w', by simp [builtin, h1], μ, h2, h3, List.prefix_refl _, .tup _ [] [] rfl (by simp)⟩
      | _ :: _ :: _, hl => exact hl.2.elim
      | [], hl => exact hl.elim
    · cases h
  · cases h

/-- What an operation yields. -/
def OpRes (P : Program) (w : World) (F0 : Fz) (μ : Mu) (H : List Row) (s : Sem Next) (r : A) (H' : List Row) : Prop :=
  ∃ nx v w', s.run P w = .ok nx w' ∧ (nx = .value v ∨ (nx = .skip ∧ v = undef)) ∧ Res P w F0 μ H v w' r H'

theorem OpRes.ofLoad {P : Program} {w : World} {F0 : Fz} {μ : Mu} {H : List Row} {s : Sem Value} {r : A} (hs : HS P w F0 μ H) (h : ∃ u, (∀ w', Adv w NoF w' NoF → s.run P w' = .ok u w') ∧ Rep P w (Ft F0 μ H) μ r u) :
    OpRes P w F0 μ H (do pure (.value (← s))) r H := by
  obtain ⟨u, h1, h2⟩ := h
  exact ⟨_, u, w, by simp [h1 w (Adv.refl _ _)], .inl rfl, Res.same hs h2⟩

theorem OpRes.ofPure {P : Program} {w : World} {F0 : Fz} {μ : Mu} {H : List Row} {s : Sem Value} {r : A} (hs : HS P w F0 μ H) (h : ∃ u, (∀ w', Cn w w' → s.run P w' = .ok u w') ∧ Rep P w (Ft F0 μ H) μ r u) :
    OpRes P w F0 μ H (do pure (.value (← s))) r H := by
  obtain ⟨u, h1, h2⟩ := h
  exact ⟨_, u, w, by simp [h1 w trivial], .inl rfl, Res.same hs h2⟩

theorem OpRes.ofRes {P : Program} {w : World} {F0 : Fz} {μ : Mu} {H H' : List Row} {s : Sem Value} {r : A} (h : ∃ v' w', s.run P w = .ok v' w' ∧ Res P w F0 μ H v' w' r H' ∧ Adv w NoF w' NoF) :
    OpRes P w F0 μ H (do pure (.value (← s))) r H' := by
  obtain ⟨u, w', h1, h2, _⟩ := h
  exact ⟨_, u, w', by simp [h1], .inl rfl, h2⟩

theorem s_aop {P : Program} {w : World} {F0 : Fz} {μ : Mu} {H H' : List Row} {ρ : Operand → A} {a : Act} {r : A} (o : Oper) (hs : HS P w F0 μ H) (hev : ∀ x, Rep P w (Ft F0 μ H) μ (ρ x) (a.eval x)) (h : aop P H ρ o.op = some (r, H')) :
    OpRes P w F0 μ H (execOp a.eval o) r H' := by
  obtain ⟨dst, op, type, pos, aft, g⟩ := o
  simp only at h
  cases op with
  | move x => cases h; exact ⟨_, a.eval x, w, rfl, .inl rfl, Res.same hs (hev x)⟩
  | assign x => cases h; exact ⟨_, a.eval x, w, rfl, .inl rfl, Res.same hs (hev x)⟩
  | pick c x y =>
    simp only [aop] at h
    split at h
    · rename_i t hc; cases h
      have hb := hev c
      rw [hc] at hb
      have hb := hb.bool_inv
      refine ⟨_, if t then a.eval x else a.eval y, w, by simp [execOp, hb, asBool], .inl rfl, Res.same hs ?_⟩
      cases t
      · exact hev y
      · exact hev x
    · cases h
  | binOp op t x y u =>
    simp only [aop] at h
    split at h
    · rename_i hn
      obtain ⟨q, hq, h⟩ := Option.map_eq_some_iff.1 h
      cases h
      rw [nilOp_some hn]
      exact OpRes.ofPure hs (s_acmpNil x (.const (.slice none 0 0)) (hev x) hq)
    · obtain ⟨q, hq, h⟩ := Option.map_eq_some_iff.1 h
      cases h
      exact OpRes.ofPure hs (s_abin2 x y (hev x) (hev y) hq)
  | unOp op t x =>
    obtain ⟨q, hq, h⟩ := Option.map_eq_some_iff.1 h
    cases h
    exact OpRes.ofPure hs (s_aun (hev x) hq)
  | convert s d x =>
    obtain ⟨q, hq, h⟩ := Option.map_eq_some_iff.1 h
    cases h
    exact OpRes.ofPure hs (s_aconv (hev x) hq)
  | indexAddr t x i =>
    obtain ⟨q, hq, h⟩ := Option.map_eq_some_iff.1 h
    cases h
    exact OpRes.ofPure hs (s_aidx hs (hev x) (hev i) hq)
  | index t x i =>
    obtain ⟨q, hq, h⟩ := Option.map_eq_some_iff.1 h
    cases h
    exact OpRes.ofPure hs (s_aindex (hev x) (hev i) hq)
  | load t x =>
    obtain ⟨q, hq, h⟩ := Option.map_eq_some_iff.1 h
    cases h
    exact OpRes.ofLoad hs (s_aload hs (hev x) hq)
  | store t p x =>
    obtain ⟨q, hq, h⟩ := Option.map_eq_some_iff.1 h
    cases h
    obtain ⟨w', h1, h2, h3⟩ := s_astore hs (hev p) (hev x) hq
    exact ⟨.skip, undef, w', by simp [execOp, h1], .inr ⟨rfl, rfl⟩, μ, h2, h3, List.prefix_refl _, .any _ _⟩
  | fieldAddr t x f =>
    obtain ⟨q, hq, h⟩ := Option.map_eq_some_iff.1 h
    cases h
    exact OpRes.ofPure hs (s_afieldAddr (hev x) hq)
  | field t x f =>
    obtain ⟨q, hq, h⟩ := Option.map_eq_some_iff.1 h
    cases h
    exact OpRes.ofPure hs (s_afield (hev x) hq)
  | extract x i =>
    obtain ⟨q, hq, h⟩ := Option.map_eq_some_iff.1 h
    cases h
    exact OpRes.ofPure hs (s_aextract (hev x) hq)
  | slice t x lo hi mx =>
    simp only [aop] at h
    split at h
    · rename_i hok
      obtain ⟨q, hq, h⟩ := Option.map_eq_some_iff.1 h
      cases h
      refine OpRes.ofPure hs (s_aslice hs ?_ (hev x) (repO_map hev lo) (repO_map hev hi) (repO_map hev mx) hq)
      exact ownOK_some hok
    · cases h
  | nilCheck x =>
    obtain ⟨q, hq, h⟩ := Option.map_eq_some_iff.1 h
    cases h
    obtain ⟨h1, h2⟩ := s_anilCheck (hev x) hq dst type pos aft g
    subst h2
    exact ⟨_, a.eval x, w, h1 w, .inl rfl, Res.same hs (hev x)⟩
  | build t parts =>
    obtain ⟨q, hq, h⟩ := Option.map_eq_some_iff.1 h
    cases h
    exact OpRes.ofPure hs (s_abuilt (by simpa using repPs_map hev parts.toList) hq)
  | buildSlice t n parts => exact OpRes.ofRes (s_abuildSlice hs (by simpa using repPs_map hev parts.toList) h)
  | box t x => exact OpRes.ofRes (s_newVar hs (hev x) h)
  | alloc t => exact OpRes.ofRes (s_aalloc hs h)
  | makeSlice t l c => exact OpRes.ofRes (s_amake2 hs (hev l) (hev c) h)
  | makeMap t reserve =>
    cases reserve with
    | none => exact OpRes.ofRes (s_amkmap hs h)
    | some x => cases h
  | lookup t x k ok =>
    obtain ⟨q, hq, h⟩ := Option.map_eq_some_iff.1 h
    cases h
    exact OpRes.ofLoad hs (s_alookup hs (hev x) (hev k) hq)
  | mapUpdate t m k v =>
    obtain ⟨q, hq, h⟩ := Option.map_eq_some_iff.1 h
    cases h
    obtain ⟨w', h1, h2, h3⟩ := s_amapset hs (hev m) (hev k) (hev v) hq
    exact ⟨.skip, undef, w', by simp [execOp, h1], .inr ⟨rfl, rfl⟩, μ, h2, h3, List.prefix_refl _, .any _ _⟩
  | makeFunc fn first caps =>
    cases fn with
    | func f =>
      simp only [aop] at h
      split at h
      · rename_i h0; cases h
        have hf : first = #[] := Array.eq_empty_of_size_eq_zero h0
        subst hf
        have hl := RepL.get (repL_map hev caps.toList)
        refine ⟨_, .func (.func f) #[] ⟨caps.toList.map a.eval⟩, w, ?_, .inl rfl, Res.same hs (.fn _ _ _ _ hl.1 hl.2)⟩
        simp [execOp, Instr.makeFunc]
        apply Array.ext'; simp
      · cases h
    | _ => cases h
  | call c =>
    simp only [aop] at h
    split at h
    · rename_i b hb
      have hl : RepL P w (Ft F0 μ H) μ (c.args.toList.map ρ) (c.args.map a.eval).toList := by simpa using repL_map hev c.args.toList
      obtain ⟨v, w', h1, h2⟩ := s_abuiltin (ty := type) (cs := c.args.map fun | .const _ => true | _ => false) hs hl h
      refine ⟨_, v, w', ?_, .inl rfl, h2⟩
      simp only [execOp, Sem.run_bind, resolve, hb, Sem.run_pure, Result.andThen, invoke]
      exact h1
    · cases h
  | _ => cases h
/-- Operations that make memory, and write nothing that was there. -/
def allocOp : Op → Bool
  | .box .. | .alloc _ | .buildSlice .. | .makeSlice .. | .makeMap .. => true
  | _ => false

theorem s_alloc {P : Program} {w : World} {F0 : Fz} {μ : Mu} {H H' : List Row} {ρ : Operand → A} {a : Act} {r : A} (o : Oper) (ho : allocOp o.op = true) (hs : HS P w F0 μ H) (hev : ∀ x, Rep P w (Ft F0 μ H) μ (ρ x) (a.eval x)) (h : aop P H ρ o.op = some (r, H')) :
    ∃ v w', (execOp a.eval o).run P w = .ok (.value v) w' ∧ Res P w F0 μ H v w' r H' ∧ Adv w NoF w' NoF := by
  obtain ⟨dst, op, type, pos, aft, g⟩ := o
  simp only at h ho
  have of : ∀ {s : Sem Value} {r : A} {H' : List Row}, (∃ v' w', s.run P w = .ok v' w' ∧ Res P w F0 μ H v' w' r H' ∧ Adv w NoF w' NoF) → ∃ v w', ((do pure (.value (← s))) : Sem Next).run P w = .ok (.value v) w' ∧ Res P w F0 μ H v w' r H' ∧ Adv w NoF w' NoF := by
    rintro s r H' ⟨u, w', h1, h2, h3⟩
    exact ⟨u, w', by simp [h1], h2, h3⟩
  cases op with
  | buildSlice t n parts => exact of (s_abuildSlice hs (by simpa using repPs_map hev parts.toList) h)
  | box t x => exact of (s_newVar hs (hev x) h)
  | alloc t => exact of (s_aalloc hs h)
  | makeSlice t l c => exact of (s_amake2 hs (hev l) (hev c) h)
  | makeMap t reserve =>
    cases reserve with
    | none => exact of (s_amkmap hs h)
    | some x => cases h
  | _ => cases ho
end Go.AL
