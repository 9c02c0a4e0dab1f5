/- An abstract layer over the walk, 21: the code as one condition, with some drawn regions left for the prover ('bl': their numbers). No program in sight. -/
import Derived.Test.YtnahhdbheeinfaaAlNew
namespace Go.AL

def allLexB (bl : List Nat) : Code → Bool
  | .region id ops true => !pureB ops.toList || bl.contains id || Region.lexB .any ops
  | .seq x y => allLexB bl x && allLexB bl y
  | .cond _ x y => allLexB bl x && allLexB bl y
  | .block _ c => allLexB bl c
  | .loop c => allLexB bl c
  | _ => true

def vcB (P : Program) (X : Ctx) (bl : List Nat) : Code → (AX → S → Prop) → S → Prop
  | .skip, Q, s => Q .normal s
  | .region id ops false, Q, s => if bl.contains id = true then awp P X (.region id ops false) Q s else vcOps P ops Q ops.toList s
  | .region id ops true, Q, s => if (pureB ops.toList && !bl.contains id) = true then vcQ P ops (Q .normal) ops.toList s else awp P X (.region id ops true) Q s
  | .seq x y, Q, s => vcB P X bl x (thenK (vcB P X bl y Q) Q) s
  | .cond c x y, Q, s => condK (ev s.t c) (vcB P X bl x Q s) (vcB P X bl y Q s)
  | .block id c, Q, s => vcB P X bl c (blockK id Q) s
  | .exit id, Q, s => Q (.exit id) s
  | .ret, Q, s => Q .ret s
  | c, Q, s => awp P X c Q s

theorem vcB_sound {P : Program} {X : Ctx} (bl : List Nat) (hm : P.follows .mixedOrders = true) : ∀ (c : Code) (Q : AX → S → Prop) (s : S), allLexB bl c = true → vcB P X bl c Q s → awp P X c Q s
  | .skip, Q, s, _, h => awp_skip h
  | .region id ops false, Q, s, _, h => by
    simp only [vcB] at h
    split at h
    · exact h
    · exact fun a w μ hS => wp_region_list (vcOps_sound _ _ h a w μ hS)
  | .region id ops true, Q, s, hl, h => by
    simp only [vcB] at h
    split at h
    · rename_i hp
      simp only [Bool.and_eq_true] at hp
      simp only [allLexB, hp.1, Bool.not_true, Bool.false_or] at hl
      have hb : bl.contains id = false := by simpa using hp.2
      simp only [hb, Bool.false_or] at hl
      exact awp_draw hm hl hp.1 h
    · exact h
  | .seq x y, Q, s, hl, h => by
    simp only [allLexB, Bool.and_eq_true] at hl
    exact awp_seq (awp_mono (vcB_sound bl hm x _ _ hl.1 h) fun e s' h' => by
      cases e with
      | normal => exact vcB_sound bl hm y _ _ hl.2 h'
      | exit id => exact h'
      | ret => exact h')
  | .cond c x y, Q, s, hl, h => by
    simp only [allLexB, Bool.and_eq_true] at hl
    exact awp_cond (by
      revert h
      simp only [vcB]
      unfold condK
      split
      · exact fun h => ⟨fun hb => vcB_sound bl hm x _ _ hl.1 (h.1 hb), fun hb => vcB_sound bl hm y _ _ hl.2 (h.2 hb)⟩
      · exact fun h => ⟨vcB_sound bl hm x _ _ hl.1 h.1, vcB_sound bl hm y _ _ hl.2 h.2⟩
      · exact id)
  | .block id c, Q, s, hl, h => awp_block (vcB_sound bl hm c _ _ hl h)
  | .exit id, Q, s, _, h => awp_exit h
  | .ret, Q, s, _, h => awp_ret h
  | .loop _, _, _, _, h => h
  | .rangeFunc .., _, _, _, h => h
  | .scope _, _, _, _, h => h
  | .label _, _, _, _, h => h
  | .goto _, _, _, _, h => h
  | .refuse _, _, _, _, h => h

/-- A contract out of a condition on the body. -/
theorem xcall_ofA {P : Program} {f : FuncId} {fn : Func} {c : Code} {args : List A} {H : List Row} {R : A → List Row → Prop} (hf : P.funcs[f]? = some fn) (hb : fn.body = some c) (hn : (fn.name == "runtime.NumGoroutine") = false)
    (h : ∀ X : Ctx, X.μ.length ≤ H.length → awp P X c (retX P fn.results R) ⟨args ++ List.replicate (fn.ntmps - args.length) .any, H⟩) : XCall P f args H R := by
  refine ⟨by simp [callable, hf, hb, hn], fun w F0 μ vs hs hl => ?_⟩
  refine calls_of_wp hf hb (Code.wp_mono ?_ (h ⟨w, μ, Fof μ H, F0⟩ (by simp [hs.len]) _ _ μ (sim_start hs hl fn.ntmps)))
  rintro e a' w' ⟨x, s', μ', rfl, hQ, hS⟩
  have fin : obind (ares P s'.h s'.t fn.results) (fun r => R r s'.h) → a'.defers = [] ∧ ∃ v, (results fn a'.tmps).run P w' = .ok v w' ∧ ∃ v' r H', Ending.returned v = .returned v' ∧ R r H' ∧ Res P w F0 μ H v' w' r H' := by
    intro hQ
    refine ⟨hS.defers, ?_⟩
    cases hr : ares P s'.h s'.t fn.results with
    | none => rw [hr] at hQ; exact hQ.elim
    | some r =>
      rw [hr] at hQ
      obtain ⟨v, h1, h2⟩ := s_ares hS hr
      exact ⟨v, h1, v, r, s'.h, rfl, hQ, μ', hS.hs, hS.adv, hS.pre, h2⟩
  cases x with
  | normal => exact fin hQ
  | ret => exact fin hQ
  | exit id => exact hQ.elim

theorem fcall_ofA {P : Program} {f : FuncId} {fn : Func} {c : Code} {args : List A} {R : A → Prop} (hf : P.funcs[f]? = some fn) (hb : fn.body = some c) (hn : (fn.name == "runtime.NumGoroutine") = false)
    (h : ∀ X : Ctx, X.μ.length ≤ 0 → awp P X c (retF P fn.results R) ⟨args ++ List.replicate (fn.ntmps - args.length) .any, []⟩) : FCall P f args R := by
  have hx : XCall P f args [] (fun r H => obind (resA P H 4 r) fun r => R (wkA r)) := by
    refine xcall_ofA hf hb hn fun X hX => ?_
    have : retX P fn.results (fun r H => obind (resA P H 4 r) fun r => R (wkA r)) = retF P fn.results R := by
      funext x s
      cases x <;> rfl
    rw [this]
    exact h X hX
  refine ⟨hx.1, fun w F0 vs hbd hl => ?_⟩
  have hnil : ∀ b o, ¬ Fof ([] : Mu) [] b o := by rintro b o ⟨i, r, bs, h1, _⟩; simp at h1
  refine (hx.2 w F0 [] vs (HS.nil hbd) ?_).mono ?_
  · have e : Ft F0 [] [] = F0 := by funext b o; exact propext ⟨fun h => h.elim id fun h => (hnil b o h).elim, .inl⟩
    rw [e]; exact hl
  · rintro e w' ⟨v, r, H', rfl, hR, μ', h1, h2, h3, h4⟩
    cases hr : resA P H' 4 r with
    | none => rw [hr] at hR; exact hR.elim
    | some r' =>
      rw [hr] at hR
      refine ⟨v, wkA r', rfl, hR, (s_resA h1 (fun b o hf => .inl hf) (fun i x b bs o hx hl hb _ => h1.sep i x b bs o hx hl hb) h4 hr).wk, ?_⟩
      exact ⟨h2.os, h2.tape, h2.output, h2.size, fun b o u hc _ => h2.cell b o u hc (hnil b o), fun _ _ _ hf => hf.elim, h2.shape, fun b hb _ => h2.block b hb fun o => hnil b o⟩

/-- The same, with drawn regions that are left for the prover. -/
theorem fcall_ofB {P : Program} {f : FuncId} {fn : Func} {c : Code} {args : List A} {R : A → Prop} (bl : List Nat) (hf : P.funcs[f]? = some fn) (hb : fn.body = some c) (hn : (fn.name == "runtime.NumGoroutine") = false) (hm : P.follows .mixedOrders = true) (hlx : allLexB bl c = true)
    (h : ∀ X : Ctx, X.μ.length ≤ 0 → vcB P X bl c (retF P fn.results R) ⟨args ++ List.replicate (fn.ntmps - args.length) .any, []⟩) : FCall P f args R :=
  fcall_ofA hf hb hn fun X hX => vcB_sound bl hm c _ _ hlx (h X hX)
theorem xcall_ofB {P : Program} {f : FuncId} {fn : Func} {c : Code} {args : List A} {H : List Row} {R : A → List Row → Prop} (bl : List Nat) (hf : P.funcs[f]? = some fn) (hb : fn.body = some c) (hn : (fn.name == "runtime.NumGoroutine") = false) (hm : P.follows .mixedOrders = true) (hlx : allLexB bl c = true)
    (h : ∀ X : Ctx, X.μ.length ≤ H.length → vcB P X bl c (retX P fn.results R) ⟨args ++ List.replicate (fn.ntmps - args.length) .any, H⟩) : XCall P f args H R :=
  xcall_ofA hf hb hn fun X hX => vcB_sound bl hm c _ _ hlx (h X hX)

section
variable {P : Program} {X : Ctx} {bl : List Nat} {Q : AX → S → Prop} {s : S}
@[congr] theorem vcB_congr {c : Code} {Q : AX → S → Prop} {s s' : S} (e : s = s') : vcB P X bl c Q s = vcB P X bl c Q s' := by rw [e]
@[simp] theorem vcB_skip : vcB P X bl .skip Q s = Q .normal s := by rw [vcB]
@[simp] theorem vcB_region (id : Nat) (ops : List Oper) : vcB P X bl (.region id ops.toArray false) Q s = if bl.contains id = true then awp P X (.region id ops.toArray false) Q s else vcOps P ops.toArray Q ops s := by rw [vcB]
@[simp] theorem vcB_seq (x y : Code) : vcB P X bl (.seq x y) Q s = vcB P X bl x (thenK (vcB P X bl y Q) Q) s := by rw [vcB]
@[simp] theorem vcB_cond (c : Operand) (x y : Code) : vcB P X bl (.cond c x y) Q s = condK (ev s.t c) (vcB P X bl x Q s) (vcB P X bl y Q s) := by rw [vcB]
@[simp] theorem vcB_block (id : Nat) (c : Code) : vcB P X bl (.block id c) Q s = vcB P X bl c (blockK id Q) s := by rw [vcB]
@[simp] theorem vcB_exit (id : Nat) : vcB P X bl (.exit id) Q s = Q (.exit id) s := by rw [vcB]
@[simp] theorem vcB_ret : vcB P X bl .ret Q s = Q .ret s := by rw [vcB]
@[simp] theorem vcB_loop (c : Code) : vcB P X bl (.loop c) Q s = awp P X (.loop c) Q s := by rw [vcB] <;> simp
@[simp] theorem vcB_draw (id : Nat) (ops : List Oper) : vcB P X bl (.region id ops.toArray true) Q s = if (pureB ops && !bl.contains id) = true then vcQ P ops.toArray (Q .normal) ops s else awp P X (.region id ops.toArray true) Q s := by rw [vcB]
end
end Go.AL
