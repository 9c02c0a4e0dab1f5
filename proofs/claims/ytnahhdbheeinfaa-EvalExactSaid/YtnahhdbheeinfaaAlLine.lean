/- An abstract layer over the walk, 12b: a body of straight lines that only reads names the very value. No program in sight. -/
import Derived.Test.YtnahhdbheeinfaaAlAuto
namespace Go.AL
def noCall (l : List Oper) : Bool := l.all fun o => o.guard.isNone && (match o.op with | .call c => (match c.callee with | .value _ => false | _ => true) | _ => true)

def vcL (P : Program) : Code → (S → Prop) → (S → Prop) → S → Prop
  | .region _ ops false, K, _, s => pureB ops.toList = true ∧ noCall ops.toList = true ∧ vcQ P ops K ops.toList s
  | .seq x y, K, R, s => vcL P x (vcL P y K R) R s
  | .ret, _, R, s => R s
  | _, _, _, _ => False

@[simp] theorem vcL_region (P : Program) (id : Nat) (ops : List Oper) (K R : S → Prop) (s : S) : vcL P (.region id ops.toArray false) K R s = (pureB ops = true ∧ noCall ops = true ∧ vcQ P ops.toArray K ops s) := by rw [vcL]
@[simp] theorem vcL_seq (P : Program) (x y : Code) (K R : S → Prop) (s : S) : vcL P (.seq x y) K R s = vcL P x (vcL P y K R) R s := by rw [vcL]
@[simp] theorem vcL_ret (P : Program) (K R : S → Prop) (s : S) : vcL P .ret K R s = R s := by rw [vcL]
attribute [simp] noCall

theorem line_list {P : Program} {X : Ctx} {ops : Array Oper} {K : S → Prop} {w : World} {μ : Mu} : ∀ (l : List Oper) (s : S) (a : Act), pureB l = true → noCall l = true → vcQ P ops K l s → Sim P X s a w μ →
    ∃ s' a', K s' ∧ Sim P X s' a' w μ ∧ ∀ w', Adv w NoF w' NoF → ∀ R : Exit → Act → World → Prop, R .normal a' w' → wpList P ops R l a w'
  | [], s, a, _, _, h, hS => ⟨s, a, h, hS, fun _ _ _ h => h⟩
  | o :: rest, s, a, hp, hc, h, hS => by
    simp only [pureB, Bool.and_eq_true] at hp
    simp only [noCall, List.all_cons, Bool.and_eq_true] at hc
    have hg : o.guard = none := Option.isNone_iff_eq_none.1 hc.1.1
    simp only [vcQ, hg] at h
    have h' : obind (aop P s.h (ev s.t) o.op) (finK o.dst (vcQ P ops K rest) s.t) := by
      unfold stepQ at h
      split at h
      · rename_i c hcc
        split at h
        · rename_i f hf
          have := hc.1.2
          simp [hcc, hf] at this
        · exact h
      · exact h
    cases hop : aop P s.h (ev s.t) o.op with
    | none => rw [hop] at h'; exact h'.elim
    | some y =>
      obtain ⟨r, H'⟩ := y
      rw [hop] at h'
      obtain ⟨rfl, v, h1, h2⟩ := s_pure (a := a) o hp.1 hS.hs hS.eval hop
      obtain ⟨s', a', k1, k2, k3⟩ := line_list rest _ _ hp.2 hc.2 h' (hS.put o.dst hS.hs (Adv.refl _ _) (List.prefix_refl _) h2)
      refine ⟨s', a', k1, k2, fun w' hw R hR => ?_⟩
      unfold wpList
      rw [if_pos (by simp [Region.wanted, hg])]
      refine .inl ?_
      unfold Oper.wp
      rw [h1 w' hw]
      exact k3 w' hw R hR

theorem line_code {P : Program} {X : Ctx} {w : World} {μ : Mu} : ∀ (c : Code) (K R : S → Prop) (s : S) (a : Act), vcL P c K R s → Sim P X s a w μ →
    ∃ x s' a', ((x = Exit.normal ∧ K s') ∨ (x = Exit.ret ∧ R s')) ∧ Sim P X s' a' w μ ∧ ∀ w', Adv w NoF w' NoF → c.wp P (fun e b w'' => e = x ∧ b = a' ∧ w'' = w') a w'
  | .region id ops false, K, R, s, a, h, hS => by
    obtain ⟨h1, h2, h3⟩ := h
    obtain ⟨s', a', k1, k2, k3⟩ := line_list ops.toList s a h1 h2 h3 hS
    refine ⟨.normal, s', a', .inl ⟨rfl, k1⟩, k2, fun w' hw => wp_region_list (k3 w' hw _ ⟨rfl, rfl, rfl⟩)⟩
  | .seq x y, K, R, s, a, h, hS => by
    obtain ⟨e, s1, a1, h1, h2, h3⟩ := line_code x _ R s a h hS
    rcases h1 with ⟨rfl, h1⟩ | ⟨rfl, h1⟩
    · obtain ⟨e', s2, a2, g1, g2, g3⟩ := line_code y K R s1 a1 h1 h2
      refine ⟨e', s2, a2, g1, g2, fun w' hw => wp_seq (wp_mono (h3 w' hw) ?_)⟩
      rintro _ _ _ ⟨rfl, rfl, rfl⟩
      exact g3 _ hw
    · refine ⟨.ret, s1, a1, .inr ⟨rfl, h1⟩, h2, fun w' hw => wp_seq (wp_mono (h3 w' hw) ?_)⟩
      rintro _ _ _ ⟨rfl, rfl, rfl⟩
      exact ⟨rfl, rfl, rfl⟩
  | .ret, K, R, s, a, h, hS => ⟨.ret, s, a, .inr ⟨rfl, h⟩, hS, fun w' _ => wp_ret ⟨rfl, rfl, rfl⟩⟩

/-- The value of a straight line that only reads. -/
theorem ecall_line {P : Program} {f : FuncId} {fn : Func} {c : Code} {args : List A} {x : Nat} {r : A} (hf : P.funcs[f]? = some fn) (hb : fn.body = some c) (hn : (fn.name == "runtime.NumGoroutine") = false) (hr : fn.results = #[.tmp x])
    (h : vcL P c (fun s => s.t.getD x .any = r) (fun s => s.t.getD x .any = r) ⟨args ++ List.replicate (fn.ntmps - args.length) .any, []⟩) : ECall P f args r := by
  refine ⟨by simp [callable, hf, hb, hn], fun w F0 vs hbd hl => ?_⟩
  have hnil : ∀ b o, ¬ Fof ([] : Mu) [] b o := by rintro b o ⟨i, r, bs, h1, _⟩; simp at h1
  have e : Ft F0 [] [] = F0 := by funext b o; exact propext ⟨fun h => h.elim id fun h => (hnil b o h).elim, .inl⟩
  have hS := sim_start (HS.nil (P := P) hbd) (by rw [e]; exact hl) fn.ntmps
  obtain ⟨y, s', a', h1, h2, h3⟩ := line_code c _ _ _ _ h hS
  have hx : s'.t.getD x .any = r := by rcases h1 with ⟨_, h1⟩ | ⟨_, h1⟩ <;> exact h1
  have hv := h2.eval (.tmp x)
  have hev : ev s'.t (.tmp x) = r := hx
  rw [hev] at hv
  refine ⟨a'.eval (.tmp x), ?_, fun w' hw => calls_of_wp hf hb (wp_mono (h3 w' hw) ?_)⟩
  · have : s'.h = [] := List.eq_nil_of_length_eq_zero (by have := h2.hs.len; simpa using this.symm)
    rw [this, e] at hv
    exact hv
  · rintro e1 b1 w1 ⟨he, hb1, hw1⟩
    rw [he, hb1, hw1]
    have hd := h2.defers
    have hres : (results fn a'.tmps).run P w' = .ok (a'.eval (.tmp x)) w' := by
      rw [results_eq, Sem.run_bind, Array.mapM_eq_mapM_toList, map_eq_pure_bind, Sem.run_bind]
      rw [hr]
      simp [resSem]
      exact Array.getD_eq_getD_getElem?.symm
    have : a'.defers = [] ∧ ∃ v, (results fn a'.tmps).run P w' = .ok v w' ∧ (Ending.returned v = .returned (a'.eval (.tmp x)) ∧ Adv w' NoF w' NoF) := ⟨hd, a'.eval (.tmp x), hres, rfl, Adv.refl _ _⟩
    rcases h1 with ⟨rfl, _⟩ | ⟨rfl, _⟩ <;> exact this

/-- A call by a contract that names the very value: nothing is forgotten of the result. -/
theorem xcall_e {P : Program} {f : FuncId} {args : List A} {H : List Row} {r : A} {K : A → List Row → Prop} (h : ECall P f args r) (hn : noidL args = true) (hK : K r H) : XCall P f args H K := by
  refine ⟨h.1, fun w F0 μ vs hs hl => ?_⟩
  obtain ⟨v, h1, h2⟩ := h.2 w (Ft F0 μ H) vs (fun b o hf => hs.lt hf) (RepL.noid hn hl)
  refine (h2 w (Adv.refl _ _)).mono ?_
  rintro e w' ⟨rfl, h3⟩
  exact ⟨v, r, H, rfl, hK, μ, hs.ofNo h3, h3.ofNo _, List.prefix_refl _, (h1.adv (h3.ofNo _) (List.prefix_refl _)).mono (fun _ _ _ h => h) List.nil_prefix⟩
end Go.AL
