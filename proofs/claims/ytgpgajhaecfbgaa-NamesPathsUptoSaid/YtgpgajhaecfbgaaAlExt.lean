/- An abstract layer over the walk, 23: a call of a function without a body, by the model's own entry. No program in sight. -/
import Derived.Test.YtgpgajhaecfbgaaAlFrm
import Derived.Lib.Bytealg
namespace Go.AL

theorem run_ext {P : Program} {fid : FuncId} {fn : Func} {e : Array Value → Sem Value} (hf : P.funcs[fid]? = some fn) (hname : (fn.name == "runtime.NumGoroutine") = false) (hb : fn.body.isNone = true) (hn : Extern.findNext fn = none) (he : Extern.find fn = some e)
    {a : Act} {as : Array Operand} {ts : Array TypeId} {v : Value} {w : World} (hv : (e (as.map a.eval)).run P w = .ok v w) (dst : Option Tmp) (type : TypeId) (pos : String) (aft : Array Edge) (g : Option (Nat × Bool)) :
    (execOp a.eval ⟨dst, .call ⟨.value (.func fid), as, ts⟩, type, pos, aft, g⟩).run P w = .ok (.value v) w := by
  have e1 : (#[] ++ Array.map a.eval as ++ #[] : Array Value) = as.map a.eval := by simp
  simp only [execOp, Sem.run_bind, resolve, Act.eval, Deferred.ofValue, Sem.run_pure, Result.andThen, invoke, e1]
  rw [run_callFunc_extern hf hname hb hn he, hv]
  rfl

/-- One operation: what it yields is told by the entry. -/
theorem alist_ext {P : Program} {X : Ctx} {ops : Array Oper} {Q : AX → S → Prop} {rest : List Oper} {s : S} {dst : Option Tmp} {type : TypeId} {pos : String} {aft : Array Edge} {as : Array Operand} {ts : Array TypeId} {fid : FuncId} {fn : Func} {e : Array Value → Sem Value} (r : A)
    (hf : P.funcs[fid]? = some fn) (hname : (fn.name == "runtime.NumGoroutine") = false) (hb : fn.body.isNone = true) (hn : Extern.findNext fn = none) (he : Extern.find fn = some e)
    (hx : ∀ (a : Act) (w : World) (μ : Mu), Sim P X s a w μ → ∃ v, (e (as.map a.eval)).run P w = .ok v w ∧ Rep P w (Ft X.F0 μ s.h) μ r v)
    (hK : alist P X ops Q rest ⟨put s.t dst r, s.h⟩) : alist P X ops Q (⟨dst, .call ⟨.value (.func fid), as, ts⟩, type, pos, aft, none⟩ :: rest) s := by
  intro a w μ hS
  unfold wpList
  rw [if_pos (by rfl)]
  refine .inl ?_
  obtain ⟨v, h1, h2⟩ := hx a w μ hS
  unfold Oper.wp
  rw [run_ext hf hname hb hn he h1]
  obtain ⟨μ', h4⟩ := sim_step (d := dst) hS (Res.same hS.hs h2)
  exact hK _ _ μ' h4

/-- One operation that yields a value and leaves the world as it is. -/
theorem alist_op {P : Program} {X : Ctx} {ops : Array Oper} {Q : AX → S → Prop} {rest : List Oper} {o : Oper} {s : S} (r : A) (hg : o.guard = none)
    (hx : ∀ (a : Act) (w : World) (μ : Mu), Sim P X s a w μ → ∃ v, (execOp a.eval o).run P w = .ok (.value v) w ∧ Rep P w (Ft X.F0 μ s.h) μ r v)
    (hK : alist P X ops Q rest ⟨put s.t o.dst r, s.h⟩) : alist P X ops Q (o :: rest) s := by
  intro a w μ hS
  unfold wpList
  rw [if_pos (by simp [Region.wanted, hg])]
  refine .inl ?_
  obtain ⟨v, h1, h2⟩ := hx a w μ hS
  unfold Oper.wp
  rw [h1]
  obtain ⟨μ', h4⟩ := sim_step (d := o.dst) hS (Res.same hS.hs h2)
  exact hK _ _ μ' h4
/-- A live slice, read off. -/
theorem Sim.read {P : Program} {X : Ctx} {s : S} {a : Act} {w : World} {μ : Mu} (hS : Sim P X s a w μ) (x : Operand) {y : A} (h : resA P s.h 4 (ev s.t x) = some y) : Rep P w X.F0 [] y (a.eval x) :=
  s_resA hS.hs (fun _ _ hf => .inl hf) (fun i r b bs o hx hl hb _ => hS.hs.sep i r b bs o hx hl hb) (hS.eval x) h
theorem alist_cons {P : Program} {X : Ctx} {ops : Array Oper} {Q : AX → S → Prop} {rest : List Oper} {o : Oper} {s : S} (hg : o.guard = none) (h : stepK P o (alist P X ops Q rest) s) : alist P X ops Q (o :: rest) s :=
  fun _ _ _ hS => alist_step (fun _ h => h) hS (by simp [Region.wanted, hg]) h
theorem alist_nil {P : Program} {X : Ctx} {ops : Array Oper} {Q : AX → S → Prop} {s : S} (h : Q .normal s) : alist P X ops Q [] s := vcOps_sound [] s h
@[congr] theorem alist_congr {P : Program} {X : Ctx} {ops : Array Oper} {Q : AX → S → Prop} {l : List Oper} {s s' : S} (e : s = s') : alist P X ops Q l s = alist P X ops Q l s' := by rw [e]
theorem awp_list {P : Program} {X : Ctx} {id : Nat} {l : List Oper} {Q : AX → S → Prop} {s : S} (h : alist P X l.toArray Q l s) : awp P X (.region id l.toArray false) Q s :=
  fun a w μ hS => wp_region_list (by simpa using h a w μ hS)

/-- The first place of a byte. -/
theorem indexByte_idx (c : UInt8) : ∀ l : List UInt8, Lib.indexByte l c = idxZ (fun b => decide (b = c)) l
  | [] => rfl
  | b :: l => by
    have ih := indexByte_idx c l
    unfold Lib.indexByte
    unfold idxZ at ih ⊢
    rw [List.findIdx_cons]
    by_cases h : b = c
    · simp [h]
    · have hf : (fun b => decide (b = c)) b = false := by simpa using h
      rw [if_neg (by simpa using h)]
      simp only [hf, cond_false, List.length_cons]
      by_cases h2 : l.findIdx (fun b => decide (b = c)) < l.length
      · rw [if_pos h2] at ih
        have h3 : l.findIdx (fun b => decide (b = c)) + 1 < l.length + 1 := by omega
        have : (((l.findIdx fun b => decide (b = c)) : Int) == -1) = false := by rw [beq_eq_false_iff_ne]; omega
        rw [ih, this, if_neg (by decide), if_pos h3]
        omega
      · rw [if_neg h2] at ih
        have h3 : ¬ l.findIdx (fun b => decide (b = c)) + 1 < l.length + 1 := by omega
        rw [ih, if_pos (by decide), if_neg h3]
end Go.AL
