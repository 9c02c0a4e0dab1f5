/- An abstract layer over the walk, 23: a call of a function without a body, by the model's own entry. No program in sight. -/
import Derived.Test.YtnahhdbheeinfaaAlFrm
import Derived.Lib.Bytealg
import Derived.Lib.AppendZerosOnto
namespace Go.AL

theorem run_ext {P : Program} {fid : FuncId} {fn : Func} {e : Array Value → Sem Value} (hf : P.funcs[fid]? = some fn) (hname : (fn.name == "runtime.NumGoroutine") = false) (hb : fn.body.isNone = true) (hn : Extern.findNext fn = none) (he : Extern.find fn = some e)
    {a : Act} {as : Array Operand} {ts : Array TypeId} {v : Value} {w : World} (hv : (e (as.map a.eval)).run P w = .ok v w) (dst : Option Tmp) (type : TypeId) (pos : String) (aft : Array Edge) (g : Option (Nat × Bool)) :
    (execOp a.eval ⟨dst, .call ⟨.value (.func fid), as, ts⟩, type, pos, aft, g⟩).run P w = .ok (.value v) w := by
  have e1 : (#[] ++ Array.map a.eval as ++ #[] : Array Value) = as.map a.eval := by simp
  simp only [execOp, Sem.run_bind, resolve, Act.eval, Deferred.ofValue, Sem.run_pure, Result.andThen, invoke, e1]
  rw [run_callFunc_extern hf hname hb hn he, hv]
  rfl

/-- One operation: what it yields is told by the entry. -/
theorem alist_ext {P : Program} {X : Ctx} {ops : Array Oper} {Q : AX → S → Prop} {rest : List Oper} {s : S} {dst : Option Tmp} {type : TypeId} {pos : String} {aft : Array Edge} {as : Array Operand} {ts : Array TypeId} {fid : FuncId} {fn : Func} {e : Array Value → Sem Value} (r : A)
    (hf : P.funcs[fid]? = some fn) (hname : (fn.name == "runtime.NumGoroutine") = false) (hb : fn.body.isNone = true) (hn : Extern.findNext fn = none) (he : Extern.find fn = some e)
    (hx : ∀ (a : Act) (w : World) (μ : Mu), Sim P X s a w μ → ∃ v, (e (as.map a.eval)).run P w = .ok v w ∧ Rep P w (Ft X.F0 μ s.h) μ r v)
    (hK : alist P X ops Q rest ⟨put s.t dst r, s.h⟩) : alist P X ops Q (⟨dst, .call ⟨.value (.func fid), as, ts⟩, type, pos, aft, none⟩ :: rest) s := by
  intro a w μ hS
  unfold wpList
  rw [if_pos (by rfl)]
  refine .inl ?_
  obtain ⟨v, h1, h2⟩ := hx a w μ hS
  unfold Oper.wp
  rw [run_ext hf hname hb hn he h1]
  obtain ⟨μ', h4⟩ := sim_step (d := dst) hS (Res.same hS.hs h2)
  exact hK _ _ μ' h4

/-- One operation that yields a value and leaves the world as it is. -/
theorem alist_op {P : Program} {X : Ctx} {ops : Array Oper} {Q : AX → S → Prop} {rest : List Oper} {o : Oper} {s : S} (r : A) (hg : o.guard = none)
    (hx : ∀ (a : Act) (w : World) (μ : Mu), Sim P X s a w μ → ∃ v, (execOp a.eval o).run P w = .ok (.value v) w ∧ Rep P w (Ft X.F0 μ s.h) μ r v)
    (hK : alist P X ops Q rest ⟨put s.t o.dst r, s.h⟩) : alist P X ops Q (o :: rest) s := by
  intro a w μ hS
  unfold wpList
  rw [if_pos (by simp [Region.wanted, hg])]
  refine .inl ?_
  obtain ⟨v, h1, h2⟩ := hx a w μ hS
  unfold Oper.wp
  rw [h1]
  obtain ⟨μ', h4⟩ := sim_step (d := o.dst) hS (Res.same hS.hs h2)
  exact hK _ _ μ' h4
/-- A live slice, read off. -/
theorem Sim.read {P : Program} {X : Ctx} {s : S} {a : Act} {w : World} {μ : Mu} (hS : Sim P X s a w μ) (x : Operand) {y : A} (h : resA P s.h 4 (ev s.t x) = some y) : Rep P w X.F0 [] y (a.eval x) :=
  s_resA hS.hs (fun _ _ hf => .inl hf) (fun i r b bs o hx hl hb _ => hS.hs.sep i r b bs o hx hl hb) (hS.eval x) h
/-- One operation that may make a row. -/
theorem alist_opw {P : Program} {X : Ctx} {ops : Array Oper} {Q : AX → S → Prop} {rest : List Oper} {o : Oper} {s : S} (r : A) (H' : List Row) (hg : o.guard = none)
    (hx : ∀ (a : Act) (w : World) (μ : Mu), Sim P X s a w μ → ∃ v w', (execOp a.eval o).run P w = .ok (.value v) w' ∧ Res P w X.F0 μ s.h v w' r H')
    (hK : alist P X ops Q rest ⟨put s.t o.dst r, H'⟩) : alist P X ops Q (o :: rest) s := by
  intro a w μ hS
  unfold wpList
  rw [if_pos (by simp [Region.wanted, hg])]
  refine .inl ?_
  obtain ⟨v, w', h1, h2⟩ := hx a w μ hS
  unfold Oper.wp
  rw [h1]
  obtain ⟨μ', h4⟩ := sim_step (d := o.dst) hS h2
  exact hK _ _ μ' h4

theorem zeros_flat {P : Program} {w : World} {F : Fz} {μ : Mu} {e : TypeId} {inf : TypeInfo} {z : Value} (hi : P.info? e = some inf) (hzs : z.cells.size = inf.size) (hnz : P.cellsOf e ≠ 0) {zA : A} (hr : Rep P w F μ zA z) (hsh : shp P e zA = true) (len : Nat) :
    Flat P w F μ e (P.cellsOf e) (List.replicate len zA) (Builtin.zeroCells z.cells len).toList := by
  have hci := cellsOf_info hi
  obtain ⟨news, g1, g2⟩ := flat_of (P := P) (w := w) (F := F) (μ := μ) (ty := e) rfl hnz (fun o => (Builtin.zeroCells z.cells len)[o]?) (List.replicate len zA) 0 (fun k x hx => by
    have hk : k < len := by have := (List.getElem?_eq_some_iff.1 hx).1; simpa using this
    simp [hk] at hx
    subst hx
    refine ⟨hsh, z, hr, fun j u hu' => ?_⟩
    have := zeros_get z.cells len k j u hk hu'
    rw [Nat.zero_add, hci, ← hzs]
    exact this)
  have hnews : news = (Builtin.zeroCells z.cells len).toList := by
    apply List.ext_getElem?
    intro k
    have hl1 := g1.len
    have hl2 : (Builtin.zeroCells z.cells len).toList.length = news.length := by rw [Array.length_toList, size_zeroC, hl1, hci, hzs]; simp
    by_cases hk : k < news.length
    · have := g2 k news[k] (List.getElem?_eq_getElem hk)
      rw [List.getElem?_eq_getElem hk]
      rw [Nat.zero_add] at this
      rw [← this]; simp
    · rw [List.getElem?_eq_none (by omega), List.getElem?_eq_none (by omega)]
  rw [← hnews]
  exact g1

/-- 'append' of so many zero values to nothing. -/
theorem s_appendZeros {P : Program} {w : World} {F0 : Fz} {μ : Mu} {H : List Row} (hs : HS P w F0 μ H) {t tn ty e : TypeId} {kq kn : IntKind} {z : A} {bytes : Nat} (ht : P.underlying t = some (.slice e)) (htn : P.underlying tn = some (.int kn)) (hz : zbox P e = some (z, bytes)) (hsh : shp P e z = true) (hnz : P.cellsOf e ≠ 0)
    (a : Option Addr) (n : Nat) (h0 : 0 < n) (h63 : n ≤ 9223372036854775807) (h48 : n * bytes ≤ 140737488355328) :
    ∃ v w', (Builtin.append_ #[t, tn] ty #[.slice a 0 0, .int kq n]).run P w = .ok v w' ∧ Res P w F0 μ H v w' (.own H.length 0 n n false) (H ++ [⟨e, P.cellsOf e, List.replicate n z, 0, true⟩]) := by
  obtain ⟨inf, zv, hi, hzv, hzs, rfl, rfl⟩ := zbox_some hz
  have hci := cellsOf_info hi
  have hold : (Builtin.firstCells inf.size 0 (.slice a 0 0)).run P w.drew = .ok ([] : List Value).toArray w.drew := run_first (by simp) (fun _ => rfl) (.inl rfl) _ rfl
  have hnc : Builtin.nextslicecap (0 + n) 0 = n := by rw [Nat.zero_add]; exact nextslicecap_zero h0
  have r := Lib.run_append_grow_zeros (P := P) w t tn ty e inf zv kq kn ht htn hi hzv a 0 0 [] hold n h0 (by omega) (by omega) (by omega) (by omega) (by rw [hnc]; omega)
  refine ⟨_, _, r, ?_⟩
  have hgc := grown_le w (0 + n) 0 e (by omega)
  have hd : (([] : List Value).toArray ++ Builtin.zeroCells zv.cells n : Array Value) = (Builtin.zeroCells zv.cells n).toList.toArray := by simp
  rw [hd]
  have hfl := zeros_flat (P := P) (w := w) (F := Ft F0 μ H) (μ := μ) hi hzs hnz (rep_ofV zv) hsh n
  have := newOwn hs (e := e) (cap := grownCap w (0 + n) 0 e) (es := List.replicate n (ofV zv)) (vals := (Builtin.zeroCells zv.cells n).toList) (pad := Builtin.zeroCells zv.cells (grownCap w (0 + n) 0 e - (0 + n))) hnz hfl
    hgc.2 (by rw [size_zeroC, hzs, ← hci, hfl.len, List.length_replicate, ← Nat.add_mul]; congr 1; omega) n false 0 (by simp) (by omega) (by simp) _ (pushed_drew_alloc w _)
  obtain ⟨k1, k2, k3⟩ := this
  refine ⟨_, k1, k2, List.prefix_append _ _, ?_⟩
  simpa using k3

theorem alist_cons {P : Program} {X : Ctx} {ops : Array Oper} {Q : AX → S → Prop} {rest : List Oper} {o : Oper} {s : S} (hg : o.guard = none) (h : stepK P o (alist P X ops Q rest) s) : alist P X ops Q (o :: rest) s :=
  fun _ _ _ hS => alist_step (fun _ h => h) hS (by simp [Region.wanted, hg]) h
theorem alist_nil {P : Program} {X : Ctx} {ops : Array Oper} {Q : AX → S → Prop} {s : S} (h : Q .normal s) : alist P X ops Q [] s := vcOps_sound [] s h
@[congr] theorem alist_congr {P : Program} {X : Ctx} {ops : Array Oper} {Q : AX → S → Prop} {l : List Oper} {s s' : S} (e : s = s') : alist P X ops Q l s = alist P X ops Q l s' := by rw [e]
theorem awp_list {P : Program} {X : Ctx} {id : Nat} {l : List Oper} {Q : AX → S → Prop} {s : S} (h : alist P X l.toArray Q l s) : awp P X (.region id l.toArray false) Q s :=
  fun a w μ hS => wp_region_list (by simpa using h a w μ hS)

/-- A region that was left, walked after all. -/
theorem awp_ops {P : Program} {X : Ctx} {id : Nat} {l : List Oper} {Q : AX → S → Prop} {s : S} (h : vcOps P l.toArray Q l s) : awp P X (.region id l.toArray false) Q s := awp_list (vcOps_sound l s h)

/-- The first place of a byte. -/
theorem indexByte_idx (c : UInt8) : ∀ l : List UInt8, Lib.indexByte l c = idxZ (fun b => decide (b = c)) l
  | [] => rfl
  | b :: l => by
    have ih := indexByte_idx c l
    unfold Lib.indexByte
    unfold idxZ at ih ⊢
    rw [List.findIdx_cons]
    by_cases h : b = c
    · simp [h]
    · have hf : (fun b => decide (b = c)) b = false := by simpa using h
      rw [if_neg (by simpa using h)]
      simp only [hf, cond_false, List.length_cons]
      by_cases h2 : l.findIdx (fun b => decide (b = c)) < l.length
      · rw [if_pos h2] at ih
        have h3 : l.findIdx (fun b => decide (b = c)) + 1 < l.length + 1 := by omega
        have : (((l.findIdx fun b => decide (b = c)) : Int) == -1) = false := by rw [beq_eq_false_iff_ne]; omega
        rw [ih, this, if_neg (by decide), if_pos h3]
        omega
      · rw [if_neg h2] at ih
        have h3 : ¬ l.findIdx (fun b => decide (b = c)) + 1 < l.length + 1 := by omega
        rw [ih, if_pos (by decide), if_neg h3]
end Go.AL
