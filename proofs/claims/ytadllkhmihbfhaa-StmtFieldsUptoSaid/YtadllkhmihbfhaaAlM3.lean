/- An abstract layer over the walk, part 3 of 4: Auto, Line, Any, Ren, Typ, Open, Row, Quiet. No program in sight. -/
import Derived.Test.YtadllkhmihbfhaaAlM2
import Derived.OrdersHeld
import Derived.WalkKit
import Derived.ProofKit
import Derived.OpenShut
import Derived.ShutString
import Derived.ChangeOld
import Derived.Below
import Derived.DataReads
import Derived.Carry
/- An abstract layer over the walk, 13: what simp is to unfold. No program in sight. -/
namespace Go.AL
/-! What simp is to look into, and what not: a continuation waits till its state is there. -/
section
variable {P : Program} {X : Ctx}
@[congr] theorem vc_congr {c : Code} {Q : AX → S → Prop} {s s' : S} (e : s = s') : vc P X c Q s = vc P X c Q s' := by rw [e]
@[congr] theorem awp_congr {c : Code} {Q : AX → S → Prop} {s s' : S} (e : s = s') : awp P X c Q s = awp P X c Q s' := by rw [e]
@[congr] theorem vcOps_congr {ops : Array Oper} {Q : AX → S → Prop} {l : List Oper} {s s' : S} (e : s = s') : vcOps P ops Q l s = vcOps P ops Q l s' := by rw [e]
@[congr] theorem vcQ_congr {ops : Array Oper} {Q : S → Prop} {l : List Oper} {s s' : S} (e : s = s') : vcQ P ops Q l s = vcQ P ops Q l s' := by rw [e]
@[congr] theorem stepK_congr {o : Oper} {K : S → Prop} {s s' : S} (e : s = s') : stepK P o K s = stepK P o K s' := by rw [e]
@[congr] theorem stepQ_congr {o : Oper} {K : S → Prop} {s s' : S} (e : s = s') : stepQ P o K s = stepQ P o K s' := by rw [e]
@[congr] theorem obind_congr {α : Type} {x x' : Option α} {K : α → Prop} (e : x = x') : obind x K = obind x' K := by rw [e]
@[congr] theorem finK_congr {d : Option Tmp} {K : S → Prop} {t t' : List A} {y y' : A × List Row} (e1 : t = t') (e2 : y = y') : finK d K t y = finK d K t' y' := by rw [e1, e2]
@[congr] theorem aftK_congr {d : Option Tmp} {K : S → Prop} {t t' : List A} {r r' : A} {H H' : List Row} (e1 : t = t') (e2 : r = r') (e3 : H = H') : aftK d K t r H = aftK d K t' r' H' := by rw [e1, e2, e3]
@[congr] theorem thenK_congr {f : S → Prop} {Q : AX → S → Prop} {x x' : AX} {s s' : S} (e1 : x = x') (e2 : s = s') : thenK f Q x s = thenK f Q x' s' := by rw [e1, e2]
@[congr] theorem blockK_congr {id : Nat} {Q : AX → S → Prop} {x x' : AX} {s s' : S} (e1 : x = x') (e2 : s = s') : blockK id Q x s = blockK id Q x' s' := by rw [e1, e2]
@[congr] theorem condK_congr {c c' : A} {p q : Prop} (e : c = c') : condK c p q = condK c' p q := by rw [e]
@[congr] theorem callK_congr {f f' : A} {as as' : List A} {d : Option Tmp} {K : S → Prop} {s s' : S} (e1 : f = f') (e2 : as = as') (e3 : s = s') : callK P f as d K s = callK P f' as' d K s' := by rw [e1, e2, e3]
@[congr] theorem callQ_congr {f f' : A} {as as' : List A} {d : Option Tmp} {K : S → Prop} {s s' : S} (e1 : f = f') (e2 : as = as') (e3 : s = s') : callQ P f as d K s = callQ P f' as' d K s' := by rw [e1, e2, e3]
@[congr] theorem XCall_congr {f : FuncId} {as as' : List A} {H H' : List Row} {K : A → List Row → Prop} (e1 : as = as') (e2 : H = H') : XCall P f as H K = XCall P f as' H' K := by rw [e1, e2]
end

/-- A guard: what it reads is put down, so that the next one with the same guard needs no second split. -/
def gK (g : A) (i : Option Tmp) (want : Bool) (d : Option Tmp) (p q : S → Prop) (s : S) : Prop :=
  match g with
  | .bool b => (b = want → p ⟨AL.put s.t i (.bool want), s.h⟩) ∧ (b = !want → q ⟨AL.put (AL.put s.t i (.bool (!want))) d (.tup []), s.h⟩)
  | .tup [] => q ⟨AL.put s.t d (.tup []), s.h⟩
  | _ => False

@[congr] theorem gK_congr {g g' : A} {i : Option Tmp} {want : Bool} {d : Option Tmp} {p q : S → Prop} {s s' : S} (e1 : g = g') (e2 : s = s') : gK g i want d p q s = gK g' i want d p q s' := by rw [e1, e2]
@[simp] theorem gK_und (i : Option Tmp) (want : Bool) (d : Option Tmp) (p q : S → Prop) (s : S) : gK (.tup []) i want d p q s = q ⟨AL.put s.t d (.tup []), s.h⟩ := rfl
@[simp] theorem gK_tt (i : Option Tmp) (d : Option Tmp) (p q : S → Prop) (s : S) : gK (.bool true) i true d p q s = p ⟨AL.put s.t i (.bool true), s.h⟩ := by simp [gK]
@[simp] theorem gK_ff (i : Option Tmp) (d : Option Tmp) (p q : S → Prop) (s : S) : gK (.bool false) i false d p q s = p ⟨AL.put s.t i (.bool false), s.h⟩ := by simp [gK]
@[simp] theorem gK_tf (i : Option Tmp) (d : Option Tmp) (p q : S → Prop) (s : S) : gK (.bool true) i false d p q s = q ⟨AL.put (AL.put s.t i (.bool true)) d (.tup []), s.h⟩ := by simp [gK]
@[simp] theorem gK_ft (i : Option Tmp) (d : Option Tmp) (p q : S → Prop) (s : S) : gK (.bool false) i true d p q s = q ⟨AL.put (AL.put s.t i (.bool false)) d (.tup []), s.h⟩ := by simp [gK]
@[simp low] theorem gK_bool (b : Bool) (i : Option Tmp) (want : Bool) (d : Option Tmp) (p q : S → Prop) (s : S) : gK (.bool b) i want d p q s = ((b = want → p ⟨AL.put s.t i (.bool want), s.h⟩) ∧ (b = !want → q ⟨AL.put (AL.put s.t i (.bool (!want))) d (.tup []), s.h⟩)) := by rw [gK]

theorem put_same {t : List A} {d : Nat} {b : Bool} (h : t.getD d .any = .bool b) : AL.put t (some d) (.bool b) = t := by
  show t.set d (.bool b) = t
  by_cases hd : d < t.length
  · rw [List.getD_eq_getElem?_getD, List.getElem?_eq_getElem hd] at h
    simp only [Option.getD_some] at h
    rw [← h]
    exact List.set_getElem_self hd
  · rw [List.set_eq_of_length_le (by omega)]

theorem gK_eq (ops : Array Oper) (j : Nat) (want : Bool) (d : Option Tmp) (p q : S → Prop) (s : S) : gK (gval ops s.t j) ((ops[j]?).bind (·.dst)) want d p q s = guardK (gval ops s.t j) want (p s) (q ⟨AL.put s.t d (.tup []), s.h⟩) := by
  unfold gK guardK
  cases hg : gval ops s.t j with
  | bool b =>
    simp only
    unfold gval at hg
    cases hd : (ops[j]?).bind (·.dst) with
    | none => rw [hd] at hg; cases hg
    | some i =>
      rw [hd] at hg
      have e := put_same hg
      apply propext
      constructor
      · rintro ⟨h1, h2⟩
        exact ⟨fun e' => by subst e'; have := h1 rfl; rwa [e] at this, fun e' => by subst e'; have := h2 rfl; rwa [e] at this⟩
      · rintro ⟨h1, h2⟩
        exact ⟨fun e' => by subst e'; rw [e]; exact h1 rfl, fun e' => by subst e'; rw [e]; exact h2 rfl⟩
  | tup vs => cases vs <;> rfl
  | _ => rfl

/-! The steps of the condition, as equations that are no matter of unfolding (else the kernel is to find the way by itself). -/
section
variable (P : Program) (X : Ctx) (Q : AX → S → Prop) (s : S)
@[simp] theorem vc_skip : vc P X .skip Q s = Q .normal s := by rw [vc]
@[simp] theorem vc_region (id : Nat) (ops : List Oper) : vc P X (.region id ops.toArray false) Q s = vcOps P ops.toArray Q ops s := by rw [vc]
@[simp] theorem vc_seq (x y : Code) : vc P X (.seq x y) Q s = vc P X x (thenK (vc P X y Q) Q) s := by rw [vc]
@[simp] theorem vc_cond (c : Operand) (x y : Code) : vc P X (.cond c x y) Q s = condK (ev s.t c) (vc P X x Q s) (vc P X y Q s) := by rw [vc]
@[simp] theorem vc_block (id : Nat) (c : Code) : vc P X (.block id c) Q s = vc P X c (blockK id Q) s := by rw [vc]
@[simp] theorem vc_exit (id : Nat) : vc P X (.exit id) Q s = Q (.exit id) s := by rw [vc]
@[simp] theorem vc_ret : vc P X .ret Q s = Q .ret s := by rw [vc]
@[simp] theorem vc_loop (c : Code) : vc P X (.loop c) Q s = awp P X (.loop c) Q s := by rw [vc] <;> simp
@[simp] theorem vc_draw (id : Nat) (ops : List Oper) : vc P X (.region id ops.toArray true) Q s = if pureB ops = true then vcQ P ops.toArray (Q .normal) ops s else awp P X (.region id ops.toArray true) Q s := by rw [vc]
@[simp] theorem vcQ_nil (ops : Array Oper) (Q : S → Prop) : vcQ P ops Q [] s = Q s := by rw [vcQ]
@[simp] theorem vcQ_plain (ops : Array Oper) (Q : S → Prop) (d : Option Tmp) (op : Op) (ty : TypeId) (pos : String) (aft : Array Edge) (rest : List Oper) : vcQ P ops Q (⟨d, op, ty, pos, aft, none⟩ :: rest) s = stepQ P ⟨d, op, ty, pos, aft, none⟩ (vcQ P ops Q rest) s := by rw [vcQ]
@[simp] theorem vcQ_guard (ops : Array Oper) (Q : S → Prop) (d : Option Tmp) (op : Op) (ty : TypeId) (pos : String) (aft : Array Edge) (j : Nat) (want : Bool) (rest : List Oper) : vcQ P ops Q (⟨d, op, ty, pos, aft, some (j, want)⟩ :: rest) s = gK (gval ops s.t j) ((ops[j]?).bind (·.dst)) want d (stepQ P ⟨d, op, ty, pos, aft, some (j, want)⟩ (vcQ P ops Q rest)) (vcQ P ops Q rest) s := by rw [gK_eq, vcQ]
@[simp] theorem callQ_fn (fid : FuncId) (caps args : List A) (d : Option Tmp) (K : S → Prop) : callQ P (.fn fid caps) args d K s = (noidL (args ++ caps) = true ∧ ∃ r, ECall P fid (args ++ caps) r ∧ K ⟨put s.t d r, s.h⟩) := by rw [callQ]
@[simp] theorem thenK_normal (f : S → Prop) : thenK f Q .normal s = f s := by rw [thenK]
@[simp] theorem thenK_exit (f : S → Prop) (id : Nat) : thenK f Q (.exit id) s = Q (.exit id) s := by simp only [thenK]
@[simp] theorem thenK_ret (f : S → Prop) : thenK f Q .ret s = Q .ret s := by simp only [thenK]
@[simp] theorem blockK_normal (id : Nat) : blockK id Q .normal s = Q .normal s := by simp only [blockK]
@[simp] theorem blockK_ret (id : Nat) : blockK id Q .ret s = Q .ret s := by simp only [blockK]
@[simp] theorem blockK_exit (id id' : Nat) : blockK id Q (.exit id') s = if id' = id then Q .normal s else Q (.exit id') s := by rw [blockK]
@[simp] theorem vcOps_nil (ops : Array Oper) : vcOps P ops Q [] s = Q .normal s := by rw [vcOps]
@[simp] theorem vcOps_plain (ops : Array Oper) (d : Option Tmp) (op : Op) (ty : TypeId) (pos : String) (aft : Array Edge) (rest : List Oper) : vcOps P ops Q (⟨d, op, ty, pos, aft, none⟩ :: rest) s = stepK P ⟨d, op, ty, pos, aft, none⟩ (vcOps P ops Q rest) s := by rw [vcOps]
@[simp] theorem vcOps_guard (ops : Array Oper) (d : Option Tmp) (op : Op) (ty : TypeId) (pos : String) (aft : Array Edge) (j : Nat) (want : Bool) (rest : List Oper) : vcOps P ops Q (⟨d, op, ty, pos, aft, some (j, want)⟩ :: rest) s = gK (gval ops s.t j) ((ops[j]?).bind (·.dst)) want d (stepK P ⟨d, op, ty, pos, aft, some (j, want)⟩ (vcOps P ops Q rest)) (vcOps P ops Q rest) s := by rw [gK_eq, vcOps]
@[simp] theorem obind_some {α : Type} (x : α) (K : α → Prop) : obind (some x) K = K x := by rw [obind]
@[simp] theorem obind_none {α : Type} (K : α → Prop) : obind none K = False := by rw [obind]
@[simp] theorem obind_ite {α : Type} (c : Prop) [Decidable c] (x : Option α) (K : α → Prop) : obind (if c then x else none) K = (c ∧ obind x K) := by
  by_cases h : c <;> simp [h]
@[simp] theorem finK_mk (d : Option Tmp) (K : S → Prop) (t : List A) (r : A) (H : List Row) : finK d K t (r, H) = K ⟨put t d r, H⟩ := by rw [finK]
@[simp] theorem aftK_mk (d : Option Tmp) (K : S → Prop) (t : List A) (r : A) (H : List Row) : aftK d K t r H = K ⟨put t d r, H⟩ := by rw [aftK]
@[simp] theorem condK_true (p q : Prop) : condK (.bool true) p q = p := by simp [condK]
@[simp] theorem condK_false (p q : Prop) : condK (.bool false) p q = q := by simp [condK]
@[simp] theorem condK_ub (p q : Prop) : condK .ub p q = (p ∧ q) := by rw [condK]
@[simp low] theorem condK_bool (b : Bool) (p q : Prop) : condK (.bool b) p q = ((b = true → p) ∧ (b = false → q)) := by rw [condK]
@[simp] theorem guardK_bool (b w : Bool) (p q : Prop) : guardK (.bool b) w p q = ((b = w → p) ∧ (b = !w → q)) := by rw [guardK]
@[simp] theorem callK_fn (fid : FuncId) (caps args : List A) (d : Option Tmp) (K : S → Prop) : callK P (.fn fid caps) args d K s = XCall P fid (args ++ caps) s.h (aftK d K s.t) := by rw [callK]
@[simp] theorem retX_normal (rs : Array ResultVar) (R : A → List Row → Prop) : retX P rs R .normal s = obind (ares P s.h s.t rs) fun r => R r s.h := by rw [retX] <;> simp
@[simp] theorem retX_ret (rs : Array ResultVar) (R : A → List Row → Prop) : retX P rs R .ret s = obind (ares P s.h s.t rs) fun r => R r s.h := by rw [retX] <;> simp
@[simp] theorem retF_normal (rs : Array ResultVar) (R : A → Prop) : retF P rs R .normal s = obind (ares P s.h s.t rs) fun r => obind (resA P s.h 4 r) fun r => R (wkA r) := by rw [retF] <;> simp
@[simp] theorem retF_ret (rs : Array ResultVar) (R : A → Prop) : retF P rs R .ret s = obind (ares P s.h s.t rs) fun r => obind (resA P s.h 4 r) fun r => R (wkA r) := by rw [retF] <;> simp
end
@[simp] theorem stepK_move (P : Program) (d : Option Tmp) (x : Operand) (ty : TypeId) (pos : String) (aft : Array Edge) (g : Option (Nat × Bool)) (K : S → Prop) (t0 : List A) (H0 : List Row) : stepK P ⟨d, .move x, ty, pos, aft, g⟩ K ⟨t0, H0⟩ = obind (aop P H0 (ev t0) (.move x)) (finK d K t0) := by rw [stepK]
@[simp] theorem stepK_assign (P : Program) (d : Option Tmp) (x : Operand) (ty : TypeId) (pos : String) (aft : Array Edge) (g : Option (Nat × Bool)) (K : S → Prop) (t0 : List A) (H0 : List Row) : stepK P ⟨d, .assign x, ty, pos, aft, g⟩ K ⟨t0, H0⟩ = obind (aop P H0 (ev t0) (.assign x)) (finK d K t0) := by rw [stepK]
@[simp] theorem stepK_pick (P : Program) (d : Option Tmp) (c a b : Operand) (ty : TypeId) (pos : String) (aft : Array Edge) (g : Option (Nat × Bool)) (K : S → Prop) (t0 : List A) (H0 : List Row) : stepK P ⟨d, .pick c a b, ty, pos, aft, g⟩ K ⟨t0, H0⟩ = obind (aop P H0 (ev t0) (.pick c a b)) (finK d K t0) := by rw [stepK]
@[simp] theorem stepK_binOp (P : Program) (d : Option Tmp) (b : BinOp) (t : TypeId) (x y : Operand) (u : TypeId) (ty : TypeId) (pos : String) (aft : Array Edge) (g : Option (Nat × Bool)) (K : S → Prop) (t0 : List A) (H0 : List Row) : stepK P ⟨d, .binOp b t x y u, ty, pos, aft, g⟩ K ⟨t0, H0⟩ = obind (aop P H0 (ev t0) (.binOp b t x y u)) (finK d K t0) := by rw [stepK]
@[simp] theorem stepK_unOp (P : Program) (d : Option Tmp) (b : UnOp) (t : TypeId) (x : Operand) (ty : TypeId) (pos : String) (aft : Array Edge) (g : Option (Nat × Bool)) (K : S → Prop) (t0 : List A) (H0 : List Row) : stepK P ⟨d, .unOp b t x, ty, pos, aft, g⟩ K ⟨t0, H0⟩ = obind (aop P H0 (ev t0) (.unOp b t x)) (finK d K t0) := by rw [stepK]
@[simp] theorem stepK_convert (P : Program) (d : Option Tmp) (a b : TypeId) (x : Operand) (ty : TypeId) (pos : String) (aft : Array Edge) (g : Option (Nat × Bool)) (K : S → Prop) (t0 : List A) (H0 : List Row) : stepK P ⟨d, .convert a b x, ty, pos, aft, g⟩ K ⟨t0, H0⟩ = obind (aop P H0 (ev t0) (.convert a b x)) (finK d K t0) := by rw [stepK]
@[simp] theorem stepK_indexAddr (P : Program) (d : Option Tmp) (t : TypeId) (x i : Operand) (ty : TypeId) (pos : String) (aft : Array Edge) (g : Option (Nat × Bool)) (K : S → Prop) (t0 : List A) (H0 : List Row) : stepK P ⟨d, .indexAddr t x i, ty, pos, aft, g⟩ K ⟨t0, H0⟩ = obind (aop P H0 (ev t0) (.indexAddr t x i)) (finK d K t0) := by rw [stepK]
@[simp] theorem stepK_index (P : Program) (d : Option Tmp) (t : TypeId) (x i : Operand) (ty : TypeId) (pos : String) (aft : Array Edge) (g : Option (Nat × Bool)) (K : S → Prop) (t0 : List A) (H0 : List Row) : stepK P ⟨d, .index t x i, ty, pos, aft, g⟩ K ⟨t0, H0⟩ = obind (aop P H0 (ev t0) (.index t x i)) (finK d K t0) := by rw [stepK]
@[simp] theorem stepK_load (P : Program) (d : Option Tmp) (t : TypeId) (x : Operand) (ty : TypeId) (pos : String) (aft : Array Edge) (g : Option (Nat × Bool)) (K : S → Prop) (t0 : List A) (H0 : List Row) : stepK P ⟨d, .load t x, ty, pos, aft, g⟩ K ⟨t0, H0⟩ = obind (aop P H0 (ev t0) (.load t x)) (finK d K t0) := by rw [stepK]
@[simp] theorem stepK_store (P : Program) (d : Option Tmp) (t : TypeId) (p x : Operand) (ty : TypeId) (pos : String) (aft : Array Edge) (g : Option (Nat × Bool)) (K : S → Prop) (t0 : List A) (H0 : List Row) : stepK P ⟨d, .store t p x, ty, pos, aft, g⟩ K ⟨t0, H0⟩ = obind (aop P H0 (ev t0) (.store t p x)) (finK d K t0) := by rw [stepK]
@[simp] theorem stepK_fieldAddr (P : Program) (d : Option Tmp) (t : TypeId) (x : Operand) (f : Nat) (ty : TypeId) (pos : String) (aft : Array Edge) (g : Option (Nat × Bool)) (K : S → Prop) (t0 : List A) (H0 : List Row) : stepK P ⟨d, .fieldAddr t x f, ty, pos, aft, g⟩ K ⟨t0, H0⟩ = obind (aop P H0 (ev t0) (.fieldAddr t x f)) (finK d K t0) := by rw [stepK]
@[simp] theorem stepK_field (P : Program) (d : Option Tmp) (t : TypeId) (x : Operand) (f : Nat) (ty : TypeId) (pos : String) (aft : Array Edge) (g : Option (Nat × Bool)) (K : S → Prop) (t0 : List A) (H0 : List Row) : stepK P ⟨d, .field t x f, ty, pos, aft, g⟩ K ⟨t0, H0⟩ = obind (aop P H0 (ev t0) (.field t x f)) (finK d K t0) := by rw [stepK]
@[simp] theorem stepK_extract (P : Program) (d : Option Tmp) (x : Operand) (i : Nat) (ty : TypeId) (pos : String) (aft : Array Edge) (g : Option (Nat × Bool)) (K : S → Prop) (t0 : List A) (H0 : List Row) : stepK P ⟨d, .extract x i, ty, pos, aft, g⟩ K ⟨t0, H0⟩ = obind (aop P H0 (ev t0) (.extract x i)) (finK d K t0) := by rw [stepK]
@[simp] theorem stepK_slice (P : Program) (d : Option Tmp) (t : TypeId) (x : Operand) (lo hi mx : Option Operand) (ty : TypeId) (pos : String) (aft : Array Edge) (g : Option (Nat × Bool)) (K : S → Prop) (t0 : List A) (H0 : List Row) : stepK P ⟨d, .slice t x lo hi mx, ty, pos, aft, g⟩ K ⟨t0, H0⟩ = obind (aop P H0 (ev t0) (.slice t x lo hi mx)) (finK d K t0) := by rw [stepK]
@[simp] theorem stepK_nilCheck (P : Program) (d : Option Tmp) (x : Operand) (ty : TypeId) (pos : String) (aft : Array Edge) (g : Option (Nat × Bool)) (K : S → Prop) (t0 : List A) (H0 : List Row) : stepK P ⟨d, .nilCheck x, ty, pos, aft, g⟩ K ⟨t0, H0⟩ = obind (aop P H0 (ev t0) (.nilCheck x)) (finK d K t0) := by rw [stepK]
@[simp] theorem stepK_build (P : Program) (d : Option Tmp) (t : TypeId) (ps : Array (Nat × Operand)) (ty : TypeId) (pos : String) (aft : Array Edge) (g : Option (Nat × Bool)) (K : S → Prop) (t0 : List A) (H0 : List Row) : stepK P ⟨d, .build t ps, ty, pos, aft, g⟩ K ⟨t0, H0⟩ = obind (aop P H0 (ev t0) (.build t ps)) (finK d K t0) := by rw [stepK]
@[simp] theorem stepK_buildSlice (P : Program) (d : Option Tmp) (t : TypeId) (n : Nat) (ps : Array (Nat × Operand)) (ty : TypeId) (pos : String) (aft : Array Edge) (g : Option (Nat × Bool)) (K : S → Prop) (t0 : List A) (H0 : List Row) : stepK P ⟨d, .buildSlice t n ps, ty, pos, aft, g⟩ K ⟨t0, H0⟩ = obind (aop P H0 (ev t0) (.buildSlice t n ps)) (finK d K t0) := by rw [stepK]
@[simp] theorem stepK_box (P : Program) (d : Option Tmp) (t : TypeId) (x : Operand) (ty : TypeId) (pos : String) (aft : Array Edge) (g : Option (Nat × Bool)) (K : S → Prop) (t0 : List A) (H0 : List Row) : stepK P ⟨d, .box t x, ty, pos, aft, g⟩ K ⟨t0, H0⟩ = obind (aop P H0 (ev t0) (.box t x)) (finK d K t0) := by rw [stepK]
@[simp] theorem stepK_alloc (P : Program) (d : Option Tmp) (t : TypeId) (ty : TypeId) (pos : String) (aft : Array Edge) (g : Option (Nat × Bool)) (K : S → Prop) (t0 : List A) (H0 : List Row) : stepK P ⟨d, .alloc t, ty, pos, aft, g⟩ K ⟨t0, H0⟩ = obind (aop P H0 (ev t0) (.alloc t)) (finK d K t0) := by rw [stepK]
@[simp] theorem stepK_makeSlice (P : Program) (d : Option Tmp) (t : TypeId) (l c : Operand) (ty : TypeId) (pos : String) (aft : Array Edge) (g : Option (Nat × Bool)) (K : S → Prop) (t0 : List A) (H0 : List Row) : stepK P ⟨d, .makeSlice t l c, ty, pos, aft, g⟩ K ⟨t0, H0⟩ = obind (aop P H0 (ev t0) (.makeSlice t l c)) (finK d K t0) := by rw [stepK]
@[simp] theorem stepK_makeMap (P : Program) (d : Option Tmp) (t : TypeId) (r : Option Operand) (ty : TypeId) (pos : String) (aft : Array Edge) (g : Option (Nat × Bool)) (K : S → Prop) (t0 : List A) (H0 : List Row) : stepK P ⟨d, .makeMap t r, ty, pos, aft, g⟩ K ⟨t0, H0⟩ = obind (aop P H0 (ev t0) (.makeMap t r)) (finK d K t0) := by rw [stepK]
@[simp] theorem stepK_lookup (P : Program) (d : Option Tmp) (t : TypeId) (x k : Operand) (ok : Bool) (ty : TypeId) (pos : String) (aft : Array Edge) (g : Option (Nat × Bool)) (K : S → Prop) (t0 : List A) (H0 : List Row) : stepK P ⟨d, .lookup t x k ok, ty, pos, aft, g⟩ K ⟨t0, H0⟩ = obind (aop P H0 (ev t0) (.lookup t x k ok)) (finK d K t0) := by rw [stepK]
@[simp] theorem stepK_mapUpdate (P : Program) (d : Option Tmp) (t : TypeId) (m k v : Operand) (ty : TypeId) (pos : String) (aft : Array Edge) (g : Option (Nat × Bool)) (K : S → Prop) (t0 : List A) (H0 : List Row) : stepK P ⟨d, .mapUpdate t m k v, ty, pos, aft, g⟩ K ⟨t0, H0⟩ = obind (aop P H0 (ev t0) (.mapUpdate t m k v)) (finK d K t0) := by rw [stepK]
@[simp] theorem stepK_makeFunc (P : Program) (d : Option Tmp) (fn : Fn) (a c : Array Operand) (ty : TypeId) (pos : String) (aft : Array Edge) (g : Option (Nat × Bool)) (K : S → Prop) (t0 : List A) (H0 : List Row) : stepK P ⟨d, .makeFunc fn a c, ty, pos, aft, g⟩ K ⟨t0, H0⟩ = obind (aop P H0 (ev t0) (.makeFunc fn a c)) (finK d K t0) := by rw [stepK]
@[simp] theorem stepK_call (P : Program) (d : Option Tmp) (f : Operand) (as : Array Operand) (ts : Array TypeId) (ty : TypeId) (pos : String) (aft : Array Edge) (g : Option (Nat × Bool)) (K : S → Prop) (t0 : List A) (H0 : List Row) : stepK P ⟨d, .call ⟨.value f, as, ts⟩, ty, pos, aft, g⟩ K ⟨t0, H0⟩ = callK P (ev t0 f) (as.toList.map (ev t0)) d K ⟨t0, H0⟩ := by rw [stepK]
@[simp] theorem stepK_builtin (P : Program) (d : Option Tmp) (b : Builtin) (as : Array Operand) (ts : Array TypeId) (ty : TypeId) (pos : String) (aft : Array Edge) (g : Option (Nat × Bool)) (K : S → Prop) (t0 : List A) (H0 : List Row) : stepK P ⟨d, .call ⟨.builtin b, as, ts⟩, ty, pos, aft, g⟩ K ⟨t0, H0⟩ = obind (abuiltin P H0 b ts (as.toList.map (ev t0))) (finK d K t0) := by
  simp only [stepK, aop]

@[simp] theorem stepQ_move (P : Program) (d : Option Tmp) (x : Operand) (ty : TypeId) (pos : String) (aft : Array Edge) (g : Option (Nat × Bool)) (K : S → Prop) (t0 : List A) (H0 : List Row) : stepQ P ⟨d, .move x, ty, pos, aft, g⟩ K ⟨t0, H0⟩ = obind (aop P H0 (ev t0) (.move x)) (finK d K t0) := by rw [stepQ]
@[simp] theorem stepQ_assign (P : Program) (d : Option Tmp) (x : Operand) (ty : TypeId) (pos : String) (aft : Array Edge) (g : Option (Nat × Bool)) (K : S → Prop) (t0 : List A) (H0 : List Row) : stepQ P ⟨d, .assign x, ty, pos, aft, g⟩ K ⟨t0, H0⟩ = obind (aop P H0 (ev t0) (.assign x)) (finK d K t0) := by rw [stepQ]
@[simp] theorem stepQ_pick (P : Program) (d : Option Tmp) (c a b : Operand) (ty : TypeId) (pos : String) (aft : Array Edge) (g : Option (Nat × Bool)) (K : S → Prop) (t0 : List A) (H0 : List Row) : stepQ P ⟨d, .pick c a b, ty, pos, aft, g⟩ K ⟨t0, H0⟩ = obind (aop P H0 (ev t0) (.pick c a b)) (finK d K t0) := by rw [stepQ]
@[simp] theorem stepQ_binOp (P : Program) (d : Option Tmp) (b : BinOp) (t : TypeId) (x y : Operand) (u : TypeId) (ty : TypeId) (pos : String) (aft : Array Edge) (g : Option (Nat × Bool)) (K : S → Prop) (t0 : List A) (H0 : List Row) : stepQ P ⟨d, .binOp b t x y u, ty, pos, aft, g⟩ K ⟨t0, H0⟩ = obind (aop P H0 (ev t0) (.binOp b t x y u)) (finK d K t0) := by rw [stepQ]
@[simp] theorem stepQ_unOp (P : Program) (d : Option Tmp) (b : UnOp) (t : TypeId) (x : Operand) (ty : TypeId) (pos : String) (aft : Array Edge) (g : Option (Nat × Bool)) (K : S → Prop) (t0 : List A) (H0 : List Row) : stepQ P ⟨d, .unOp b t x, ty, pos, aft, g⟩ K ⟨t0, H0⟩ = obind (aop P H0 (ev t0) (.unOp b t x)) (finK d K t0) := by rw [stepQ]
@[simp] theorem stepQ_convert (P : Program) (d : Option Tmp) (a b : TypeId) (x : Operand) (ty : TypeId) (pos : String) (aft : Array Edge) (g : Option (Nat × Bool)) (K : S → Prop) (t0 : List A) (H0 : List Row) : stepQ P ⟨d, .convert a b x, ty, pos, aft, g⟩ K ⟨t0, H0⟩ = obind (aop P H0 (ev t0) (.convert a b x)) (finK d K t0) := by rw [stepQ]
@[simp] theorem stepQ_indexAddr (P : Program) (d : Option Tmp) (t : TypeId) (x i : Operand) (ty : TypeId) (pos : String) (aft : Array Edge) (g : Option (Nat × Bool)) (K : S → Prop) (t0 : List A) (H0 : List Row) : stepQ P ⟨d, .indexAddr t x i, ty, pos, aft, g⟩ K ⟨t0, H0⟩ = obind (aop P H0 (ev t0) (.indexAddr t x i)) (finK d K t0) := by rw [stepQ]
@[simp] theorem stepQ_index (P : Program) (d : Option Tmp) (t : TypeId) (x i : Operand) (ty : TypeId) (pos : String) (aft : Array Edge) (g : Option (Nat × Bool)) (K : S → Prop) (t0 : List A) (H0 : List Row) : stepQ P ⟨d, .index t x i, ty, pos, aft, g⟩ K ⟨t0, H0⟩ = obind (aop P H0 (ev t0) (.index t x i)) (finK d K t0) := by rw [stepQ]
@[simp] theorem stepQ_load (P : Program) (d : Option Tmp) (t : TypeId) (x : Operand) (ty : TypeId) (pos : String) (aft : Array Edge) (g : Option (Nat × Bool)) (K : S → Prop) (t0 : List A) (H0 : List Row) : stepQ P ⟨d, .load t x, ty, pos, aft, g⟩ K ⟨t0, H0⟩ = obind (aop P H0 (ev t0) (.load t x)) (finK d K t0) := by rw [stepQ]
@[simp] theorem stepQ_store (P : Program) (d : Option Tmp) (t : TypeId) (p x : Operand) (ty : TypeId) (pos : String) (aft : Array Edge) (g : Option (Nat × Bool)) (K : S → Prop) (t0 : List A) (H0 : List Row) : stepQ P ⟨d, .store t p x, ty, pos, aft, g⟩ K ⟨t0, H0⟩ = obind (aop P H0 (ev t0) (.store t p x)) (finK d K t0) := by rw [stepQ]
@[simp] theorem stepQ_fieldAddr (P : Program) (d : Option Tmp) (t : TypeId) (x : Operand) (f : Nat) (ty : TypeId) (pos : String) (aft : Array Edge) (g : Option (Nat × Bool)) (K : S → Prop) (t0 : List A) (H0 : List Row) : stepQ P ⟨d, .fieldAddr t x f, ty, pos, aft, g⟩ K ⟨t0, H0⟩ = obind (aop P H0 (ev t0) (.fieldAddr t x f)) (finK d K t0) := by rw [stepQ]
@[simp] theorem stepQ_field (P : Program) (d : Option Tmp) (t : TypeId) (x : Operand) (f : Nat) (ty : TypeId) (pos : String) (aft : Array Edge) (g : Option (Nat × Bool)) (K : S → Prop) (t0 : List A) (H0 : List Row) : stepQ P ⟨d, .field t x f, ty, pos, aft, g⟩ K ⟨t0, H0⟩ = obind (aop P H0 (ev t0) (.field t x f)) (finK d K t0) := by rw [stepQ]
@[simp] theorem stepQ_extract (P : Program) (d : Option Tmp) (x : Operand) (i : Nat) (ty : TypeId) (pos : String) (aft : Array Edge) (g : Option (Nat × Bool)) (K : S → Prop) (t0 : List A) (H0 : List Row) : stepQ P ⟨d, .extract x i, ty, pos, aft, g⟩ K ⟨t0, H0⟩ = obind (aop P H0 (ev t0) (.extract x i)) (finK d K t0) := by rw [stepQ]
@[simp] theorem stepQ_slice (P : Program) (d : Option Tmp) (t : TypeId) (x : Operand) (lo hi mx : Option Operand) (ty : TypeId) (pos : String) (aft : Array Edge) (g : Option (Nat × Bool)) (K : S → Prop) (t0 : List A) (H0 : List Row) : stepQ P ⟨d, .slice t x lo hi mx, ty, pos, aft, g⟩ K ⟨t0, H0⟩ = obind (aop P H0 (ev t0) (.slice t x lo hi mx)) (finK d K t0) := by rw [stepQ]
@[simp] theorem stepQ_nilCheck (P : Program) (d : Option Tmp) (x : Operand) (ty : TypeId) (pos : String) (aft : Array Edge) (g : Option (Nat × Bool)) (K : S → Prop) (t0 : List A) (H0 : List Row) : stepQ P ⟨d, .nilCheck x, ty, pos, aft, g⟩ K ⟨t0, H0⟩ = obind (aop P H0 (ev t0) (.nilCheck x)) (finK d K t0) := by rw [stepQ]
@[simp] theorem stepQ_build (P : Program) (d : Option Tmp) (t : TypeId) (ps : Array (Nat × Operand)) (ty : TypeId) (pos : String) (aft : Array Edge) (g : Option (Nat × Bool)) (K : S → Prop) (t0 : List A) (H0 : List Row) : stepQ P ⟨d, .build t ps, ty, pos, aft, g⟩ K ⟨t0, H0⟩ = obind (aop P H0 (ev t0) (.build t ps)) (finK d K t0) := by rw [stepQ]
@[simp] theorem stepQ_buildSlice (P : Program) (d : Option Tmp) (t : TypeId) (n : Nat) (ps : Array (Nat × Operand)) (ty : TypeId) (pos : String) (aft : Array Edge) (g : Option (Nat × Bool)) (K : S → Prop) (t0 : List A) (H0 : List Row) : stepQ P ⟨d, .buildSlice t n ps, ty, pos, aft, g⟩ K ⟨t0, H0⟩ = obind (aop P H0 (ev t0) (.buildSlice t n ps)) (finK d K t0) := by rw [stepQ]
@[simp] theorem stepQ_box (P : Program) (d : Option Tmp) (t : TypeId) (x : Operand) (ty : TypeId) (pos : String) (aft : Array Edge) (g : Option (Nat × Bool)) (K : S → Prop) (t0 : List A) (H0 : List Row) : stepQ P ⟨d, .box t x, ty, pos, aft, g⟩ K ⟨t0, H0⟩ = obind (aop P H0 (ev t0) (.box t x)) (finK d K t0) := by rw [stepQ]
@[simp] theorem stepQ_alloc (P : Program) (d : Option Tmp) (t : TypeId) (ty : TypeId) (pos : String) (aft : Array Edge) (g : Option (Nat × Bool)) (K : S → Prop) (t0 : List A) (H0 : List Row) : stepQ P ⟨d, .alloc t, ty, pos, aft, g⟩ K ⟨t0, H0⟩ = obind (aop P H0 (ev t0) (.alloc t)) (finK d K t0) := by rw [stepQ]
@[simp] theorem stepQ_makeSlice (P : Program) (d : Option Tmp) (t : TypeId) (l c : Operand) (ty : TypeId) (pos : String) (aft : Array Edge) (g : Option (Nat × Bool)) (K : S → Prop) (t0 : List A) (H0 : List Row) : stepQ P ⟨d, .makeSlice t l c, ty, pos, aft, g⟩ K ⟨t0, H0⟩ = obind (aop P H0 (ev t0) (.makeSlice t l c)) (finK d K t0) := by rw [stepQ]
@[simp] theorem stepQ_makeMap (P : Program) (d : Option Tmp) (t : TypeId) (r : Option Operand) (ty : TypeId) (pos : String) (aft : Array Edge) (g : Option (Nat × Bool)) (K : S → Prop) (t0 : List A) (H0 : List Row) : stepQ P ⟨d, .makeMap t r, ty, pos, aft, g⟩ K ⟨t0, H0⟩ = obind (aop P H0 (ev t0) (.makeMap t r)) (finK d K t0) := by rw [stepQ]
@[simp] theorem stepQ_lookup (P : Program) (d : Option Tmp) (t : TypeId) (x k : Operand) (ok : Bool) (ty : TypeId) (pos : String) (aft : Array Edge) (g : Option (Nat × Bool)) (K : S → Prop) (t0 : List A) (H0 : List Row) : stepQ P ⟨d, .lookup t x k ok, ty, pos, aft, g⟩ K ⟨t0, H0⟩ = obind (aop P H0 (ev t0) (.lookup t x k ok)) (finK d K t0) := by rw [stepQ]
@[simp] theorem stepQ_mapUpdate (P : Program) (d : Option Tmp) (t : TypeId) (m k v : Operand) (ty : TypeId) (pos : String) (aft : Array Edge) (g : Option (Nat × Bool)) (K : S → Prop) (t0 : List A) (H0 : List Row) : stepQ P ⟨d, .mapUpdate t m k v, ty, pos, aft, g⟩ K ⟨t0, H0⟩ = obind (aop P H0 (ev t0) (.mapUpdate t m k v)) (finK d K t0) := by rw [stepQ]
@[simp] theorem stepQ_makeFunc (P : Program) (d : Option Tmp) (fn : Fn) (a c : Array Operand) (ty : TypeId) (pos : String) (aft : Array Edge) (g : Option (Nat × Bool)) (K : S → Prop) (t0 : List A) (H0 : List Row) : stepQ P ⟨d, .makeFunc fn a c, ty, pos, aft, g⟩ K ⟨t0, H0⟩ = obind (aop P H0 (ev t0) (.makeFunc fn a c)) (finK d K t0) := by rw [stepQ]
@[simp] theorem stepQ_call (P : Program) (d : Option Tmp) (f : Operand) (as : Array Operand) (ts : Array TypeId) (ty : TypeId) (pos : String) (aft : Array Edge) (g : Option (Nat × Bool)) (K : S → Prop) (t0 : List A) (H0 : List Row) : stepQ P ⟨d, .call ⟨.value f, as, ts⟩, ty, pos, aft, g⟩ K ⟨t0, H0⟩ = callQ P (ev t0 f) (as.toList.map (ev t0)) d K ⟨t0, H0⟩ := by rw [stepQ]
@[simp] theorem stepQ_builtin (P : Program) (d : Option Tmp) (b : Builtin) (as : Array Operand) (ts : Array TypeId) (ty : TypeId) (pos : String) (aft : Array Edge) (g : Option (Nat × Bool)) (K : S → Prop) (t0 : List A) (H0 : List Row) : stepQ P ⟨d, .call ⟨.builtin b, as, ts⟩, ty, pos, aft, g⟩ K ⟨t0, H0⟩ = obind (abuiltin P H0 b ts (as.toList.map (ev t0))) (finK d K t0) := by
  simp only [stepQ, aop]

attribute [simp] pureB pureOp aop put ev ofV ofV1 abin aint astr abuiltin gval aun aconv afield aextract afieldAddr
  anilCheck abnd amaxmin afold amax2 amin2 abin2 eqPair aeqs acmpNil nilOp wkA wkL argsK ares ares1 resL A.noid noidL aappend2 abox aalloc amake abuildSlice apartsIn aclear abuilt afill apart frz sle

/-! Where a form is to be known first. -/
@[simp] theorem nc_int (k : IntKind) (n : Int) : (A.int k n).ncells = 1 := rfl
@[simp] theorem nc_bool (b : Bool) : (A.bool b).ncells = 1 := rfl
@[simp] theorem nc_ub : A.ub.ncells = 1 := rfl
@[simp] theorem nc_str (l : List UInt8) : (A.str l).ncells = 1 := rfl
@[simp] theorem nc_sl (f : Bool) (es : List A) : (A.sl f es).ncells = 1 := rfl
@[simp] theorem nc_own (id off len cb : Nat) (ex : Bool) : (A.own id off len cb ex).ncells = 1 := rfl
@[simp] theorem nc_ptr (d : A) : (A.ptr d).ncells = 1 := rfl
@[simp] theorem nc_pto (id sz i co : Nat) : (A.pto id sz i co).ncells = 1 := rfl
@[simp] theorem nc_nptr : A.nptr.ncells = 1 := rfl
@[simp] theorem nc_agg (cs : List A) : (A.agg cs).ncells = cs.length := rfl
@[simp] theorem nc_tup (cs : List A) : (A.tup cs).ncells = 0 := rfl
@[simp] theorem nc_fn (f : FuncId) (cs : List A) : (A.fn f cs).ncells = 1 := rfl
@[simp] theorem nc_nfn : A.nfn.ncells = 1 := rfl
@[simp] theorem nc_any : A.any.ncells = 0 := rfl
@[simp] theorem cl_int (k : IntKind) (n : Int) : (A.int k n).cells = [.int k n] := rfl
@[simp] theorem cl_bool (b : Bool) : (A.bool b).cells = [.bool b] := rfl
@[simp] theorem cl_ub : A.ub.cells = [.ub] := rfl
@[simp] theorem cl_str (l : List UInt8) : (A.str l).cells = [.str l] := rfl
@[simp] theorem cl_sl (f : Bool) (es : List A) : (A.sl f es).cells = [.sl f es] := rfl
@[simp] theorem cl_own (id off len cb : Nat) (ex : Bool) : (A.own id off len cb ex).cells = [.own id off len cb ex] := rfl
@[simp] theorem cl_ptr (d : A) : (A.ptr d).cells = [.ptr d] := rfl
@[simp] theorem cl_pto (id sz i co : Nat) : (A.pto id sz i co).cells = [.pto id sz i co] := rfl
@[simp] theorem cl_nptr : A.nptr.cells = [.nptr] := rfl
@[simp] theorem cl_agg (cs : List A) : (A.agg cs).cells = cs := rfl
@[simp] theorem cl_fn (f : FuncId) (cs : List A) : (A.fn f cs).cells = [.fn f cs] := rfl
@[simp] theorem cl_nfn : A.nfn.cells = [.nfn] := rfl
section
variable (P : Program) (t : TypeId)
@[simp] theorem shp_int (k : IntKind) (n : Int) : shp P t (.int k n) = (!aggT P t && P.cellsOf t == 1) := rfl
@[simp] theorem shp_bool (b : Bool) : shp P t (.bool b) = (!aggT P t && P.cellsOf t == 1) := rfl
@[simp] theorem shp_ub : shp P t .ub = (!aggT P t && P.cellsOf t == 1) := rfl
@[simp] theorem shp_str (l : List UInt8) : shp P t (.str l) = (!aggT P t && P.cellsOf t == 1) := rfl
@[simp] theorem shp_sl (f : Bool) (es : List A) : shp P t (.sl f es) = (!aggT P t && P.cellsOf t == 1) := rfl
@[simp] theorem shp_own (id off len cb : Nat) (ex : Bool) : shp P t (.own id off len cb ex) = (!aggT P t && P.cellsOf t == 1) := rfl
@[simp] theorem shp_ptr (d : A) : shp P t (.ptr d) = (!aggT P t && P.cellsOf t == 1) := rfl
@[simp] theorem shp_pto (id sz i co : Nat) : shp P t (.pto id sz i co) = (!aggT P t && P.cellsOf t == 1) := rfl
@[simp] theorem shp_nptr : shp P t .nptr = (!aggT P t && P.cellsOf t == 1) := rfl
@[simp] theorem shp_fn (f : FuncId) (cs : List A) : shp P t (.fn f cs) = (!aggT P t && P.cellsOf t == 1) := rfl
@[simp] theorem shp_nfn : shp P t .nfn = (!aggT P t && P.cellsOf t == 1) := rfl
@[simp] theorem shp_agg (cs : List A) : shp P t (.agg cs) = (aggT P t && cs.length == P.cellsOf t) := rfl
@[simp] theorem shp_any : shp P t .any = false := rfl
end
@[simp] theorem sc_int (k : IntKind) (n : Int) : scal (.int k n) = true := rfl
@[simp] theorem sc_bool (b : Bool) : scal (.bool b) = true := rfl
@[simp] theorem sc_ub : scal .ub = false := rfl
@[simp] theorem sc_str (l : List UInt8) : scal (.str l) = true := rfl
@[simp] theorem sc_sl (f : Bool) (es : List A) : scal (.sl f es) = false := rfl
@[simp] theorem sc_own (id off len cb : Nat) (ex : Bool) : scal (.own id off len cb ex) = false := rfl
@[simp] theorem sc_ptr (d : A) : scal (.ptr d) = false := rfl
@[simp] theorem sc_pto (id sz i co : Nat) : scal (.pto id sz i co) = false := rfl
def scal1 : A → Bool
  | .int .. | .bool _ | .str _ => true
  | _ => false
theorem scal1_eq : scal1 = fun c => match c with | .int .. | .bool _ | .str _ => true | _ => false := by
  funext c; cases c <;> rfl
@[simp] theorem sc_tup (cs : List A) : scal (.tup cs) = cs.all scal1 := by rw [scal1_eq]; rfl
@[simp] theorem sc_agg (cs : List A) : scal (.agg cs) = cs.all scal1 := by rw [scal1_eq]; rfl
@[simp] theorem s1_int (k : IntKind) (n : Int) : scal1 (.int k n) = true := rfl
@[simp] theorem s1_bool (b : Bool) : scal1 (.bool b) = true := rfl
@[simp] theorem s1_str (l : List UInt8) : scal1 (.str l) = true := rfl
@[simp] theorem s1_sl (f : Bool) (es : List A) : scal1 (.sl f es) = false := rfl
@[simp] theorem s1_own (id off len cb : Nat) (ex : Bool) : scal1 (.own id off len cb ex) = false := rfl
@[simp] theorem s1_agg (cs : List A) : scal1 (.agg cs) = false := rfl
@[simp] theorem s1_ptr (d : A) : scal1 (.ptr d) = false := rfl

/-- By a row, if there is one. -/
def rowK {α : Type} (o : Option Row) (K : Row → Option α) (z : Option α) : Option α := match o with | some r => K r | none => z
@[simp] theorem rowK_some {α : Type} (r : Row) (K : Row → Option α) (z : Option α) : rowK (some r) K z = K r := rfl
@[simp] theorem rowK_none {α : Type} (K : Row → Option α) (z : Option α) : rowK none K z = z := rfl

/-- Elements of a row. -/
def cut (off len : Nat) (es : List A) : List A := (es.drop off).take len
@[simp high] theorem cut_all (len : Nat) (es : List A) (h : es.length = len) : cut 0 len es = es := by
  unfold cut; rw [List.drop_zero, List.take_of_length_le (by omega)]
theorem cut_eq (off len : Nat) (es : List A) : cut off len es = (es.drop off).take len := rfl

section
variable (P : Program) (H : List Row) (n : Nat)
@[simp] theorem resA_int (k : IntKind) (z : Int) : resA P H (n + 1) (.int k z) = some (.int k z) := rfl
@[simp] theorem resA_bool (b : Bool) : resA P H (n + 1) (.bool b) = some (.bool b) := rfl
@[simp] theorem resA_str (l : List UInt8) : resA P H (n + 1) (.str l) = some (.str l) := rfl
@[simp] theorem resA_sl (f : Bool) (es : List A) : resA P H (n + 1) (.sl f es) = some (.sl f es) := rfl
@[simp] theorem resA_ptr (d : A) : resA P H (n + 1) (.ptr d) = some (.ptr d) := rfl
theorem resA_own0 (id off len cb : Nat) (ex : Bool) : resA P H (n + 1) (.own id off len cb ex) = if len = 0 then some (.sl false []) else (H[id]?).bind fun r =>
      if r.live = true ∧ off + len ≤ r.es.length then
        if noidL (cut off len r.es) then some (.sl false (cut off len r.es)) else ((cut off len r.es).mapM (resA P H n)).map (.sl false)
      else none := by
  conv => lhs; unfold resA
  rfl
@[simp] theorem resA_own (id off len cb : Nat) (ex : Bool) : resA P H (n + 1) (.own id off len cb ex) = rowK H[id]? (fun r =>
      if r.live = true ∧ off + len ≤ r.es.length then
        if noidL (cut off len r.es) then some (.sl false (cut off len r.es)) else ((cut off len r.es).mapM (resA P H n)).map (.sl false)
      else if len = 0 then some (.sl false []) else none) (if len = 0 then some (.sl false []) else none) := by
  rw [resA_own0]
  by_cases hl : len = 0
  · subst hl
    cases hr : H[id]? with
    | none => simp [rowK]
    | some r =>
      have e : cut off 0 r.es = [] := by simp [cut]
      simp [rowK, e]
  · cases hr : H[id]? with
    | none => simp [rowK, hl]
    | some r => simp [rowK, hl]
@[simp] theorem resA_pto (id sz j co : Nat) : resA P H (n + 1) (.pto id sz j co) = (H[id]?).bind fun r => if r.live = true ∧ co = 0 ∧ r.sz = sz ∧ r.sz ≠ 0 then (r.es[j]?).bind fun e => (resA P H n e).map .ptr else none := by
  conv => lhs; unfold resA
  rfl
@[simp] theorem resA_agg (cs : List A) : resA P H (n + 1) (.agg cs) = if noidL cs then some (.agg cs) else (cs.mapM (resA P H n)).map .agg := by
  conv => lhs; unfold resA
  rfl
@[simp] theorem resA_tup (cs : List A) : resA P H (n + 1) (.tup cs) = if noidL cs then some (.tup cs) else (cs.mapM (resA P H n)).map .tup := by
  conv => lhs; unfold resA
  rfl
@[simp] theorem resA_fn (f : FuncId) (cs : List A) : resA P H (n + 1) (.fn f cs) = if noidL cs then some (.fn f cs) else (cs.mapM (resA P H n)).map (.fn f) := by
  conv => lhs; unfold resA
  rfl
end
@[simp] theorem nle1 (n : Nat) : (n + 1 ≤ n) = False := by simp
@[simp] theorem nle2 (n m : Nat) : (n + (m + 1) ≤ n) = False := by simp
@[simp] theorem wkL_take (xs : List A) (n : Nat) : wkL (xs.take n) = (wkL xs).take n := by simp [wkL_map, List.map_take]
@[simp] theorem wkL_drop (xs : List A) (n : Nat) : wkL (xs.drop n) = (wkL xs).drop n := by simp [wkL_map, List.map_drop]
@[simp] theorem wkL_append (xs ys : List A) : wkL (xs ++ ys) = wkL xs ++ wkL ys := by simp [wkL_map]

/-- The length and the elements' type of an array type. -/
def arrT (P : Program) (t : TypeId) : Option (Nat × TypeId) := match P.underlying t with | some (.array n e) => some (n, e) | _ => none
/-- The elements' type of a slice type. -/
def selem (P : Program) (t : TypeId) : TypeId := match P.underlying t with | some (.slice e) => e | _ => 0
def isStrT (P : Program) (t : TypeId) : Bool := match P.underlying t with | some .string => true | _ => false

theorem selem_eq {P : Program} {t : TypeId} (h : isSliceT P t = true) : P.underlying t = some (.slice (selem P t)) := by
  unfold isSliceT at h
  unfold selem
  split at h
  · rename_i e he; rw [he]
  · cases h
theorem isStr_eq {P : Program} {t : TypeId} (h : isStrT P t = true) : P.underlying t = some .string := by
  unfold isStrT at h
  split at h
  · assumption
  · cases h
theorem arrT_eq {P : Program} {t : TypeId} {n : Nat} {e : TypeId} (h : arrT P t = some (n, e)) : P.underlying t = some (.array n e) := by
  unfold arrT at h
  split at h
  · cases h; assumption
  · cases h

section
variable {P : Program} {H : List Row} {t : TypeId}
@[simp] theorem nilB_nil (f : Bool) : (A.sl f []).nilB = .ub := rfl
@[simp] theorem nilB_cons (f : Bool) (x : A) (xs : List A) : (A.sl f (x :: xs)).nilB = .bool false := rfl
@[simp] theorem nilB_own (id off len cb : Nat) (ex : Bool) : (A.own id off len cb ex).nilB = if len = 0 then .ub else .bool false := rfl
@[simp] theorem alen_sl (f : Bool) (es : List A) (h : isSliceT P t = true) : alen P t (.sl f es) = some (.int .i64 es.length) := by
  unfold alen; rw [selem_eq h]
@[simp] theorem alen_own (id off len cb : Nat) (ex : Bool) (h : isSliceT P t = true) : alen P t (.own id off len cb ex) = some (.int .i64 len) := by
  unfold alen; rw [selem_eq h]
@[simp] theorem alen_str (l : List UInt8) (h : isStrT P t = true) : alen P t (.str l) = some (.int .i64 l.length) := by
  unfold alen; rw [isStr_eq h]
@[simp] theorem aidx_sl (f : Bool) (es : List A) (k : IntKind) (n : Int) (h : isSliceT P t = true) :
    aidx P H t (.sl f es) (.int k n) = if 0 ≤ n ∧ n < es.length ∧ P.cellsOf (selem P t) ≠ 0 then (es[n.toNat]?).bind fun d => if d.ncells = P.cellsOf (selem P t) then some (.ptr d) else none else none := by
  unfold aidx; rw [selem_eq h]
@[simp] theorem aidx_own (id off len cb : Nat) (ex : Bool) (k : IntKind) (n : Int) (h : isSliceT P t = true) :
    aidx P H t (.own id off len cb ex) (.int k n) = (H[id]?).bind fun r => if r.live = true ∧ r.ty = selem P t ∧ 0 ≤ n ∧ n < len then some (.pto id r.sz (off + n.toNat) 0) else none := by
  unfold aidx; rw [selem_eq h]
@[simp] theorem aidx_pto (id sz j co : Nat) (k : IntKind) (n : Int) :
    aidx P H t (.pto id sz j co) (.int k n) = (arrT P t).bind fun p => if P.cellsOf p.2 ≠ 0 ∧ 0 ≤ n ∧ n < p.1 then some (.pto id sz j (co + n.toNat * P.cellsOf p.2)) else none := by
  unfold aidx arrT
  cases P.underlying t with
  | none => rfl
  | some d => cases d <;> rfl
@[simp] theorem aidx_ptr (cs : List A) (k : IntKind) (n : Int) :
    aidx P H t (.ptr (.agg cs)) (.int k n) = (arrT P t).bind fun p => if 0 ≤ n ∧ n < p.1 ∧ P.cellsOf p.2 ≠ 0 then (apart P p.2 cs (n.toNat * P.cellsOf p.2)).bind fun d => if d.ncells ≠ 0 then some (.ptr d) else none else none := by
  unfold aidx arrT
  cases P.underlying t with
  | none => rfl
  | some d => cases d <;> rfl
@[simp] theorem aindex_str (l : List UInt8) (k : IntKind) (n : Int) (h : isStrT P t = true) : aindex P t (.str l) (.int k n) = if 0 ≤ n then (l[n.toNat]?).map fun c => .int .u8 c.toNat else none := by
  unfold aindex; rw [isStr_eq h]
@[simp] theorem aindex_arr (cs : List A) (k : IntKind) (n : Int) : aindex P t (.agg cs) (.int k n) = (arrT P t).bind fun p => if 0 ≤ n ∧ n < p.1 ∧ P.cellsOf p.2 ≠ 0 then apart P p.2 cs (n.toNat * P.cellsOf p.2) else none := by
  unfold aindex arrT
  cases P.underlying t with
  | none => rfl
  | some d => cases d <;> rfl
@[simp] theorem aload_ptr (d : A) : aload P H t (.ptr d) = if P.cellsOf t ≠ 0 ∧ hasU P t = true then (if shp P t d then some d else none) else none := rfl
@[simp] theorem aload_pto (id sz j co : Nat) : aload P H t (.pto id sz j co) = if P.cellsOf t ≠ 0 ∧ hasU P t = true then
    ((H[id]?).bind fun r => if r.live ∧ r.sz = sz then (r.es[j]?).bind fun e =>
        if co = 0 ∧ shp P t e then some e else (match e with | .agg cs => (apart P t cs co).bind fun d => if shp P t d then some d else none | _ => none)
      else none) else none := rfl
@[simp] theorem astore_pto (id sz j co : Nat) (x : A) : astore P H t (.pto id sz j co) x = (H[id]?).bind fun r =>
    if r.live = true ∧ r.sz = sz ∧ r.f ≤ j ∧ x.ncells = P.cellsOf t ∧ P.cellsOf t ≠ 0 then
      (r.es[j]?).bind fun e =>
        if co = 0 ∧ shp P r.ty x then some (H.set id { r with es := r.es.set j x })
        else match e with
          | .agg cs => if co + P.cellsOf t ≤ cs.length then some (H.set id { r with es := r.es.set j (.agg (cs.take co ++ x.cells ++ cs.drop (co + P.cellsOf t))) }) else none
          | _ => none
    else none := rfl
@[simp] theorem aslice_str (s : List UInt8) (lo hi mx : Option A) (h : isStrT P t = true) : aslice P t (.str s) lo hi mx =
    (abnd lo 0).bind fun l => (abnd hi s.length).bind fun h => if mx.isNone ∧ l ≤ h ∧ h ≤ s.length then some (.str ((s.drop l).take (h - l))) else none := by
  unfold aslice; rw [isStr_eq h]
@[simp] theorem aslice_sl (full : Bool) (es : List A) (lo hi mx : Option A) (h : isSliceT P t = true) : aslice P t (.sl full es) lo hi mx =
    (abnd lo 0).bind fun l => (abnd hi es.length).bind fun h => (abnd mx es.length).bind fun m =>
      if P.cellsOf (selem P t) ≠ 0 ∧ l ≤ h ∧ h ≤ m ∧ m ≤ es.length ∧ (mx.isSome → hi.isSome) ∧ (l = 0 ∨ es.all (fun x => x.ncells == P.cellsOf (selem P t))) then
        some (.sl (if mx.isSome then m == h else full && h == es.length) ((es.drop l).take (h - l)))
      else none := by
  unfold aslice; rw [selem_eq h]
@[simp] theorem aslice_own (id off len cb : Nat) (ex : Bool) (lo hi mx : Option A) (h : isSliceT P t = true) : aslice P t (.own id off len cb ex) lo hi mx =
    (abnd lo 0).bind fun l => (abnd hi len).bind fun h => (abnd mx cb).bind fun m =>
      if P.cellsOf (selem P t) ≠ 0 ∧ l ≤ h ∧ h ≤ m ∧ m ≤ cb ∧ (mx.isSome → hi.isSome) then
        some (if cb = 0 ∧ ex = true then .own id off 0 0 true else .own id (off + l) (h - l) (m - l) (ex || mx.isSome))
      else none := by
  unfold aslice; rw [selem_eq h]
@[simp] theorem asrc_sl (f : Bool) (es : List A) : asrc P H t (.sl f es) = if es.all (fun x => shp P t x) then some es else none := rfl
@[simp] theorem asrc_own (id off len cb : Nat) (ex : Bool) : asrc P H t (.own id off len cb ex) = rowK H[id]? (fun r => if r.live = true ∧ r.ty = t ∧ off + len ≤ r.es.length then some (cut off len r.es) else if len = 0 then some [] else none) (if len = 0 then some [] else none) := by
  have e : asrc P H t (.own id off len cb ex) = if len = 0 then some [] else (H[id]?).bind fun r => if r.live = true ∧ r.ty = t ∧ off + len ≤ r.es.length then some (cut off len r.es) else none := rfl
  rw [e]
  by_cases hl : len = 0
  · subst hl
    cases hr : H[id]? with
    | none => simp [rowK]
    | some r => simp [rowK, cut]
  · cases hr : H[id]? with
    | none => simp [rowK, hl]
    | some r => simp [rowK, hl]
@[simp] theorem agrow_sl (full : Bool) (es olds news : List A) : agrow P H t (.sl full es) olds news =
    if news.length = 0 then some (.sl full es, H) else if full then some (.own H.length 0 (olds.length + news.length) (olds.length + news.length) false, H ++ [⟨t, P.cellsOf t, olds ++ news, 0, true⟩]) else none := rfl
@[simp] theorem agrow_own (id off len cb : Nat) (ex : Bool) (olds news : List A) : agrow P H t (.own id off len cb ex) olds news =
    if news.length = 0 then some (.own id off len cb ex, H)
    else if ex && cb == len then some (.own H.length 0 (olds.length + news.length) (olds.length + news.length) false, (if len = 0 then H.set id dead0 else H) ++ [⟨t, P.cellsOf t, olds ++ news, 0, true⟩])
    else (H[id]?).bind fun r =>
      if r.live = true ∧ r.ty = t ∧ off + len ≤ r.es.length then
        if len + news.length ≤ cb ∧ off + len + news.length ≤ r.es.length ∧ r.f ≤ off + len then
          some (.own id off (len + news.length) cb ex, H.set id { r with es := r.es.take (off + len) ++ news ++ r.es.drop (off + len + news.length) })
        else if off + len = r.es.length ∧ r.f ≤ off + len then
          some (.own H.length 0 (olds.length + news.length) (olds.length + news.length) false, H.set id dead0 ++ [⟨t, P.cellsOf t, olds ++ news, r.f - off, true⟩])
        else none
      else none := rfl
@[simp] theorem ownOK_sl (f : Bool) (es : List A) : ownOK P H t (.sl f es) = true := rfl
@[simp] theorem ownOK_str (l : List UInt8) : ownOK P H t (.str l) = true := rfl
@[simp] theorem ownOK_own (id off len cb : Nat) (ex : Bool) : ownOK P H t (.own id off len cb ex) = ((cb == 0 && ex) || (isSliceT P t && match H[id]? with | some r => r.live && r.ty == selem P t | none => false)) := by
  unfold ownOK isSliceT selem
  cases P.underlying t with
  | none => simp
  | some d => cases d <;> cases hr : H[id]? <;> simp [hr]
@[simp] theorem frzR_mk (ty : TypeId) (sz : Nat) (es : List A) (f : Nat) (l : Bool) : frzR ⟨ty, sz, es, f, l⟩ = ⟨ty, sz, es, max f es.length, l⟩ := rfl
end

theorem i64_id {n : Int} (h0 : -9223372036854775808 ≤ n) (h1 : n ≤ 9223372036854775807) : IntKind.i64.wrap n = n := IntWalk.i64_in n ⟨h0, h1⟩

@[simp] theorem wrap_0 : IntKind.i64.wrap 0 = 0 := i64_id (by decide) (by decide)
@[simp] theorem wrap_1 : IntKind.i64.wrap 1 = 1 := i64_id (by decide) (by decide)
@[simp] theorem wrap_m1 : IntKind.i64.wrap (-1) = -1 := i64_id (by decide) (by decide)
@[simp] theorem wrap_n (n : Nat) (h : n ≤ 9223372036854775807) : IntKind.i64.wrap (no_index (OfNat.ofNat n)) = (OfNat.ofNat n : Int) := by
  have e : (OfNat.ofNat n : Int) = (n : Int) := rfl
  rw [e]
  exact i64_id (by omega) (by omega)

@[simp] theorem noidL_append (xs ys : List A) : noidL (xs ++ ys) = (noidL xs && noidL ys) := by
  induction xs with
  | nil => simp
  | cons x xs ih => simp [ih, Bool.and_assoc]

theorem noidL_map {α : Type} (f : α → A) (h : ∀ x, (f x).noid = true) : ∀ l : List α, noidL (l.map f) = true
  | [] => rfl
  | x :: xs => by simp [h x, noidL_map f h xs]

@[simp] theorem noidL_ints (k : IntKind) (l : List Int) : noidL (l.map (A.int k)) = true := noidL_map _ (fun _ => rfl) l
@[simp] theorem noidL_strs (l : List (List UInt8)) : noidL (l.map A.str) = true := noidL_map _ (fun _ => rfl) l

theorem noidL_take {xs : List A} (h : noidL xs = true) : ∀ n, noidL (xs.take n) = true := by
  intro n
  induction xs generalizing n with
  | nil => simp
  | cons x xs ih => cases n with
    | zero => simp
    | succ n => simp at h ⊢; exact ⟨h.1, ih h.2 n⟩

theorem noidL_drop {xs : List A} (h : noidL xs = true) : ∀ n, noidL (xs.drop n) = true := by
  intro n
  induction xs generalizing n with
  | nil => simp
  | cons x xs ih => cases n with
    | zero => simpa using h
    | succ n => simp at h ⊢; exact ih h.2 n
end Go.AL
/- An abstract layer over the walk, 12b: a body of straight lines that only reads names the very value. No program in sight. -/
namespace Go.AL
def noCall (l : List Oper) : Bool := l.all fun o => o.guard.isNone && (match o.op with | .call c => (match c.callee with | .value _ => false | _ => true) | _ => true)

def vcL (P : Program) : Code → (S → Prop) → (S → Prop) → S → Prop
  | .region _ ops false, K, _, s => pureB ops.toList = true ∧ noCall ops.toList = true ∧ vcQ P ops K ops.toList s
  | .seq x y, K, R, s => vcL P x (vcL P y K R) R s
  | .ret, _, R, s => R s
  | _, _, _, _ => False

@[simp] theorem vcL_region (P : Program) (id : Nat) (ops : List Oper) (K R : S → Prop) (s : S) : vcL P (.region id ops.toArray false) K R s = (pureB ops = true ∧ noCall ops = true ∧ vcQ P ops.toArray K ops s) := by rw [vcL]
@[simp] theorem vcL_seq (P : Program) (x y : Code) (K R : S → Prop) (s : S) : vcL P (.seq x y) K R s = vcL P x (vcL P y K R) R s := by rw [vcL]
@[simp] theorem vcL_ret (P : Program) (K R : S → Prop) (s : S) : vcL P .ret K R s = R s := by rw [vcL]
attribute [simp] noCall

theorem line_list {P : Program} {X : Ctx} {ops : Array Oper} {K : S → Prop} {w : World} {μ : Mu} : ∀ (l : List Oper) (s : S) (a : Act), pureB l = true → noCall l = true → vcQ P ops K l s → Sim P X s a w μ →
    ∃ s' a', K s' ∧ Sim P X s' a' w μ ∧ ∀ w', Adv w NoF w' NoF → ∀ R : Exit → Act → World → Prop, R .normal a' w' → wpList P ops R l a w'
  | [], s, a, _, _, h, hS => ⟨s, a, h, hS, fun _ _ _ h => h⟩
  | o :: rest, s, a, hp, hc, h, hS => by
    simp only [pureB, Bool.and_eq_true] at hp
    simp only [noCall, List.all_cons, Bool.and_eq_true] at hc
    have hg : o.guard = none := Option.isNone_iff_eq_none.1 hc.1.1
    simp only [vcQ, hg] at h
    have h' : obind (aop P s.h (ev s.t) o.op) (finK o.dst (vcQ P ops K rest) s.t) := by
      unfold stepQ at h
      split at h
      · rename_i c hcc
        split at h
        · rename_i f hf
          have := hc.1.2
          simp [hcc, hf] at this
        · exact h
      · exact h
    cases hop : aop P s.h (ev s.t) o.op with
    | none => rw [hop] at h'; exact h'.elim
    | some y =>
      obtain ⟨r, H'⟩ := y
      rw [hop] at h'
      obtain ⟨rfl, v, h1, h2⟩ := s_pure (a := a) o hp.1 hS.hs hS.eval hop
      obtain ⟨s', a', k1, k2, k3⟩ := line_list rest _ _ hp.2 hc.2 h' (hS.put o.dst hS.hs (Adv.refl _ _) (List.prefix_refl _) h2)
      refine ⟨s', a', k1, k2, fun w' hw R hR => ?_⟩
      unfold wpList
      rw [if_pos (by simp [Region.wanted, hg])]
      refine .inl ?_
      unfold Oper.wp
      rw [h1 w' hw]
      exact k3 w' hw R hR

theorem line_code {P : Program} {X : Ctx} {w : World} {μ : Mu} : ∀ (c : Code) (K R : S → Prop) (s : S) (a : Act), vcL P c K R s → Sim P X s a w μ →
    ∃ x s' a', ((x = Exit.normal ∧ K s') ∨ (x = Exit.ret ∧ R s')) ∧ Sim P X s' a' w μ ∧ ∀ w', Adv w NoF w' NoF → c.wp P (fun e b w'' => e = x ∧ b = a' ∧ w'' = w') a w'
  | .region id ops false, K, R, s, a, h, hS => by
    obtain ⟨h1, h2, h3⟩ := h
    obtain ⟨s', a', k1, k2, k3⟩ := line_list ops.toList s a h1 h2 h3 hS
    refine ⟨.normal, s', a', .inl ⟨rfl, k1⟩, k2, fun w' hw => wp_region_list (k3 w' hw _ ⟨rfl, rfl, rfl⟩)⟩
  | .seq x y, K, R, s, a, h, hS => by
    obtain ⟨e, s1, a1, h1, h2, h3⟩ := line_code x _ R s a h hS
    rcases h1 with ⟨rfl, h1⟩ | ⟨rfl, h1⟩
    · obtain ⟨e', s2, a2, g1, g2, g3⟩ := line_code y K R s1 a1 h1 h2
      refine ⟨e', s2, a2, g1, g2, fun w' hw => wp_seq (wp_mono (h3 w' hw) ?_)⟩
      rintro _ _ _ ⟨rfl, rfl, rfl⟩
      exact g3 _ hw
    · refine ⟨.ret, s1, a1, .inr ⟨rfl, h1⟩, h2, fun w' hw => wp_seq (wp_mono (h3 w' hw) ?_)⟩
      rintro _ _ _ ⟨rfl, rfl, rfl⟩
      exact ⟨rfl, rfl, rfl⟩
  | .ret, K, R, s, a, h, hS => ⟨.ret, s, a, .inr ⟨rfl, h⟩, hS, fun w' _ => wp_ret ⟨rfl, rfl, rfl⟩⟩

/-- The value of a straight line that only reads. -/
theorem ecall_line {P : Program} {f : FuncId} {fn : Func} {c : Code} {args : List A} {x : Nat} {r : A} (hf : P.funcs[f]? = some fn) (hb : fn.body = some c) (hn : (fn.name == "runtime.NumGoroutine") = false) (hr : fn.results = #[.tmp x])
    (h : vcL P c (fun s => s.t.getD x .any = r) (fun s => s.t.getD x .any = r) ⟨args ++ List.replicate (fn.ntmps - args.length) .any, []⟩) : ECall P f args r := by
  refine ⟨by simp [callable, hf, hb, hn], fun w F0 vs hbd hl => ?_⟩
  have hnil : ∀ b o, ¬ Fof ([] : Mu) [] b o := by rintro b o ⟨i, r, bs, h1, _⟩; simp at h1
  have e : Ft F0 [] [] = F0 := by funext b o; exact propext ⟨fun h => h.elim id fun h => (hnil b o h).elim, .inl⟩
  have hS := sim_start (HS.nil (P := P) hbd) (by rw [e]; exact hl) fn.ntmps
  obtain ⟨y, s', a', h1, h2, h3⟩ := line_code c _ _ _ _ h hS
  have hx : s'.t.getD x .any = r := by rcases h1 with ⟨_, h1⟩ | ⟨_, h1⟩ <;> exact h1
  have hv := h2.eval (.tmp x)
  have hev : ev s'.t (.tmp x) = r := hx
  rw [hev] at hv
  refine ⟨a'.eval (.tmp x), ?_, fun w' hw => calls_of_wp hf hb (wp_mono (h3 w' hw) ?_)⟩
  · have : s'.h = [] := List.eq_nil_of_length_eq_zero (by have := h2.hs.len; simpa using this.symm)
    rw [this, e] at hv
    exact hv
  · rintro e1 b1 w1 ⟨he, hb1, hw1⟩
    rw [he, hb1, hw1]
    have hd := h2.defers
    have hres : (results fn a'.tmps).run P w' = .ok (a'.eval (.tmp x)) w' := by
      rw [results_eq, Sem.run_bind, Array.mapM_eq_mapM_toList, map_eq_pure_bind, Sem.run_bind]
      rw [hr]
      simp [resSem]
      exact Array.getD_eq_getD_getElem?.symm
    have : a'.defers = [] ∧ ∃ v, (results fn a'.tmps).run P w' = .ok v w' ∧ (Ending.returned v = .returned (a'.eval (.tmp x)) ∧ Adv w' NoF w' NoF) := ⟨hd, a'.eval (.tmp x), hres, rfl, Adv.refl _ _⟩
    rcases h1 with ⟨rfl, _⟩ | ⟨rfl, _⟩ <;> exact this

/-- A call by a contract that names the very value: nothing is forgotten of the result. -/
theorem xcall_e {P : Program} {f : FuncId} {args : List A} {H : List Row} {r : A} {K : A → List Row → Prop} (h : ECall P f args r) (hn : noidL args = true) (hK : K r H) : XCall P f args H K := by
  refine ⟨h.1, fun w F0 μ vs hs hl => ?_⟩
  obtain ⟨v, h1, h2⟩ := h.2 w (Ft F0 μ H) vs (fun b o hf => hs.lt hf) (RepL.noid hn hl)
  refine (h2 w (Adv.refl _ _)).mono ?_
  rintro e w' ⟨rfl, h3⟩
  exact ⟨v, r, H, rfl, hK, μ, hs.ofNo h3, h3.ofNo _, List.prefix_refl _, (h1.adv (h3.ofNo _) (List.prefix_refl _)).mono (fun _ _ _ h => h) List.nil_prefix⟩
end Go.AL
/- An abstract layer over the walk, 13d: regions whose order is drawn, that make memory: what yields in whatever world is taken first, the others come one by one. No program in sight. -/
namespace Go.AL

def selOp (o : Oper) : Bool := match o.op with | .select .. => true | _ => false

/-- May the operations be walked in this order, whatever order is drawn? -/
def okSch (ops : Array Oper) : List Nat → Array Bool → Bool
  | [], listed => (Region.ready .any ops listed).isEmpty
  | i :: rest, listed =>
    (match ops[i]? with
     | some o => if constOp o.op then (Region.ready .any ops listed).contains i && Region.free .any ops listed i else Region.ready .any ops listed == [i]
     | none => false) && okSch ops rest (listed.setIfInBounds i true)

theorem step_wp {P : Program} {X : Ctx} {Q : AX → S → Prop} {KK : Act → World → Prop} {o : Oper} {K : S → Prop} {s : S} (hK : ∀ s a w μ, K s → Sim P X s a w μ → KK a w) {a : Act} {w : World} {μ : Mu} (hS : Sim P X s a w μ)
    (h : stepK P o K s) : o.wp P a w KK (lift P X Q) := by
  have plain : obind (aop P s.h (ev s.t) o.op) (finK o.dst K s.t) → o.wp P a w KK (lift P X Q) := by
    intro h
    cases hop : aop P s.h (ev s.t) o.op with
    | none => rw [hop] at h; exact h.elim
    | some y =>
      obtain ⟨r, H'⟩ := y
      rw [hop] at h
      obtain ⟨nx, v, w', h1, h2, h3⟩ := s_aop (a := a) o hS.hs (hS.eval) hop
      obtain ⟨μ', h4⟩ := sim_step (d := o.dst) hS h3
      unfold Oper.wp
      rw [h1]
      rcases h2 with rfl | ⟨rfl, rfl⟩
      · exact hK _ _ _ μ' h h4
      · exact hK _ _ _ μ' h h4
  unfold stepK at h
  split at h
  · rename_i c hc
    split at h
    · rename_i f hf
      unfold callK at h
      split at h
      · rename_i fid caps hfn
        obtain ⟨hcb, h⟩ := h
        have hrf := hS.eval f
        rw [hfn] at hrf
        generalize hva : a.eval f = vf at hrf
        cases hrf with | fn _ _ _ vcaps hl hh =>
        have hL := (repL_map hS.eval c.args.toList).app (RepL.ofget hl hh)
        have hcall := h w X.F0 μ _ hS.hs hL
        obtain ⟨dst, op, type, pos, aft, g⟩ := o
        obtain ⟨callee, as, ts⟩ := c
        simp only at hc hf
        subst hc hf
        unfold Oper.wp
        rw [run_enter hcb hva]
        refine hcall.mono ?_
        rintro e w' ⟨v, r, H', rfl, hR, hres⟩
        obtain ⟨μ', h4⟩ := sim_step (d := dst) hS hres
        exact hK _ _ _ μ' hR h4
      · exact h.elim
    · exact plain h
  · exact plain h

theorem wanted_of {P : Program} {X : Ctx} {s : S} {a : Act} {w : World} {μ : Mu} {ops : Array Oper} {o : Oper} (hS : Sim P X s a w μ) {j : Nat} {want b : Bool} (hg : o.guard = some (j, want)) (hb : gval ops s.t j = .bool b) :
    Region.wanted o (yielded ops a.tmps) = (b == want) := by
  have hy := gval_yielded hS hb
  cases b <;> cases want <;> simp [Region.wanted, hg, hy]

theorem any_sound {P : Program} {X : Ctx} {ops : Array Oper} {Q : AX → S → Prop} (hns : Region.noSelect ops = true) : ∀ (sch : List Nat) (listed : Array Bool) (s : S) (l : List Oper), okSch ops sch listed = true → sch.mapM (fun i => ops[i]?) = some l → vcOps P ops Q l s →
    ∀ a w μ, Sim P X s a w μ → wpAnyH P .any ops (lift P X Q) (fun _ => True) sch.length listed a w
  | [], listed, s, l, hok, hl, h, a, w, μ, hS => by
    simp at hl; subst hl
    simp only [okSch, List.isEmpty_iff] at hok
    exact wpAnyH_done hok ⟨.normal, s, μ, rfl, h, hS⟩ _
  | i :: rest, listed, s, l, hok, hl, h, a, w, μ, hS => by
    simp only [okSch, Bool.and_eq_true] at hok
    obtain ⟨hok1, hok2⟩ := hok
    simp only [List.mapM_cons, Option.bind_eq_bind, Option.pure_def] at hl
    obtain ⟨o, ho, hl⟩ := Option.bind_eq_some_iff.1 hl
    obtain ⟨l', hl', hl⟩ := Option.bind_eq_some_iff.1 hl
    cases hl
    rw [ho] at hok1
    simp only at hok1
    have ih := fun s => any_sound (P := P) (X := X) (Q := Q) hns rest (listed.setIfInBounds i true) s l' hok2 hl'
    by_cases hc : constOp o.op = true
    · rw [if_pos hc, Bool.and_eq_true] at hok1
      have hQ : ∀ (v : Value) c a w, lift P X Q (.panic c) (a.put o.dst v) w → lift P X Q (.panic c) a w := by
        rintro v c a w ⟨x, s', μ', he, _⟩
        cases x <;> cases he
      have step : ∀ K : S → Prop, stepK P o K s → ∃ r v, K ⟨put s.t o.dst r, s.h⟩ ∧ (∀ w', (execOp a.eval o).run P w' = .ok (.value v) w') ∧ Rep P w (Ft X.F0 μ s.h) μ r v := by
        intro K h
        have h' : obind (aop P s.h (ev s.t) o.op) (finK o.dst K s.t) := by
          unfold stepK at h
          split at h
          · rename_i c hcc
            split at h
            · rename_i f hf
              simp [constOp, hcc, hf] at hc
            · exact h
          · exact h
        cases hop : aop P s.h (ev s.t) o.op with
        | none => rw [hop] at h'; exact h'.elim
        | some y =>
          obtain ⟨r, H'⟩ := y
          rw [hop] at h'
          obtain ⟨rfl, v, h1, h2⟩ := s_const (a := a) o hc hS.hs hS.eval hop
          exact ⟨r, v, h', fun w' => h1 w' trivial, h2⟩
      have go : ∀ r v, vcOps P ops Q l' ⟨put s.t o.dst r, s.h⟩ → YieldsIf P ops (fun _ => True) o v a → Rep P w (Ft X.F0 μ s.h) μ r v → wpAnyH P .any ops (lift P X Q) (fun _ => True) (rest.length + 1) listed a w := by
        intro r v hK hy hr
        refine wpAnyH_take ho hns hok1.2 hok1.1 (hQ v) hy trivial ?_
        exact ih _ hK _ _ μ (hS.put o.dst hS.hs (Adv.refl _ _) (List.prefix_refl _) hr)
      simp only [vcOps] at h
      split at h
      · rename_i hg
        obtain ⟨r, v, hK, h1, h2⟩ := step _ h
        exact go r v hK (.inl ⟨by simp [Region.wanted, hg], fun w' _ => h1 w'⟩) h2
      · rename_i j want hg
        unfold guardK at h
        split at h
        · rename_i b hb
          have hwt := wanted_of hS hg hb
          by_cases hw : b = want
          · obtain ⟨r, v, hK, h1, h2⟩ := step _ (h.1 hw)
            exact go r v hK (.inl ⟨by rw [hwt]; simp [hw], fun w' _ => h1 w'⟩) h2
          · have hb' : b = !want := by cases b <;> cases want <;> simp_all
            exact go (.tup []) undef (h.2 hb') (.inr ⟨by rw [hwt]; simp [hw], rfl⟩) rep_undef
        · rename_i hb
          have hy := gval_und hS hb
          exact go (.tup []) undef h (.inr ⟨by simp [Region.wanted, hg, hy], rfl⟩) rep_undef
        · exact h.elim
    · rw [if_neg hc] at hok1
      refine wpAnyH_all (rs := [i]) (by simpa using hok1) (by simp) ?_
      intro i' hi'
      simp at hi'; subst hi'
      unfold wpOp
      simp only [ho]
      simp only [vcOps] at h
      split at h
      · rename_i hg
        rw [if_pos (by simp [Region.wanted, hg])]
        exact .inl (step_wp (fun s a w μ hK hS => ⟨trivial, ih s hK a w μ hS⟩) hS h)
      · rename_i j want hg
        unfold guardK at h
        split at h
        · rename_i b hb
          have hwt := wanted_of hS hg hb
          by_cases hw : b = want
          · rw [if_pos (by rw [hwt]; simp [hw])]
            exact .inl (step_wp (fun s a w μ hK hS => ⟨trivial, ih s hK a w μ hS⟩) hS (h.1 hw))
          · have hb' : b = !want := by cases b <;> cases want <;> simp_all
            rw [if_neg (by rw [hwt]; simp [hw])]
            exact ⟨trivial, ih _ (h.2 hb') _ _ μ (hS.put o.dst hS.hs (Adv.refl _ _) (List.prefix_refl _) rep_undef)⟩
        · rename_i hb
          have hy := gval_und hS hb
          rw [if_neg (by simp [Region.wanted, hg, hy])]
          exact ⟨trivial, ih _ h _ _ μ (hS.put o.dst hS.hs (Adv.refl _ _) (List.prefix_refl _) rep_undef)⟩
        · exact h.elim

/-- A region that draws its order, walked in an order of ours. -/
theorem awp_any {P : Program} {X : Ctx} {id : Nat} {ops : List Oper} {Q : AX → S → Prop} {s : S} (sch : List Nat) (l : List Oper) (hm : P.follows .mixedOrders = true) (hns : Region.noSelect ops.toArray = true) (hlen : sch.length = ops.length)
    (hok : okSch ops.toArray sch (Array.replicate ops.length false) = true) (hl : sch.mapM (fun i => ops.toArray[i]?) = some l) (h : vcOps P ops.toArray Q l s) : awp P X (.region id ops.toArray true) Q s := by
  intro a w μ hS
  refine wp_region_held (S := fun _ => True) hm ?_
  have hS' : Sim P X s a w.drew μ := ⟨hS.len, fun i x hx => (hS.rep i x hx).adv ((Adv.drew NoF).ofNo _) (List.prefix_refl _), hS.hs.ofNo (Adv.drew NoF), hS.adv.trans ((Adv.drew NoF).ofNo _), hS.pre, hS.defers⟩
  have := any_sound hns sch _ s l hok hl h a w.drew μ hS'
  have e : ops.toArray.size = sch.length := by simp [hlen]
  rw [e, hlen]
  rw [hlen] at this
  exact this
/-! Regions with loads and calls, that write nothing that was there. -/
/-- Operations that write nothing, and are no calls of Go functions. -/
def quietOp (o : Op) : Bool := pureOp o && (match o with | .call c => (match c.callee with | .value _ => false | _ => true) | _ => true)

def okQ (ops : Array Oper) : List Nat → Array Bool → Bool
  | [], listed => (Region.ready .any ops listed).isEmpty
  | i :: rest, listed =>
    (match ops[i]? with
     | some o => if quietOp o.op then (Region.ready .any ops listed).contains i && Region.free .any ops listed i else Region.ready .any ops listed == [i]
     | none => false) && okQ ops rest (listed.setIfInBounds i true)

def callN (P : Program) (f : A) (args : List A) (dst : Option Tmp) (K : S → Prop) (s : S) : Prop :=
  match f with
  | .fn fid caps => ∃ args' r, argsK P s.h (args ++ caps) = some args' ∧ FCall P fid args' (fun x => x = r) ∧ (scal r || noidL (args ++ caps)) = true ∧ K ⟨put s.t dst r, s.h⟩
  | _ => False

def stepN (P : Program) (o : Oper) (K : S → Prop) (s : S) : Prop :=
  match o.op with
  | .call c => match c.callee with
    | .value f => callN P (ev s.t f) (c.args.toList.map (ev s.t)) o.dst K s
    | _ => (quietOp o.op || allocOp o.op) = true ∧ obind (aop P s.h (ev s.t) o.op) (finK o.dst K s.t)
  | _ => (quietOp o.op || allocOp o.op) = true ∧ obind (aop P s.h (ev s.t) o.op) (finK o.dst K s.t)

def vcN (P : Program) (ops : Array Oper) (Q : AX → S → Prop) : List Oper → S → Prop
  | [], s => Q .normal s
  | o :: rest, s =>
    match o.guard with
    | none => stepN P o (vcN P ops Q rest) s
    | some (j, want) => guardK (gval ops s.t j) want (stepN P o (vcN P ops Q rest) s) (vcN P ops Q rest ⟨put s.t o.dst (.tup []), s.h⟩)

theorem callN_run {P : Program} {f : FuncId} {args args' : List A} {r : A} {w : World} {F0 : Fz} {μ : Mu} {H : List Row} {vs : List Value} (hs : HS P w F0 μ H) (hl : RepL P w (Ft F0 μ H) μ args vs) (hn : argsK P H args = some args') (hc : FCall P f args' (fun x => x = r)) (hr : (scal r || noidL args) = true) :
    Calls P f ⟨vs⟩ w fun e w' => ∃ v, e = .returned v ∧ Rep P w' (Ft F0 μ H) μ r v ∧ Adv w NoF w' NoF := by
  obtain ⟨ys, h1, h2⟩ := Option.map_eq_some_iff.1 hn
  subst h2
  by_cases hsc : scal r = true
  · have hl' := s_resL (F' := NoF) hs (fun _ _ hf => hf.elim) (fun _ _ _ _ _ _ _ _ _ hf => hf) hl h1
    refine (hc.wk.2 w NoF vs (fun b o hf => hf.elim) hl').mono ?_
    rintro e w' ⟨v, r', rfl, rfl, g2, g3⟩
    exact ⟨v, rfl, g2.scal hsc, g3⟩
  · have hna : noidL args = true := by simpa [hsc] using hr
    have : ys = args := by simp [resL, hna] at h1; exact h1.symm
    subst this
    refine (hc.wk.2 w (Ft F0 μ H) vs (fun b o hf => hs.lt hf) (RepL.noid hna hl)).mono ?_
    rintro e w' ⟨v, r', rfl, rfl, g2, g3⟩
    exact ⟨v, rfl, g2.mono (fun _ _ _ h => h) List.nil_prefix, g3⟩

theorem wpAnyH_mono {P : Program} {ops : Array Oper} {md : Region.Mode} {Q : Exit → Act → World → Prop} {S1 S2 : World → Prop} (h12 : ∀ w, S1 w → S2 w) : ∀ (fuel : Nat) (listed : Array Bool) (a : Act) (w : World), wpAnyH P md ops Q S1 fuel listed a w → wpAnyH P md ops Q S2 fuel listed a w
  | 0, _, _, _, h => h
  | fuel + 1, _, _, _, h => ⟨h.1, fun i hi => wpOp_mono (fun a' w' h' => ⟨h12 w' h'.1, wpAnyH_mono h12 fuel _ a' w' h'.2⟩) (h.2 i hi)⟩

theorem Sim.later {P : Program} {X : Ctx} {s : S} {a : Act} {w w' : World} {μ : Mu} (hS : Sim P X s a w μ) (hA : Adv w NoF w' NoF) : Sim P X s a w' μ :=
  ⟨hS.len, fun i x hx => (hS.rep i x hx).adv (hA.ofNo _) (List.prefix_refl _), hS.hs.ofNo hA, hS.adv.trans (hA.ofNo _), hS.pre, hS.defers⟩

theorem quiet_sound {P : Program} {X : Ctx} {ops : Array Oper} {Q : AX → S → Prop} (hns : Region.noSelect ops = true) : ∀ (sch : List Nat) (listed : Array Bool) (s : S) (l : List Oper), okQ ops sch listed = true → sch.mapM (fun i => ops[i]?) = some l → vcN P ops Q l s →
    ∀ a w μ, Sim P X s a w μ → wpAnyH P .any ops (lift P X Q) (fun w' => Adv w NoF w' NoF) sch.length listed a w
  | [], listed, s, l, hok, hl, h, a, w, μ, hS => by
    simp at hl; subst hl
    simp only [okQ, List.isEmpty_iff] at hok
    exact wpAnyH_done hok ⟨.normal, s, μ, rfl, h, hS⟩ _
  | i :: rest, listed, s, l, hok, hl, h, a, w, μ, hS => by
    simp only [okQ, Bool.and_eq_true] at hok
    obtain ⟨hok1, hok2⟩ := hok
    simp only [List.mapM_cons, Option.bind_eq_bind, Option.pure_def] at hl
    obtain ⟨o, ho, hl⟩ := Option.bind_eq_some_iff.1 hl
    obtain ⟨l', hl', hl⟩ := Option.bind_eq_some_iff.1 hl
    cases hl
    rw [ho] at hok1
    simp only at hok1
    have ih := fun s => quiet_sound (P := P) (X := X) (Q := Q) hns rest (listed.setIfInBounds i true) s l' hok2 hl'
    by_cases hc : quietOp o.op = true
    · rw [if_pos hc, Bool.and_eq_true] at hok1
      have hQ : ∀ (v : Value) c a w, lift P X Q (.panic c) (a.put o.dst v) w → lift P X Q (.panic c) a w := by
        rintro v c a w ⟨x, s', μ', he, _⟩
        cases x <;> cases he
      have step : ∀ K : S → Prop, stepN P o K s → ∃ r v, K ⟨put s.t o.dst r, s.h⟩ ∧ (∀ w', Adv w NoF w' NoF → (execOp a.eval o).run P w' = .ok (.value v) w') ∧ Rep P w (Ft X.F0 μ s.h) μ r v := by
        intro K h
        have h' : obind (aop P s.h (ev s.t) o.op) (finK o.dst K s.t) := by
          unfold stepN at h
          split at h
          · rename_i c hcc
            split at h
            · rename_i f hf
              simp [quietOp, hcc, hf] at hc
            · exact h.2
          · exact h.2
        cases hop : aop P s.h (ev s.t) o.op with
        | none => rw [hop] at h'; exact h'.elim
        | some y =>
          obtain ⟨r, H'⟩ := y
          rw [hop] at h'
          have hp : pureOp o.op = true := by unfold quietOp at hc; simp only [Bool.and_eq_true] at hc; exact hc.1
          obtain ⟨rfl, v, h1, h2⟩ := s_pure (a := a) o hp hS.hs hS.eval hop
          exact ⟨r, v, h', h1, h2⟩
      have go : ∀ r v, vcN P ops Q l' ⟨put s.t o.dst r, s.h⟩ → YieldsIf P ops (fun w' => Adv w NoF w' NoF) o v a → Rep P w (Ft X.F0 μ s.h) μ r v → wpAnyH P .any ops (lift P X Q) (fun w' => Adv w NoF w' NoF) (rest.length + 1) listed a w := by
        intro r v hK hy hr
        refine wpAnyH_take ho hns hok1.2 hok1.1 (hQ v) hy (Adv.refl _ _) ?_
        exact ih _ hK _ _ μ (hS.put o.dst hS.hs (Adv.refl _ _) (List.prefix_refl _) hr)
      simp only [vcN] at h
      split at h
      · rename_i hg
        obtain ⟨r, v, hK, h1, h2⟩ := step _ h
        exact go r v hK (.inl ⟨by simp [Region.wanted, hg], h1⟩) h2
      · rename_i j want hg
        unfold guardK at h
        split at h
        · rename_i b hb
          have hwt := wanted_of hS hg hb
          by_cases hw : b = want
          · obtain ⟨r, v, hK, h1, h2⟩ := step _ (h.1 hw)
            exact go r v hK (.inl ⟨by rw [hwt]; simp [hw], h1⟩) h2
          · have hb' : b = !want := by cases b <;> cases want <;> simp_all
            exact go (.tup []) undef (h.2 hb') (.inr ⟨by rw [hwt]; simp [hw], rfl⟩) rep_undef
        · rename_i hb
          have hy := gval_und hS hb
          exact go (.tup []) undef h (.inr ⟨by simp [Region.wanted, hg, hy], rfl⟩) rep_undef
        · exact h.elim
    · rw [if_neg hc] at hok1
      refine wpAnyH_all (rs := [i]) (by simpa using hok1) (by simp) ?_
      intro i' hi'
      simp at hi'; subst hi'
      have after : ∀ s' a' w' μ', vcN P ops Q l' s' → Sim P X s' a' w' μ' → Adv w NoF w' NoF → Adv w NoF w' NoF ∧ wpAnyH P .any ops (lift P X Q) (fun w'' => Adv w NoF w'' NoF) rest.length (listed.setIfInBounds i' true) a' w' :=
        fun s' a' w' μ' hK hS' hA => ⟨hA, wpAnyH_mono (fun w'' h => hA.trans h) _ _ _ _ (ih s' hK a' w' μ' hS')⟩
      have step : stepN P o (vcN P ops Q l') s → o.wp P a w (fun a' w' => Adv w NoF w' NoF ∧ wpAnyH P .any ops (lift P X Q) (fun w'' => Adv w NoF w'' NoF) rest.length (listed.setIfInBounds i' true) a' w') (lift P X Q) := by
        intro h
        have plain : (quietOp o.op || allocOp o.op) = true ∧ obind (aop P s.h (ev s.t) o.op) (finK o.dst (vcN P ops Q l') s.t) → o.wp P a w (fun a' w' => Adv w NoF w' NoF ∧ wpAnyH P .any ops (lift P X Q) (fun w'' => Adv w NoF w'' NoF) rest.length (listed.setIfInBounds i' true) a' w') (lift P X Q) := by
          rintro ⟨hao, h⟩
          have hal : allocOp o.op = true := by simpa [hc] using hao
          cases hop : aop P s.h (ev s.t) o.op with
          | none => rw [hop] at h; exact h.elim
          | some y =>
            obtain ⟨r, H'⟩ := y
            rw [hop] at h
            obtain ⟨v, w', h1, h2, h3⟩ := s_alloc (a := a) o hal hS.hs hS.eval hop
            obtain ⟨μ', h4⟩ := sim_step (d := o.dst) hS h2
            unfold Oper.wp
            rw [h1]
            exact after _ _ _ μ' h h4 h3
        unfold stepN at h
        split at h
        · rename_i c hcc
          split at h
          · rename_i f hf
            unfold callN at h
            split at h
            · rename_i fid caps hfn
              obtain ⟨args', r, hn, hF, hsn, hK⟩ := h
              have hrf := hS.eval f
              rw [hfn] at hrf
              generalize hva : a.eval f = vf at hrf
              cases hrf with | fn _ _ _ vcaps hl hh =>
              have hL := (repL_map hS.eval c.args.toList).app (RepL.ofget hl hh)
              have hcall := callN_run hS.hs hL hn hF hsn
              obtain ⟨dst, op, type, pos, aft, g⟩ := o
              obtain ⟨callee, as, ts⟩ := c
              simp only at hcc hf
              subst hcc hf
              unfold Oper.wp
              rw [run_enter hF.1 hva]
              refine hcall.mono ?_
              rintro e w' ⟨v, rfl, g1, g2⟩
              exact after _ _ _ μ hK (hS.put dst (hS.hs.ofNo g2) (g2.ofNo _) (List.prefix_refl _) g1) g2
            · exact h.elim
          · exact plain h
        · exact plain h
      unfold wpOp
      simp only [ho]
      simp only [vcN] at h
      split at h
      · rename_i hg
        rw [if_pos (by simp [Region.wanted, hg])]
        exact .inl (step h)
      · rename_i j want hg
        unfold guardK at h
        split at h
        · rename_i b hb
          have hwt := wanted_of hS hg hb
          by_cases hw : b = want
          · rw [if_pos (by rw [hwt]; simp [hw])]
            exact .inl (step (h.1 hw))
          · have hb' : b = !want := by cases b <;> cases want <;> simp_all
            rw [if_neg (by rw [hwt]; simp [hw])]
            exact after _ _ _ μ (h.2 hb') (hS.put o.dst hS.hs (Adv.refl _ _) (List.prefix_refl _) rep_undef) (Adv.refl _ _)
        · rename_i hb
          have hy := gval_und hS hb
          rw [if_neg (by simp [Region.wanted, hg, hy])]
          exact after _ _ _ μ h (hS.put o.dst hS.hs (Adv.refl _ _) (List.prefix_refl _) rep_undef) (Adv.refl _ _)
        · exact h.elim

/-- A region that draws its order, with loads and calls, that writes nothing that was there: walked in an order of ours. -/
theorem awp_quiet {P : Program} {X : Ctx} {id : Nat} {ops : List Oper} {Q : AX → S → Prop} {s : S} (sch : List Nat) (l : List Oper) (hm : P.follows .mixedOrders = true) (hns : Region.noSelect ops.toArray = true) (hlen : sch.length = ops.length)
    (hok : okQ ops.toArray sch (Array.replicate ops.length false) = true) (hl : sch.mapM (fun i => ops.toArray[i]?) = some l) (h : vcN P ops.toArray Q l s) : awp P X (.region id ops.toArray true) Q s := by
  intro a w μ hS
  refine wp_region_held (S := fun w' => Adv w.drew NoF w' NoF) hm ?_
  have := quiet_sound hns sch _ s l hok hl h a w.drew μ (hS.later (Adv.drew NoF))
  have e : ops.toArray.size = sch.length := by simp [hlen]
  rw [e, hlen]
  rw [hlen] at this
  exact this
end Go.AL
/- An abstract layer over the walk, 13b: rows that are renumbered and forgotten at the head of a loop. No program in sight. -/
namespace Go.AL

/-! What is known of x is known of y, y's row i being x's row ids[i]. -/
mutual
def leA (ids : List Nat) : A → A → Prop
  | _, .any => True
  | x, .own i off len cb ex => x = .own (ids.getD i 0) off len cb ex ∨ (x = .sl true [] ∧ len = 0 ∧ cb = 0 ∧ ex = true)
  | x, .pto i sz j co => x = .pto (ids.getD i 0) sz j co
  | x, .mp i => x = .mp (ids.getD i 0)
  | x, .sl f es => x = .sl f es ∨ (f = false ∧ x = .sl true es)
  | .agg cs, .agg ds => leL ids cs ds
  | .tup cs, .tup ds => leL ids cs ds
  | .fn f cs, .fn g ds => f = g ∧ leL ids cs ds
  | .ub, .ub => True
  | .bool _, .ub => True
  | x, .int k n => x = .int k n
  | x, .bool b => x = .bool b
  | x, .str l => x = .str l
  | x, .ptr d => x = .ptr d
  | x, .nptr => x = .nptr
  | x, .nfn => x = .nfn
  | _, _ => False
def leL (ids : List Nat) : List A → List A → Prop
  | [], [] => True
  | x :: xs, y :: ys => leA ids x y ∧ leL ids xs ys
  | _, _ => False
end

theorem leL_len {ids : List Nat} : ∀ {xs ys : List A}, leL ids xs ys → ys.length = xs.length
  | [], [], _ => rfl
  | _ :: _, _ :: _, h => by simp [leL] at h; simp [leL_len h.2]
  | [], _ :: _, h => by simp [leL] at h
  | _ :: _, [], h => by simp [leL] at h

theorem leL_get {ids : List Nat} : ∀ {xs ys : List A}, leL ids xs ys → ∀ (i : Nat) (y : A), ys[i]? = some y → ∃ x, xs[i]? = some x ∧ leA ids x y
  | [], [], _, i, y, h => by simp at h
  | x :: xs, y' :: ys, h, 0, y, hy => by simp [leL] at h; simp at hy; subst hy; exact ⟨x, by simp, h.1⟩
  | x :: xs, y' :: ys, h, i + 1, y, hy => by simp [leL] at h; simp at hy; simpa using leL_get h.2 i y hy
  | [], _ :: _, h, _, _, _ => by simp [leL] at h
  | _ :: _, [], h, _, _, _ => by simp [leL] at h

/-- Where the rows of ys lie. -/
def rnMu (μ : Mu) (ids : List Nat) : Mu := ids.map fun j => μ.getD j (0, 0)

/-! All rows of y are there. -/
mutual
def hasR (n : Nat) : A → Prop
  | .own i _ _ cb ex => i < n ∨ (cb = 0 ∧ ex = true)
  | .pto i _ _ _ => i < n
  | .mp i => i < n
  | .agg cs => hasRL n cs
  | .tup cs => hasRL n cs
  | .fn _ cs => hasRL n cs
  | _ => True
def hasRL (n : Nat) : List A → Prop
  | [] => True
  | x :: xs => hasR n x ∧ hasRL n xs
end

theorem hasRL_get {n : Nat} : ∀ {xs : List A}, hasRL n xs → ∀ (i : Nat) (x : A), xs[i]? = some x → hasR n x
  | [], _, i, x, h => by simp at h
  | y :: ys, hn, 0, x, h => by simp at h; subst h; simp [hasRL] at hn; exact hn.1
  | y :: ys, hn, i + 1, x, h => by simp at h; simp [hasRL] at hn; exact hasRL_get hn.2 i x h

theorem getD_of_lt {ids : List Nat} {i : Nat} (h : i < ids.length) : ids[i]? = some (ids.getD i 0) := by
  rw [List.getD_eq_getElem?_getD, List.getElem?_eq_getElem h]; rfl

theorem rnMu_get {μ : Mu} {ids : List Nat} {i : Nat} {b : Nat × Nat} (hi : i < ids.length) (h : μ[ids.getD i 0]? = some b) : (rnMu μ ids)[i]? = some b := by
  simp only [rnMu, List.getElem?_map, getD_of_lt hi, Option.map_some]
  rw [List.getD_eq_getElem?_getD, h]; rfl

theorem rep_ren {P : Program} {w : World} {F : Fz} {μ : Mu} {ids : List Nat} {x : A} {v : Value} (h : Rep P w F μ x v) : ∀ {y : A}, leA ids x y → hasR ids.length y → Rep P w F (rnMu μ ids) y v := by
  induction h with
  | int μ k n => intro y hle hr; cases y <;> simp [leA] at hle <;> first | (obtain ⟨rfl, rfl⟩ := hle; exact .int _ _ _) | exact .any _ _
  | bool μ b => intro y hle hr; cases y <;> simp [leA] at hle <;> first | (subst hle; exact .bool _ _) | exact .any _ _ | exact .ub _ _
  | ub μ b => intro y hle hr; cases y <;> simp [leA] at hle <;> first | exact .any _ _ | exact .ub _ _
  | str μ l => intro y hle hr; cases y <;> simp [leA] at hle <;> first | (subst hle; exact .str _ _) | exact .any _ _
  | slnil μ full a =>
    intro y hle hr
    cases y <;> simp [leA] at hle <;> try exact .any _ _
    · obtain ⟨_, rfl⟩ | ⟨_, _, rfl⟩ := hle <;> exact .slnil _ _ _
    · obtain ⟨rfl, rfl, rfl, rfl⟩ := hle; exact .ownn _ _ _ _
  | sl μ full es b off n cap sz V hn hcap hmax hfull hsz hrep hcell ih =>
    intro y hle hr
    cases y <;> simp [leA] at hle <;> try exact .any _ _
    · obtain ⟨rfl, rfl⟩ | ⟨rfl, rfl, rfl⟩ := hle
      · exact .sl _ _ _ b off n cap sz V hn hcap hmax hfull hsz hrep hcell
      · exact .sl _ _ _ b off n cap sz V hn hcap hmax (by simp) hsz hrep hcell
    · obtain ⟨⟨rfl, rfl⟩, rfl, rfl, rfl⟩ := hle
      have hn0 : n = 0 := by simpa using hn
      subst hn0
      have := hfull rfl
      subst this
      exact .ownn _ _ _ _
  | own μ id off len cb ex b bs cap ty n hμ hs hfit hlen hcb hmax hex ao hat =>
    intro y hle hr
    cases y <;> simp [leA] at hle <;> try exact .any _ _
    rename_i i off' len' cb' ex'
    obtain ⟨h1, rfl, rfl, rfl, rfl⟩ := hle
    simp only [hasR] at hr
    rcases hr with hr | ⟨rfl, rfl⟩
    · exact .own _ i off len cb ex b bs cap ty n (rnMu_get hr (by rw [List.getD_eq_getElem?_getD]; rw [← h1]; exact hμ)) hs hfit hlen hcb hmax hex ao hat
    · have := hex rfl
      subst this
      have : len = 0 := by omega
      subst this
      exact .ownn _ _ _ _
  | ownn μ id off a =>
    intro y hle hr
    cases y <;> simp [leA] at hle <;> try exact .any _ _
    obtain ⟨h1, rfl, rfl, rfl, rfl⟩ := hle
    exact .ownn _ _ _ _
  | ptr μ d b off v hrep hnc hcell ih =>
    intro y hle hr
    cases y <;> simp [leA] at hle <;> try exact .any _ _
    subst hle
    exact .ptr _ _ b off v hrep hnc hcell
  | pto μ id sz i co b bs hμ =>
    intro y hle hr
    cases y <;> simp [leA] at hle <;> try exact .any _ _
    obtain ⟨h1, rfl, rfl, rfl⟩ := hle
    simp only [hasR] at hr
    exact .pto _ _ _ _ _ b bs (rnMu_get hr (by rw [List.getD_eq_getElem?_getD]; rw [← h1]; exact hμ))
  | nptr μ => intro y hle hr; cases y <;> simp [leA] at hle <;> first | exact .nptr _ | exact .any _ _
  | agg μ cs vs hl h1 h ih =>
    intro y hle hr
    cases y <;> simp [leA] at hle <;> try exact .any _ _
    rename_i ds
    simp only [hasR] at hr
    refine .agg _ ds vs (by rw [hl, leL_len hle]) h1 fun i c u hc hu => ?_
    obtain ⟨x, hx, hxc⟩ := leL_get hle i c hc
    exact ih i x u hx hu hxc (hasRL_get hr i c hc)
  | tup μ cs vs hl h ih =>
    intro y hle hr
    cases y <;> simp [leA] at hle <;> try exact .any _ _
    rename_i ds
    simp only [hasR] at hr
    refine .tup _ ds vs (by rw [hl, leL_len hle]) fun i c u hc hu => ?_
    obtain ⟨x, hx, hxc⟩ := leL_get hle i c hc
    exact ih i x u hx hu hxc (hasRL_get hr i c hc)
  | fn μ f cs vs hl h ih =>
    intro y hle hr
    cases y <;> simp [leA] at hle <;> try exact .any _ _
    rename_i g ds
    simp only [hasR] at hr
    obtain ⟨rfl, hle⟩ := hle
    refine .fn _ f ds vs (by rw [hl, leL_len hle]) fun i c u hc hu => ?_
    obtain ⟨x, hx, hxc⟩ := leL_get hle i c hc
    exact ih i x u hx hu hxc (hasRL_get hr i c hc)
  | nfn μ => intro y hle hr; cases y <;> simp [leA] at hle <;> first | exact .nfn _ | exact .any _ _
  | mp μ id b hμ =>
    intro y hle hr
    cases y <;> simp [leA] at hle <;> try exact .any _ _
    rename_i i
    simp only [hasR] at hr
    exact .mp _ i b (rnMu_get hr (by rw [List.getD_eq_getElem?_getD]; rw [← hle]; exact hμ))
  | any μ v => intro y hle hr; cases y <;> simp [leA] at hle; exact .any _ _

theorem leA_shp {P : Program} {ids : List Nat} {t : TypeId} {x y : A} (h : leA ids x y) (hy : y ≠ .any) (hs : shp P t x = true) : shp P t y = true := by
  cases x <;> cases y <;> simp [leA, shp] at h hs hy ⊢ <;> first | exact hs | (simp_all; done) | skip
  all_goals (have := leL_len h; exact ⟨hs.1, by rw [this]; exact hs.2⟩)

def isAny : A → Bool
  | .any => true
  | _ => false
/-- Nothing is forgotten whole. -/
def noany : List A → Bool
  | [] => true
  | x :: xs => !isAny x && noany xs
theorem noany_mem : ∀ {xs : List A}, noany xs = true → ∀ e ∈ xs, e ≠ .any
  | [], _, e, he => by simp at he
  | x :: xs, h, e, he => by
    simp only [noany, Bool.and_eq_true] at h
    rcases List.mem_cons.1 he with rfl | he
    · intro h2; rw [h2] at h; simp [isAny] at h
    · exact noany_mem h.2 e he
@[simp] theorem noany_append (xs ys : List A) : noany (xs ++ ys) = (noany xs && noany ys) := by
  induction xs with
  | nil => simp [noany]
  | cons x xs ih => simp [noany, ih, Bool.and_assoc]
attribute [simp] isAny noany

/-- Rows. -/
def leRow (ids : List Nat) (n : Nat) (H : List Row) (j : Nat) (y : Row) : Prop :=
  y.live = false ∨ (∃ x, H[j]? = some x ∧ x.live = true ∧ x.ty = y.ty ∧ x.sz = y.sz ∧ x.f ≤ y.f ∧ leL ids x.es y.es ∧ hasRL n y.es ∧ noany y.es = true ∧ y.sz ≠ 0) ∨ (y.sz = 0 ∧ H[j]? = some y)
def leRows (ids : List Nat) (n : Nat) (H : List Row) : List Nat → List Row → Prop
  | [], [] => True
  | j :: js, y :: ys => leRow ids n H j y ∧ leRows ids n H js ys
  | _, _ => False

theorem leRows_len {ids : List Nat} {n : Nat} {H : List Row} : ∀ {js : List Nat} {ys : List Row}, leRows ids n H js ys → ys.length = js.length
  | [], [], _ => rfl
  | _ :: _, _ :: _, h => by simp [leRows_len h.2]
  | [], _ :: _, h => h.elim
  | _ :: _, [], h => h.elim

theorem leRows_get {ids : List Nat} {n : Nat} {H : List Row} : ∀ {js : List Nat} {ys : List Row}, leRows ids n H js ys → ∀ (i : Nat) (y : Row), ys[i]? = some y → ∃ j, js[i]? = some j ∧ leRow ids n H j y
  | [], [], _, i, y, h => by simp at h
  | j :: js, y' :: ys, h, 0, y, hy => by simp at hy; subst hy; exact ⟨j, by simp, h.1⟩
  | j :: js, y' :: ys, h, i + 1, y, hy => by simp at hy; simpa using leRows_get h.2 i y hy
  | [], _ :: _, h, _, _, _ => h.elim
  | _ :: _, [], h, _, _, _ => h.elim

theorem hsren {P : Program} {w : World} {F0 : Fz} {μ : Mu} {H H' : List Row} {ids : List Nat} (hs : HS P w F0 μ H) (hnd : ids.Nodup) (hH : leRows ids ids.length H ids H') :
    HS P w F0 (rnMu μ ids) H' ∧ Adv w (Fof μ H) w (Fof (rnMu μ ids) H') := by
  have hlen := leRows_len hH
  have get : ∀ (i : Nat) (y : Row) (b bs : Nat), H'[i]? = some y → y.live = true → (rnMu μ ids)[i]? = some (b, bs) → ∃ j x, ids[i]? = some j ∧ H[j]? = some x ∧ μ[j]? = some (b, bs) ∧ x.live = true ∧ x.ty = y.ty ∧ x.sz = y.sz ∧ x.f ≤ y.f ∧ (leL ids x.es y.es ∧ hasRL ids.length y.es ∧ noany y.es = true ∧ y.sz ≠ 0 ∨ y.sz = 0 ∧ x = y) := by
    intro i y b bs hy hl hb
    obtain ⟨j, hj, hr⟩ := leRows_get hH i y hy
    have hμj : ∀ x, H[j]? = some x → μ[j]? = some (b, bs) := by
      intro x h1
      have hjl : j < μ.length := by rw [hs.len]; exact (List.getElem?_eq_some_iff.1 h1).1
      simp only [rnMu, List.getElem?_map, hj, Option.map_some] at hb
      rw [List.getD_eq_getElem?_getD, List.getElem?_eq_getElem hjl] at hb
      rw [List.getElem?_eq_getElem hjl]
      simpa using hb
    rcases hr with hr | ⟨x, h1, h2, h3, h4, h5, h6, h7, h8, h9⟩ | ⟨h1, h2⟩
    · rw [hl] at hr; cases hr
    · exact ⟨j, x, hj, h1, hμj x h1, h2, h3, h4, h5, .inl ⟨h6, h7, h8, h9⟩⟩
    · exact ⟨j, y, hj, h2, hμj y h2, hl, rfl, rfl, Nat.le_refl _, .inr ⟨h1, rfl⟩⟩
  have hm : ∀ b o, Fof (rnMu μ ids) H' b o → Fof μ H b o := by
    rintro b o ⟨i, y, bs, h1, h2, h3, h4⟩
    obtain ⟨j, x, _, g1, g2, g3, _, g5, g6, _⟩ := get i y b bs h1 h2 h3
    refine ⟨j, x, bs, g1, g3, g2, ?_⟩
    have := Nat.mul_le_mul_right y.sz g6
    rw [g5]; omega
  have hA : Adv w (Fof μ H) w (Fof (rnMu μ ids) H') := ⟨rfl, rfl, rfl, Nat.le_refl _, fun _ _ _ h _ => h, fun b o _ h => hm b o h, fun _ _ _ h => h, fun _ _ _ => rfl⟩
  refine ⟨⟨by simp [rnMu, hlen], hs.bound, ?_, ?_, ?_⟩, hA⟩
  · intro i y b bs hy hl hb
    obtain ⟨j, x, g0, g1, g2, g3, g4, g5, g6, g7⟩ := get i y b bs hy hl hb
    rcases g7 with ⟨g7, g8, g9, g10⟩ | ⟨g10, rfl⟩
    case inr =>
      rcases hs.row j x b bs g1 g3 g2 with ⟨_, _, _, c3, _⟩ | c1
      · exact (c3 g10).elim
      · exact .inr (c1.adv (hA.join F0) rfl)
    obtain ⟨cur, c1, c2, c3, c4, c5⟩ := hs.cellsZ g1 g3 g2 (by rw [g5]; exact g10)
    refine .inl ⟨cur, by rw [← g4]; exact c1, by rw [← g4, ← g5]; exact c2, by rw [← g5]; exact c3, by rw [leL_len g7, ← g5]; exact c4, ?_⟩
    intro k e he
    obtain ⟨d, hd, hle⟩ := leL_get g7 k e he
    obtain ⟨k1, V, k2, k3⟩ := c5 k d hd
    refine ⟨by rw [← g4]; exact leA_shp hle (noany_mem g9 e (List.mem_of_getElem? he)) k1, V, ?_, by rw [← g5]; exact k3⟩
    exact (rep_ren k2 hle (hasRL_get g8 k e he)).mono (fun b o _ hf => hf.imp id (hm b o)) (List.prefix_refl _)
  · intro i i' y y' b bs bs' hy hl hy' hl' hb hb'
    obtain ⟨j, x, g0, g1, g2, g3, _⟩ := get i y b bs hy hl hb
    obtain ⟨j', x', g0', g1', g2', g3', _⟩ := get i' y' b bs' hy' hl' hb'
    have := hs.inj j j' x x' b bs bs' g1 g3 g1' g3' g2 g2'
    subst this
    exact (List.getElem?_inj (List.getElem?_eq_some_iff.1 g0).1 hnd).1 (g0.trans g0'.symm)
  · intro i y b bs o hy hl hb
    obtain ⟨j, x, g0, g1, g2, g3, _⟩ := get i y b bs hy hl hb
    exact hs.sep j x b bs o g1 g3 g2

/-- The state at the head of a loop: rows renumbered, forgotten, made of nil slices. The first n rows stay. -/
theorem Wk.ren {P : Program} {X : Ctx} {t t' : List A} {H H' : List Row} (n : Nat) (ids : List Nat) (hX : X.μ.length ≤ n) (hn : ids.take n = List.range n) (hnd : ids.Nodup) (ht : leL ids t t') (htr : hasRL ids.length t') (hnl : n ≤ H.length) (hH : leRows ids ids.length H ids H') : Wk P X ⟨t, H⟩ ⟨t', H'⟩ := by
  intro a w μ hs
  obtain ⟨h1, h2⟩ := hsren hs.hs hnd hH
  refine ⟨rnMu μ ids, ?_, ?_, h1, hs.adv.trans h2, ?_, hs.defers⟩
  · rw [hs.len]; exact (leL_len ht).symm
  · intro i y hy
    obtain ⟨x, hx, hle⟩ := leL_get ht i y hy
    have := rep_ren (hs.rep i x hx) hle (hasRL_get htr i y hy)
    exact this.adv (h2.join X.F0) (List.prefix_refl _)
  · obtain ⟨r, hr⟩ := hs.pre
    have hl : n ≤ ids.length := by
      have := congrArg List.length hn
      simp at this; omega
    have hμ : n ≤ μ.length := by rw [hs.hs.len]; exact hnl
    have e : (rnMu μ ids).take n = μ.take n := by
      apply List.ext_getElem?
      intro i
      simp only [List.getElem?_take]
      split
      · rename_i hi
        have hii : ids[i]? = some i := by
          have := congrArg (fun l => l[i]?) hn
          simp only [List.getElem?_take, hi, if_true] at this
          rw [this, List.getElem?_range hi]
        simp only [rnMu, List.getElem?_map, hii, Option.map_some]
        rw [List.getD_eq_getElem?_getD, List.getElem?_eq_getElem (by omega)]
        rfl
      · rfl
    have hp : X.μ <+: μ.take n := by
      rw [← hr, List.take_append, List.take_of_length_le hX]
      exact List.prefix_append _ _
    rw [← e] at hp
    exact hp.trans (List.take_prefix _ _)
end Go.AL
/- An abstract layer over the walk, 13c: lists of a type of Lean's as slices. No program in sight. -/
namespace Go.AL

/-- How a value of a type lies in memory. -/
class Enc (α : Type) where
  enc : α → A
  sz : Nat
  noid : ∀ x, (enc x).noid = true
  wk : ∀ x, wkA (enc x) = enc x
  nc : ∀ x, (enc x).ncells = sz
  pos : sz ≠ 0

instance : Enc Int := ⟨A.int .i64, 1, fun _ => rfl, fun _ => by simp, fun _ => rfl, by decide⟩
instance : Enc Bool := ⟨A.bool, 1, fun _ => rfl, fun _ => by simp, fun _ => rfl, by decide⟩
instance : Enc (List UInt8) := ⟨A.str, 1, fun _ => rfl, fun _ => by simp, fun _ => rfl, by decide⟩
@[simp] theorem enc_int (n : Int) : Enc.enc n = A.int .i64 n := rfl
@[simp] theorem enc_bool (b : Bool) : Enc.enc b = A.bool b := rfl
@[simp] theorem enc_str (l : List UInt8) : Enc.enc l = A.str l := rfl
@[simp] theorem sz_int : Enc.sz Int = 1 := rfl
@[simp] theorem sz_bool : Enc.sz Bool = 1 := rfl
@[simp] theorem sz_str : Enc.sz (List UInt8) = 1 := rfl

/-- A slice that grows: all of a row. -/
def B {α : Type} (id : Nat) (l : List α) : A := .own id 0 l.length l.length l.isEmpty

section
variable {α : Type}
@[simp] theorem B_noid (id : Nat) (l : List α) : (B id l).noid = false := rfl
@[simp] theorem B_nc (id : Nat) (l : List α) : (B id l).ncells = 1 := rfl
@[simp] theorem B_cells (id : Nat) (l : List α) : (B id l).cells = [B id l] := rfl
@[simp] theorem B_scal (id : Nat) (l : List α) : scal (B id l) = false := rfl
@[simp] theorem B_shp {P : Program} {t : TypeId} (id : Nat) (l : List α) : shp P t (B id l) = (!aggT P t && P.cellsOf t == 1) := rfl
@[simp] theorem B_wk (id : Nat) (l : List α) : wkA (B id l) = B id l := by unfold B; simp only [wkA]
@[simp high] theorem alen_B {P : Program} {t : TypeId} (id : Nat) (l : List α) (h : isSliceT P t = true) : alen P t (B id l) = some (.int .i64 l.length) := by
  unfold alen B
  rw [selem_eq h]
@[simp high] theorem nilB_B (id : Nat) (l : List α) : (B id l).nilB = if l.isEmpty then .ub else .bool false := by
  cases l <;> rfl
@[simp high] theorem leA_B {ids : List Nat} {x : A} (i : Nat) (l : List α) : leA ids x (B i l) = (x = .own (ids.getD i 0) 0 l.length l.length l.isEmpty ∨ (x = .sl true [] ∧ l = [])) := by
  unfold B
  cases l <;> cases x <;> simp [leA]
@[simp 20000] theorem leA_BB {ids : List Nat} (i j : Nat) (l : List α) (h : ids.getD j 0 = i) : leA ids (B i l) (B j l) = True := by
  subst h
  unfold B
  cases l <;> simp [leA]
@[simp high] theorem hasR_B {n : Nat} (i : Nat) (l : List α) : hasR n (B i l) = (i < n ∨ l = []) := by
  unfold B
  cases l <;> simp [hasR]
end

section
variable {α : Type} [Enc α]

/-- A slice that is read. -/
def Ls (f : Bool) (l : List α) : A := .sl f (l.map Enc.enc)
/-- Its row; what lies ahead of f is not written any more. -/
def RF (ty : TypeId) (l : List α) (f : Nat) : Row := if l.isEmpty then dead0 else ⟨ty, Enc.sz α, l.map Enc.enc, f, true⟩
/-- Its row, all of it read only. -/
abbrev RW (ty : TypeId) (l : List α) : Row := RF ty l l.length
theorem RF_ne {ty : TypeId} {l : List α} {f : Nat} (h : l ≠ []) : RF ty l f = ⟨ty, Enc.sz α, l.map Enc.enc, f, true⟩ := by
  unfold RF
  cases l with
  | nil => exact (h rfl).elim
  | cons x l => rfl
@[simp] theorem RF_nil (ty : TypeId) (f : Nat) : RF ty ([] : List α) f = dead0 := rfl
/-- Is this the row of the list? -/
def RowOf (o : Option Row) (ty : TypeId) (l : List α) : Prop := l = [] ∨ ∃ f, o = some ⟨ty, Enc.sz α, l.map Enc.enc, f, true⟩
@[simp] theorem RowOf_RF (ty : TypeId) (l : List α) (f : Nat) : RowOf (some (RF ty l f)) ty l = True := by
  refine eq_true ?_
  by_cases h : l = []
  · exact .inl h
  · exact .inr ⟨f, by rw [RF_ne h]⟩
@[simp] theorem RowOf_mk (ty ty' : TypeId) (sz : Nat) (es : List A) (f : Nat) (l : List α) (h1 : ty = ty') (h2 : sz = Enc.sz α) (h3 : es = l.map Enc.enc) : RowOf (some ⟨ty, sz, es, f, true⟩) ty' l = True := by
  subst h1 h2 h3
  exact eq_true (.inr ⟨f, rfl⟩)
def RowAny (o : Option Row) (l : List α) : Prop := ∃ ty, RowOf o ty l
@[simp] theorem RowAny_RF (ty : TypeId) (l : List α) (f : Nat) : RowAny (some (RF ty l f)) l = True := eq_true ⟨ty, by simp⟩
@[simp] theorem RowAny_mk (ty : TypeId) (sz : Nat) (es : List A) (f : Nat) (l : List α) (h2 : sz = Enc.sz α) (h3 : es = l.map Enc.enc) : RowAny (some ⟨ty, sz, es, f, true⟩) l = True := by
  subst h2 h3
  exact eq_true ⟨ty, .inr ⟨f, rfl⟩⟩
/-- The row of the list, or one that says more. -/
def RowLe (o : Option Row) (ty : TypeId) (l : List α) (f : Nat) : Prop := l = [] ∨ ∃ f', o = some ⟨ty, Enc.sz α, l.map Enc.enc, f', true⟩ ∧ f' ≤ f
@[simp] theorem RowLe_RF (ty : TypeId) (l : List α) (f f' : Nat) (h : f' ≤ f) : RowLe (some (RF ty l f')) ty l f = True := by
  refine eq_true ?_
  by_cases h0 : l = []
  · exact .inl h0
  · exact .inr ⟨f', by rw [RF_ne h0], h⟩
@[simp] theorem RowLe_mk (ty ty' : TypeId) (sz : Nat) (es : List A) (f f' : Nat) (l : List α) (h1 : ty = ty') (h2 : sz = Enc.sz α) (h3 : es = l.map Enc.enc) (h : f' ≤ f) : RowLe (some ⟨ty, sz, es, f', true⟩) ty' l f = True := by
  subst h1 h2 h3
  exact eq_true (.inr ⟨f', rfl, h⟩)
@[simp] theorem RowLe_nil (o : Option Row) (ty : TypeId) (f : Nat) : RowLe o ty ([] : List α) f = True := eq_true (.inl rfl)
@[simp] theorem RowOf_nil (o : Option Row) (ty : TypeId) : RowOf o ty ([] : List α) = True := eq_true (.inl rfl)
@[simp] theorem RowAny_nil (o : Option Row) : RowAny o ([] : List α) = True := eq_true ⟨0, .inl rfl⟩

@[simp] theorem Ls_nil (f : Bool) : Ls f ([] : List α) = .sl f [] := rfl
@[simp] theorem Ls_cons (f : Bool) (x : α) (l : List α) : Ls f (x :: l) = .sl f (Enc.enc x :: l.map Enc.enc) := rfl
@[simp] theorem Ls_noid (f : Bool) (l : List α) : (Ls f l).noid = true := rfl
@[simp] theorem Ls_nc (f : Bool) (l : List α) : (Ls f l).ncells = 1 := rfl
@[simp] theorem Ls_cells (f : Bool) (l : List α) : (Ls f l).cells = [Ls f l] := rfl
@[simp] theorem Ls_scal (f : Bool) (l : List α) : scal (Ls f l) = false := rfl
@[simp] theorem Ls_shp {P : Program} {t : TypeId} (f : Bool) (l : List α) : shp P t (Ls f l) = (!aggT P t && P.cellsOf t == 1) := rfl
@[simp] theorem wkL_enc (l : List α) : wkL (l.map Enc.enc) = l.map Enc.enc := by
  rw [wkL_map, List.map_map]
  exact List.map_congr_left fun x _ => Enc.wk x
@[simp] theorem Ls_wk (f : Bool) (l : List α) : wkA (Ls f l) = Ls false l := by
  show wkA (.sl f (l.map Enc.enc)) = .sl false (l.map Enc.enc)
  simp only [wkA, wkL_enc]
@[simp] theorem wk_map (f : Bool) (l : List α) : wkA (.sl f (l.map Enc.enc)) = Ls false l := Ls_wk f l
@[simp] theorem sl_eq_Ls (f g : Bool) (es : List A) (l : List α) : (A.sl f es = Ls g l) = (f = g ∧ es = l.map Enc.enc) := by
  unfold Ls; simp
@[simp] theorem Ls_eq_sl (f g : Bool) (es : List A) (l : List α) : (Ls g l = A.sl f es) = (g = f ∧ l.map Enc.enc = es) := by
  unfold Ls; simp
@[simp] theorem Ls_inj (f g : Bool) (l m : List α) (hi : Function.Injective (Enc.enc : α → A)) : (Ls f l = Ls g m) = (f = g ∧ l = m) := by
  apply propext
  constructor
  · intro h
    simp only [Ls, A.sl.injEq] at h
    exact ⟨h.1, List.map_inj_right (fun _ _ h => hi h) |>.1 h.2⟩
  · rintro ⟨rfl, rfl⟩; rfl

@[simp] theorem noidL_enc (l : List α) : noidL (l.map Enc.enc) = true := noidL_map _ Enc.noid l

@[simp high] theorem alen_Ls {P : Program} {t : TypeId} (f : Bool) (l : List α) (h : isSliceT P t = true) : alen P t (Ls f l) = some (.int .i64 l.length) := by
  unfold alen Ls
  rw [selem_eq h]
  simp
@[simp high] theorem aidx_Ls {P : Program} {H : List Row} {t : TypeId} (f : Bool) (l : List α) (k : IntKind) (n : Int) (h : isSliceT P t = true) (hc : P.cellsOf (selem P t) = Enc.sz α) :
    aidx P H t (Ls f l) (.int k n) = if 0 ≤ n then (l[n.toNat]?).map fun x => .ptr (Enc.enc x) else none := by
  unfold aidx Ls
  rw [selem_eq h]
  simp only [hc, List.length_map, List.getElem?_map]
  by_cases h0 : 0 ≤ n
  · rw [if_pos h0]
    cases hx : l[n.toNat]? with
    | none => simp
    | some x =>
      have hlt := (List.getElem?_eq_some_iff.1 hx).1
      have h1 : n < l.length := by omega
      rw [if_pos ⟨h0, h1, Enc.pos⟩]
      simp only [Option.map_some, Option.bind_some]
      rw [if_pos (Enc.nc x)]
  · rw [if_neg h0, if_neg (fun h => h0 h.1)]

/-- Is this a row of so many elements? -/
def RowN (o : Option Row) (ty : TypeId) (n sz : Nat) : Prop := n = 0 ∨ ∃ es f, o = some ⟨ty, sz, es, f, true⟩ ∧ es.length = n
@[simp] theorem RowN_RF (ty : TypeId) (l : List α) (f n sz : Nat) (h1 : sz = Enc.sz α) (h2 : l.length = n) : RowN (some (RF ty l f)) ty n sz = True := by
  subst h1 h2
  refine eq_true ?_
  by_cases h : l = []
  · exact .inl (by simp [h])
  · exact .inr ⟨_, f, by rw [RF_ne h], by simp⟩
@[simp] theorem RowN_mk (ty ty' : TypeId) (sz sz' : Nat) (es : List A) (f n : Nat) (h1 : ty = ty') (h2 : sz = sz') (h3 : es.length = n) : RowN (some ⟨ty, sz, es, f, true⟩) ty' n sz' = True := by
  subst h1 h2
  exact eq_true (.inr ⟨es, f, rfl, h3⟩)
@[simp] theorem RowN_zero (o : Option Row) (ty : TypeId) (sz : Nat) : RowN o ty 0 sz = True := eq_true (.inl rfl)
@[simp high] theorem aidx_B {P : Program} {H : List Row} {t : TypeId} (id : Nat) (l : List α) (k : IntKind) (n : Int) (h : isSliceT P t = true) (hr : RowN H[id]? (selem P t) l.length (Enc.sz α)) :
    aidx P H t (B id l) (.int k n) = if 0 ≤ n ∧ n < l.length then some (.pto id (Enc.sz α) n.toNat 0) else none := by
  unfold aidx B
  rw [selem_eq h]
  by_cases hn : 0 ≤ n ∧ n < l.length
  · rcases hr with hr | ⟨es, f, hr, he⟩
    · omega
    · simp [hr, hn]
  · rw [if_neg hn]
    cases hq : H[id]? with
    | none => simp only [hq, Option.bind_none]
    | some r =>
      simp only [hq, Option.bind_some]
      rw [if_neg (fun h => hn ⟨h.2.2.1, h.2.2.2⟩)]

@[simp high] theorem asrc_Ls {P : Program} {H : List Row} {e : TypeId} (f : Bool) (l : List α) (hs : ∀ x : α, shp P e (Enc.enc x) = true) : asrc P H e (Ls f l) = some (l.map Enc.enc) := by
  unfold asrc Ls
  simp only
  rw [if_pos]
  rw [List.all_eq_true]
  intro x hx
  obtain ⟨y, _, rfl⟩ := List.mem_map.1 hx
  exact hs y

@[simp high] theorem asrc_B {P : Program} {H : List Row} {e : TypeId} (id : Nat) (l : List α) (hr : RowOf H[id]? e l) : asrc P H e (B id l) = some (l.map Enc.enc) := by
  unfold asrc B
  rcases hr with rfl | ⟨f, hr⟩
  · rfl
  · cases l with
    | nil => rfl
    | cons x l =>
      simp only [hr, Option.bind_some]
      simp [List.take_of_length_le]

@[simp high] theorem agrow_Ls {P : Program} {H : List Row} {e : TypeId} (f : Bool) (l : List α) (olds news : List A) : agrow P H e (Ls f l) olds news =
    if news.length = 0 then some (Ls f l, H) else if f then some (.own H.length 0 (olds.length + news.length) (olds.length + news.length) false, H ++ [⟨e, P.cellsOf e, olds ++ news, 0, true⟩]) else none := rfl

theorem agrow_BF {P : Program} {H : List Row} {e : TypeId} (id : Nat) (l : List α) (f : Nat) (news : List A) (hr : H[id]? = some (RF e l f)) (hf : f ≤ l.length) : agrow P H e (B id l) (l.map Enc.enc) news =
    if news.length = 0 then some (B id l, H) else some (.own H.length 0 (l.length + news.length) (l.length + news.length) false, H.set id dead0 ++ [⟨e, P.cellsOf e, l.map Enc.enc ++ news, f, true⟩]) := by
  unfold agrow B
  by_cases h0 : news.length = 0
  · simp only [h0, if_true]
  · simp only [h0, if_false, List.length_map]
    cases l with
    | nil => simp at hf; subst hf; simp
    | cons x l =>
      have hn : ¬ (news.length = 0) := h0
      rw [RF_ne (by simp)] at hr
      simp only [hr, Option.bind_some]
      have : ¬ (l.length + 1 + news.length ≤ l.length + 1) := by omega
      simp [this]
      simpa using hf
@[simp high] theorem agrow_B {P : Program} {H : List Row} {e : TypeId} (id : Nat) (l : List α) (news : List A) (hr : H[id]? = some (RF e l l.length)) : agrow P H e (B id l) (l.map Enc.enc) news =
    if news.length = 0 then some (B id l, H) else some (.own H.length 0 (l.length + news.length) (l.length + news.length) false, H.set id dead0 ++ [⟨e, P.cellsOf e, l.map Enc.enc ++ news, l.length, true⟩]) := agrow_BF id l _ news hr (Nat.le_refl _)
@[simp high] theorem agrow_B0 {P : Program} {H : List Row} {e : TypeId} (id : Nat) (l : List α) (news : List A) (hr : H[id]? = some (RF e l 0)) : agrow P H e (B id l) (l.map Enc.enc) news =
    if news.length = 0 then some (B id l, H) else some (.own H.length 0 (l.length + news.length) (l.length + news.length) false, H.set id dead0 ++ [⟨e, P.cellsOf e, l.map Enc.enc ++ news, 0, true⟩]) := agrow_BF id l _ news hr (Nat.zero_le _)

/-- What comes may be nothing: one form for all. -/
theorem agrowT_BF {P : Program} {H : List Row} {e : TypeId} (id : Nat) (l m : List α) (f : Nat) (hr : H[id]? = some (RF e l f)) (hf : f ≤ l.length) (hc : P.cellsOf e = Enc.sz α) : agrowT P H e (B id l) (l.map Enc.enc) (m.map Enc.enc) =
    some (B H.length (l ++ m), H.set id dead0 ++ [RF e (l ++ m) f]) := by
  unfold agrowT
  cases m with
  | nil =>
    simp only [List.map_nil, agrow_BF id l f [] hr hf, List.length_nil, if_true, Option.map_some, List.append_nil]
    cases l with
    | nil => simp [B, renum]
    | cons x l =>
      rw [RF_ne (by simp)] at hr ⊢
      simp [B, renum, hr]
  | cons y m =>
    rw [RF_ne (by simp)]
    simp only [List.map_cons]
    rw [agrow_BF id l f _ hr hf]
    simp [B, hc]
@[simp high] theorem agrowT_BL {P : Program} {H : List Row} {e : TypeId} (id : Nat) (l m : List α) (hr : H[id]? = some (RF e l l.length)) (hc : P.cellsOf e = Enc.sz α) : agrowT P H e (B id l) (l.map Enc.enc) (m.map Enc.enc) =
    some (B H.length (l ++ m), H.set id dead0 ++ [RF e (l ++ m) l.length]) := agrowT_BF id l m _ hr (Nat.le_refl _) hc
@[simp high] theorem agrowT_B0 {P : Program} {H : List Row} {e : TypeId} (id : Nat) (l m : List α) (hr : H[id]? = some (RF e l 0)) (hc : P.cellsOf e = Enc.sz α) : agrowT P H e (B id l) (l.map Enc.enc) (m.map Enc.enc) =
    some (B H.length (l ++ m), H.set id dead0 ++ [RF e (l ++ m) 0]) := agrowT_BF id l m _ hr (Nat.zero_le _) hc
@[simp high] theorem agrowT_B2 {P : Program} {H : List Row} {e : TypeId} (id : Nat) (l k m : List α) (hr : H[id]? = some (RF e (l ++ k) l.length)) (hc : P.cellsOf e = Enc.sz α) : agrowT P H e (B id (l ++ k)) ((l ++ k).map Enc.enc) (m.map Enc.enc) =
    some (B H.length (l ++ k ++ m), H.set id dead0 ++ [RF e (l ++ k ++ m) l.length]) := agrowT_BF id (l ++ k) m _ hr (by simp) hc
@[simp high] theorem agrowT_B2' {P : Program} {H : List Row} {e : TypeId} (id : Nat) (l k m : List α) (hr : H[id]? = some (RF e (l ++ k) l.length)) (hc : P.cellsOf e = Enc.sz α) : agrowT P H e (B id (l ++ k)) (l.map Enc.enc ++ k.map Enc.enc) (m.map Enc.enc) =
    some (B H.length (l ++ k ++ m), H.set id dead0 ++ [RF e (l ++ k ++ m) l.length]) := by rw [← List.map_append]; exact agrowT_B2 id l k m hr hc
@[simp high] theorem agrowT_B02 {P : Program} {H : List Row} {e : TypeId} (id : Nat) (l k m : List α) (hr : H[id]? = some (RF e (l ++ k) 0)) (hc : P.cellsOf e = Enc.sz α) : agrowT P H e (B id (l ++ k)) (l.map Enc.enc ++ k.map Enc.enc) (m.map Enc.enc) =
    some (B H.length (l ++ k ++ m), H.set id dead0 ++ [RF e (l ++ k ++ m) 0]) := by rw [← List.map_append]; exact agrowT_BF id (l ++ k) m _ hr (Nat.zero_le _) hc
@[simp high] theorem agrowT_own0 {P : Program} {H : List Row} {e : TypeId} (id : Nat) (m : List α) (hc : P.cellsOf e = Enc.sz α) : agrowT P H e (.own id 0 0 0 true) [] (m.map Enc.enc) =
    some (B H.length m, H.set id dead0 ++ [RF e m 0]) := by
  cases m with
  | nil => simp [agrowT, B, renum, RF]
  | cons y m =>
    rw [RF_ne (by simp)]
    simp [agrowT, B, hc]
@[simp high] theorem agrowT_sl0 {P : Program} {H : List Row} {e : TypeId} (m : List α) (hc : P.cellsOf e = Enc.sz α) : agrowT P H e (.sl true []) [] (m.map Enc.enc) =
    some (B H.length m, H ++ [RF e m 0]) := by
  cases m with
  | nil => simp [agrowT, B, renum, RF]
  | cons y m =>
    rw [RF_ne (by simp)]
    simp [agrowT, B, hc]
@[simp high] theorem agrowT_BLn {P : Program} {H : List Row} {e : TypeId} (id : Nat) (l : List α) (hr : H[id]? = some (RF e l l.length)) (hc : P.cellsOf e = Enc.sz α) : agrowT P H e (B id l) (l.map Enc.enc) [] =
    some (B H.length l, H.set id dead0 ++ [RF e l l.length]) := by have := agrowT_BF (P := P) id l [] _ hr (Nat.le_refl _) hc; simpa using this
@[simp high] theorem agrowT_B0n {P : Program} {H : List Row} {e : TypeId} (id : Nat) (l : List α) (hr : H[id]? = some (RF e l 0)) (hc : P.cellsOf e = Enc.sz α) : agrowT P H e (B id l) (l.map Enc.enc) [] =
    some (B H.length l, H.set id dead0 ++ [RF e l 0]) := by have := agrowT_BF (P := P) id l [] _ hr (Nat.zero_le _) hc; simpa using this
@[simp] theorem renum_sl0 (H : List Row) : renum H (.sl true []) = some (.own H.length 0 0 0 true, H ++ [dead0]) := rfl
@[simp] theorem renum_slf (H : List Row) (es : List A) : renum H (.sl false es) = none := by cases es <;> rfl
@[simp] theorem renum_slc (H : List Row) (f : Bool) (x : A) (es : List A) : renum H (.sl f (x :: es)) = none := by cases f <;> rfl
@[simp] theorem renum_own0 (H : List Row) (id : Nat) : renum H (.own id 0 0 0 true) = some (.own H.length 0 0 0 true, H.set id dead0 ++ [dead0]) := rfl
@[simp] theorem renum_own1 (H : List Row) (id off len cb : Nat) : renum H (.own id off len cb false) = if off = 0 ∧ cb = len then (H[id]?).bind fun r => if r.live = true ∧ r.es.length = len then some (.own H.length 0 len len false, H.set id dead0 ++ [r]) else none else none := by
  unfold renum
  split <;> simp_all
@[simp] theorem renum_owns (H : List Row) (id off len cb : Nat) : renum H (.own id off (len + 1) cb true) = none := by cases off <;> rfl
@[simp] theorem agrowT_nil {P : Program} {H : List Row} {e : TypeId} (s : A) (olds : List A) : agrowT P H e s olds [] = (agrow P H e s olds []).map fun y => (renum y.2 y.1).getD y := rfl
@[simp] theorem agrowT_cons {P : Program} {H : List Row} {e : TypeId} (s : A) (olds : List A) (n : A) (ns : List A) : agrowT P H e s olds (n :: ns) = agrow P H e s olds (n :: ns) := rfl
@[simp] theorem agrowT_ne {P : Program} {H : List Row} {e : TypeId} (s : A) (olds : List A) (ns : List A) (h : ns ≠ []) : agrowT P H e s olds ns = agrow P H e s olds ns := by
  cases ns with
  | nil => exact (h rfl).elim
  | cons n ns => rfl

@[simp high] theorem resA_B {P : Program} {H : List Row} (n : Nat) (id : Nat) (l : List α) (hr : RowAny H[id]? l) : resA P H (n + 1) (B id l) = some (Ls false l) := by
  obtain ⟨e, hr⟩ := hr
  unfold B
  rw [resA_own0]
  cases l with
  | nil => simp
  | cons x l =>
    rcases hr with hr | ⟨f, hr⟩
    · cases hr
    have hn : noidL ((x :: l).map Enc.enc) = true := noidL_enc (x :: l)
    rw [if_neg (by simp), hr]
    simp only [Option.bind_some]
    rw [if_pos ⟨trivial, by simp⟩, cut_all _ _ (by simp), hn]
    simp

@[simp high] theorem resA_Ls {P : Program} {H : List Row} (n : Nat) (f : Bool) (l : List α) : resA P H (n + 1) (Ls f l) = some (Ls f l) := by
  rfl

@[simp high] theorem aslice_Ls {P : Program} {t : TypeId} (f : Bool) (l : List α) (lo hi mx : Option A) (h : isSliceT P t = true) (hc : P.cellsOf (selem P t) = Enc.sz α) :
    aslice P t (Ls f l) lo hi mx = (abnd lo 0).bind fun a => (abnd hi l.length).bind fun b => (abnd mx l.length).bind fun m =>
      if a ≤ b ∧ b ≤ m ∧ m ≤ l.length ∧ (mx.isSome → hi.isSome) then some (Ls (if mx.isSome then m == b else f && b == l.length) ((l.drop a).take (b - a))) else none := by
  unfold aslice Ls
  rw [selem_eq h]
  have hp : (Enc.sz α) ≠ 0 := Enc.pos
  simp only [hc, List.length_map]
  congr 1; funext a; congr 1; funext b; congr 1; funext m
  have hall : (l.map Enc.enc).all (fun x => x.ncells == Enc.sz α) = true := by
    rw [List.all_eq_true]
    intro x hx
    obtain ⟨y, _, rfl⟩ := List.mem_map.1 hx
    exact beq_iff_eq.2 (Enc.nc y)
  simp only [hall, or_true, and_true, ne_eq, hp, not_false_eq_true, true_and]
  by_cases hc : a ≤ b ∧ b ≤ m ∧ m ≤ l.length ∧ (mx.isSome = true → hi.isSome = true)
  · rw [if_pos hc, if_pos hc]
    simp [List.map_take, List.map_drop]
  · rw [if_neg hc, if_neg hc]

@[simp high] theorem ownOK_Ls {P : Program} {H : List Row} {t : TypeId} (f : Bool) (l : List α) : ownOK P H t (Ls f l) = true := rfl

@[simp high] theorem nilB_Ls (f : Bool) (l : List α) : (Ls f l).nilB = if l.isEmpty then .ub else .bool false := by
  cases l <;> rfl
@[simp] theorem noidL_take_enc (l : List α) (n : Nat) : noidL ((l.map Enc.enc).take n) = true := noidL_take (noidL_enc l) n
@[simp] theorem noidL_drop_enc (l : List α) (n : Nat) : noidL ((l.map Enc.enc).drop n) = true := noidL_drop (noidL_enc l) n

/-- Lists in lists. -/
instance instEncList : Enc (List α) := ⟨Ls false, 1, fun _ => rfl, fun l => Ls_wk false l, fun _ => rfl, by decide⟩
@[simp] theorem enc_list (l : List α) : Enc.enc l = Ls false l := rfl
@[simp] theorem sz_list : Enc.sz (List α) = 1 := rfl

/-! At the head of a loop. -/
theorem leA_refl {ids : List Nat} : ∀ {x : A}, x.noid = true → leA ids x x := by
  intro x
  refine A.rec (motive_1 := fun x => x.noid = true → leA ids x x) (motive_2 := fun xs => noidL xs = true → leL ids xs xs) ?_ ?_ ?_ ?_ ?_ ?_ ?_ ?_ ?_ ?_ ?_ ?_ ?_ ?_ ?_ ?_ ?_ x
  all_goals (intros; simp_all [leA, leL, A.noid, noidL])

theorem leL_refl {ids : List Nat} : ∀ {xs : List A}, noidL xs = true → leL ids xs xs
  | [], _ => by simp [leL]
  | x :: xs, h => by simp [noidL] at h; simp [leL, leA_refl h.1, leL_refl h.2]

@[simp high] theorem leA_Ls {ids : List Nat} {x : A} (f : Bool) (l : List α) : leA ids x (Ls f l) = (x = Ls f l ∨ (f = false ∧ x = Ls true l)) := by
  unfold Ls
  cases x <;> simp [leA]

@[simp high] theorem hasR_Ls {n : Nat} (f : Bool) (l : List α) : hasR n (Ls f l) = True := by unfold Ls; simp [hasR]
theorem enc_any (x : α) : Enc.enc x ≠ A.any := by
  intro h
  have := Enc.nc x
  rw [h] at this
  exact Enc.pos this.symm

@[simp] theorem enc_any_iff (x : α) : (Enc.enc x = A.any) = False := eq_false (enc_any x)

@[simp] theorem isAny_enc (x : α) : isAny (Enc.enc x) = false := by
  cases h : Enc.enc x <;> first | rfl | exact (enc_any x h).elim
@[simp] theorem noany_enc (l : List α) : noany (l.map Enc.enc) = true := by
  induction l with
  | nil => rfl
  | cons x l ih => simp only [List.map_cons, noany, isAny_enc, ih]; rfl
@[simp] theorem noany_take (l : List α) (n : Nat) : noany ((l.map Enc.enc).take n) = true := by rw [← List.map_take]; exact noany_enc _
@[simp] theorem noany_drop (l : List α) (n : Nat) : noany ((l.map Enc.enc).drop n) = true := by rw [← List.map_drop]; exact noany_enc _

theorem hasRL_noid : ∀ {n : Nat} {xs : List A}, noidL xs = true → hasRL n xs := by
  intro n xs
  have one : ∀ x : A, x.noid = true → hasR n x := by
    intro x
    refine A.rec (motive_1 := fun x => x.noid = true → hasR n x) (motive_2 := fun xs => noidL xs = true → hasRL n xs) ?_ ?_ ?_ ?_ ?_ ?_ ?_ ?_ ?_ ?_ ?_ ?_ ?_ ?_ ?_ ?_ ?_ x
    all_goals (intros; simp_all [hasR, hasRL, A.noid, noidL])
  induction xs with
  | nil => intro _; simp [hasRL]
  | cons x xs ih => intro h; simp [noidL] at h; simp [hasRL, one x h.1, ih h.2]

/-- A row of a slice that grows, out of an older row. -/
@[simp high] theorem leRow_RF {ids : List Nat} {n : Nat} {H : List Row} {j : Nat} (ty : TypeId) (l : List α) (f : Nat)
    (h : RowLe H[j]? ty l f) : leRow ids n H j (RF ty l f) = True := by
  refine eq_true ?_
  rcases h with rfl | ⟨f', h1, h2⟩
  · exact .inl rfl
  · by_cases h0 : l = []
    · subst h0; exact .inl rfl
    · rw [RF_ne h0]
      exact .inr (.inl ⟨_, h1, rfl, rfl, rfl, h2, leL_refl (noidL_enc l), hasRL_noid (noidL_enc l), noany_enc l, Enc.pos⟩)
end

@[simp high] theorem frzR_RF {α : Type} [Enc α] (ty : TypeId) (l : List α) (f : Nat) : frzR (RF ty l f) = RF ty l (max f l.length) := by
  unfold RF
  cases l with
  | nil => rfl
  | cons x l => simp

attribute [simp] leL hasR hasRL leRows dead0
section
variable {ids : List Nat}
@[simp] theorem leA_any' (x : A) : leA ids x .any = True := by cases x <;> simp [leA]
@[simp] theorem leA_own' (x : A) (i off len cb : Nat) (ex : Bool) : leA ids x (.own i off len cb ex) = (x = .own (ids.getD i 0) off len cb ex ∨ (x = .sl true [] ∧ len = 0 ∧ cb = 0 ∧ ex = true)) := by cases x <;> simp [leA]
@[simp] theorem leA_pto' (x : A) (i sz j co : Nat) : leA ids x (.pto i sz j co) = (x = .pto (ids.getD i 0) sz j co) := by cases x <;> simp [leA]
@[simp] theorem leA_sl' (x : A) (f : Bool) (es : List A) : leA ids x (.sl f es) = (x = .sl f es ∨ (f = false ∧ x = .sl true es)) := by cases x <;> simp [leA]
@[simp] theorem leA_agg' (cs ds : List A) : leA ids (.agg cs) (.agg ds) = leL ids cs ds := by simp [leA]
@[simp] theorem leA_tup' (cs ds : List A) : leA ids (.tup cs) (.tup ds) = leL ids cs ds := by simp [leA]
@[simp] theorem leA_fn' (f g : FuncId) (cs ds : List A) : leA ids (.fn f cs) (.fn g ds) = (f = g ∧ leL ids cs ds) := by simp [leA]
@[simp] theorem leA_ub' : leA ids .ub .ub = True := by simp [leA]
@[simp] theorem leA_bu' (b : Bool) : leA ids (.bool b) .ub = True := by simp [leA]
@[simp] theorem leA_int' (x : A) (k : IntKind) (n : Int) : leA ids x (.int k n) = (x = .int k n) := by cases x <;> simp [leA]
@[simp] theorem leA_bool' (x : A) (b : Bool) : leA ids x (.bool b) = (x = .bool b) := by cases x <;> simp [leA]
@[simp] theorem leA_str' (x : A) (l : List UInt8) : leA ids x (.str l) = (x = .str l) := by cases x <;> simp [leA]
@[simp] theorem leA_ptr' (x d : A) : leA ids x (.ptr d) = (x = .ptr d) := by cases x <;> simp [leA]
@[simp] theorem leA_nptr' (x : A) : leA ids x .nptr = (x = .nptr) := by cases x <;> simp [leA]
@[simp] theorem leA_nfn' (x : A) : leA ids x .nfn = (x = .nfn) := by cases x <;> simp [leA]
end
section
variable {α : Type} [Enc α] {P : Program}
theorem aload_at {H : List Row} (id : Nat) (ty t : TypeId) (l : List α) (f j : Nat) (hr : H[id]? = some (RF ty l f)) (hu : hasU P t = true) (hc : P.cellsOf t = Enc.sz α) (hs : ∀ x : α, shp P t (Enc.enc x) = true) : aload P H t (.pto id (Enc.sz α) j 0) = (l[j]?).map Enc.enc := by
  unfold aload
  rw [if_pos ⟨by rw [hc]; exact Enc.pos, hu⟩]
  by_cases h0 : l = []
  · subst h0
    simp [hr, dead0]
  · rw [RF_ne h0] at hr
    simp only [hr, Option.bind_some]
    rw [if_pos ⟨trivial, trivial⟩]
    simp only [List.getElem?_map]
    cases hx : l[j]? with
    | none => simp
    | some x =>
      simp only [Option.map_some, Option.bind_some]
      rw [if_pos ⟨trivial, hs x⟩]
end
section
variable {α : Type} [Enc α] {P : Program}
@[simp high] theorem aload_RF0 (H : List Row) (ty t : TypeId) (l : List α) (f j sz : Nat) (hz : sz = Enc.sz α) (hu : hasU P t = true) (hc : P.cellsOf t = Enc.sz α) (hs : ∀ x : α, shp P t (Enc.enc x) = true) : aload P (RF ty l f :: H) t (.pto 0 sz j 0) = (l[j]?).map Enc.enc := by subst hz; exact aload_at 0 ty t l f j rfl hu hc hs
@[simp high] theorem aload_RF1 (r0 : Row) (H : List Row) (ty t : TypeId) (l : List α) (f j sz : Nat) (hz : sz = Enc.sz α) (hu : hasU P t = true) (hc : P.cellsOf t = Enc.sz α) (hs : ∀ x : α, shp P t (Enc.enc x) = true) : aload P (r0 :: RF ty l f :: H) t (.pto 1 sz j 0) = (l[j]?).map Enc.enc := by subst hz; exact aload_at 1 ty t l f j rfl hu hc hs
@[simp high] theorem aload_RF2 (r0 r1 : Row) (H : List Row) (ty t : TypeId) (l : List α) (f j sz : Nat) (hz : sz = Enc.sz α) (hu : hasU P t = true) (hc : P.cellsOf t = Enc.sz α) (hs : ∀ x : α, shp P t (Enc.enc x) = true) : aload P (r0 :: r1 :: RF ty l f :: H) t (.pto 2 sz j 0) = (l[j]?).map Enc.enc := by subst hz; exact aload_at 2 ty t l f j rfl hu hc hs
@[simp high] theorem aload_RF3 (r0 r1 r2 : Row) (H : List Row) (ty t : TypeId) (l : List α) (f j sz : Nat) (hz : sz = Enc.sz α) (hu : hasU P t = true) (hc : P.cellsOf t = Enc.sz α) (hs : ∀ x : α, shp P t (Enc.enc x) = true) : aload P (r0 :: r1 :: r2 :: RF ty l f :: H) t (.pto 3 sz j 0) = (l[j]?).map Enc.enc := by subst hz; exact aload_at 3 ty t l f j rfl hu hc hs
@[simp high] theorem aload_RF4 (r0 r1 r2 r3 : Row) (H : List Row) (ty t : TypeId) (l : List α) (f j sz : Nat) (hz : sz = Enc.sz α) (hu : hasU P t = true) (hc : P.cellsOf t = Enc.sz α) (hs : ∀ x : α, shp P t (Enc.enc x) = true) : aload P (r0 :: r1 :: r2 :: r3 :: RF ty l f :: H) t (.pto 4 sz j 0) = (l[j]?).map Enc.enc := by subst hz; exact aload_at 4 ty t l f j rfl hu hc hs
@[simp high] theorem aload_RF5 (r0 r1 r2 r3 r4 : Row) (H : List Row) (ty t : TypeId) (l : List α) (f j sz : Nat) (hz : sz = Enc.sz α) (hu : hasU P t = true) (hc : P.cellsOf t = Enc.sz α) (hs : ∀ x : α, shp P t (Enc.enc x) = true) : aload P (r0 :: r1 :: r2 :: r3 :: r4 :: RF ty l f :: H) t (.pto 5 sz j 0) = (l[j]?).map Enc.enc := by subst hz; exact aload_at 5 ty t l f j rfl hu hc hs
end
@[simp] theorem leRow_mk (ids : List Nat) (n : Nat) (H : List Row) (j : Nat) (ty : TypeId) (sz : Nat) (es : List A) (f : Nat) (l : Bool) : leRow ids n H j ⟨ty, sz, es, f, l⟩ =
    (l = false ∨ (∃ x, H[j]? = some x ∧ x.live = true ∧ x.ty = ty ∧ x.sz = sz ∧ x.f ≤ f ∧ leL ids x.es es ∧ hasRL n es ∧ noany es = true ∧ sz ≠ 0) ∨ (sz = 0 ∧ H[j]? = some ⟨ty, sz, es, f, l⟩)) := rfl
/-- A row that stays as it is. -/
@[simp high] theorem leRow_same {ids : List Nat} {n : Nat} {H : List Row} {j : Nat} (ty : TypeId) (sz : Nat) (es : List A) (f : Nat) (h : ∃ f', H[j]? = some ⟨ty, sz, es, f', true⟩ ∧ f' ≤ f) (hn : noidL es = true) (ha : noany es = true) (hz : sz ≠ 0) : leRow ids n H j ⟨ty, sz, es, f, true⟩ = True := by
  obtain ⟨f', h1, h2⟩ := h
  exact eq_true (.inr (.inl ⟨_, h1, rfl, rfl, rfl, h2, leL_refl hn, hasRL_noid hn, ha, hz⟩))

/-- A made slice, all its room in use. -/
theorem amake2_enc {α : Type} [Enc α] {P : Program} {H : List Row} {t : TypeId} (z : α) (bytes : Nat) (n : Int) (ht : isSliceT P t = true) (hz : zbox P (selem P t) = some (Enc.enc z, bytes)) (hc : P.cellsOf (selem P t) = Enc.sz α) (hs : shp P (selem P t) (Enc.enc z) = true) :
    amake2 P H t (.int .i64 n) (.int .i64 n) = if 0 ≤ n ∧ n ≤ 9223372036854775807 ∧ bytes * n ≤ 281474976710656 then some (B H.length (List.replicate n.toNat z), H ++ [RF (selem P t) (List.replicate n.toNat z) 0]) else none := by
  have hp : Enc.sz α ≠ 0 := Enc.pos
  unfold amake2
  simp only [if_true]
  unfold amake
  rw [selem_eq ht]
  simp only [hz, hc, hs, ne_eq, hp, not_false_eq_true, true_and, Int.le_refl]
  by_cases hn : 0 ≤ n ∧ n ≤ 9223372036854775807 ∧ bytes * n ≤ 281474976710656
  · rw [if_pos ⟨hn.1, hn.2.1, hn.2.2⟩, if_pos hn]
    simp only [Option.bind_some]
    by_cases h0 : n.toNat = 0
    · rw [if_pos h0, h0]
      simp [B]
    · rw [if_neg h0]
      have he : (List.replicate n.toNat z) ≠ [] := by simpa using h0
      rw [RF_ne he]
      have hb : (List.replicate n.toNat z).isEmpty = false := by rw [List.isEmpty_eq_false_iff]; exact he
      unfold B
      simp only [hb, List.length_replicate, List.map_replicate]
  · rw [if_neg hn, if_neg]
    · rfl
    · rintro ⟨h1, h2, h3⟩; exact hn ⟨h1, h2, h3⟩
@[simp] theorem amake2_int {P : Program} {H : List Row} {t : TypeId} (n : Int) (ht : isSliceT P t = true) (hz : zbox P (selem P t) = some (.int .i64 0, 8)) (hc : P.cellsOf (selem P t) = 1) (ha : aggT P (selem P t) = false) :
    amake2 P H t (.int .i64 n) (.int .i64 n) = if 0 ≤ n ∧ n ≤ 9223372036854775807 ∧ 8 * n ≤ 281474976710656 then some (B H.length (List.replicate n.toNat (0 : Int)), H ++ [RF (selem P t) (List.replicate n.toNat (0 : Int)) 0]) else none :=
  amake2_enc (α := Int) 0 8 n ht hz hc (by simp [shp, ha, hc])
end Go.AL
/- An abstract layer over the walk, 14: what came in, of whatever type. No program in sight. -/
namespace Go.AL
open Go.ChangeShapes Go.WideShapes Go.ChangeAt Go.RowKit

def packA (P : Program) (e : TypeId) (cs : List A) : A := if aggT P e then .agg cs else cs.headD .any

/-- The cells of a value of type t. -/
def WTc (P : Program) : Nat → TypeId → List A → Prop
  | 0, _, _ => False
  | n + 1, t, cs =>
    match P.underlying t with
    | some .bool => ∃ b, cs = [.bool b]
    | some (.int k) => ∃ z, cs = [.int k z] ∧ (Lit.int k z).wf = true
    | some .string => ∃ l, cs = [.str l] ∧ l.length ≤ maxLen
    | some (.slice e) => ∃ els : List (List A), cs = [.sl false (els.map (packA P e))] ∧ els.length ≤ maxLen ∧ ∀ el ∈ els, WTc P n e el
    | some (.struct fs) => cs.length = P.cellsOf t ∧ ∀ f ∈ fs.toList, WTc P n f.type ((cs.drop f.offset).take (P.cellsOf f.type))
    | some (.array m e) => cs.length = P.cellsOf t ∧ ∀ i, i < m → WTc P n e ((cs.drop (i * P.cellsOf e)).take (P.cellsOf e))
    | _ => False

/-- The fields lie one behind the other. -/
def tiled (P : Program) (S : List TypeId) : List Field → Nat → Nat → Bool
  | [], off, n => off == n
  | f :: fs, off, n => f.offset == off && S.contains f.type && tiled P S fs (off + P.cellsOf f.type) n

/-- A type that is laid out plainly, its parts' types in S. -/
def plainT (P : Program) (S : List TypeId) (t : TypeId) : Bool :=
  match P.underlying t with
  | some .bool | some (.int _) | some .string => P.cellsOf t == 1
  | some (.slice e) => P.cellsOf t == 1 && P.cellsOf e != 0 && S.contains e
  | some (.struct fs) => tiled P S fs.toList 0 (P.cellsOf t)
  | some (.array m e) => P.cellsOf t == m * P.cellsOf e && S.contains e
  | _ => false

def RepCs (P : Program) (w : World) (cs : List A) (vs : List Value) : Prop :=
  vs.length = cs.length ∧ (∀ u ∈ vs, u.oneCell' = true) ∧ ∀ (i : Nat) (c : A) (u : Value), cs[i]? = some c → vs[i]? = some u → Rep P w NoF [] c u

theorem RepCs.app {P : Program} {w : World} {cs ds : List A} {vs us : List Value} (h : RepCs P w cs vs) (k : RepCs P w ds us) : RepCs P w (cs ++ ds) (vs ++ us) := PR.app h k

theorem RepCs.pack {P : Program} {w : World} {e : TypeId} {cs : List A} {vs : List Value} (h : RepCs P w cs vs) (hn : aggT P e = false → cs.length = 1) : Rep P w NoF [] (packA P e cs) (packV P e vs) := by
  unfold packA packV
  cases hag : aggT P e with
  | true => exact .agg _ _ _ h.1 h.2.1 h.2.2
  | false =>
    have h1 := hn hag
    match cs, vs, h1, h.1 with
    | [c], [v], _, _ => exact h.2.2 0 c v rfl rfl

theorem plainT_one {P : Program} {S : List TypeId} {t : TypeId} (h : plainT P S t = true) (hn : aggT P t = false) : P.cellsOf t = 1 := by
  unfold plainT at h
  unfold aggT at hn
  cases hu : P.underlying t with
  | none => rw [hu] at h; cases h
  | some k => rw [hu] at h hn; cases k <;> simp at h hn <;> first | exact h | exact h.1.1

theorem chunk_len {vs : List Value} {off n : Nat} (h : off + n ≤ vs.length) : ((vs.drop off).take n).length = n := by simp; omega

/-- What is read as data, stands for an abstract value of its type. -/
theorem open_cells {H : Type} {enc : TypeId × Value → H} {P : Program} {w : World} {S : List TypeId} (hS : ∀ t ∈ S, plainT P S t = true) :
    ∀ (fuel : Nat) (t : TypeId) (vs : List Value) (d : DataW H) (ps : List MemPlace), t ∈ S → DataW.trod enc P w 0 (fun _ => true) true fuel t vs = some (d, ps) →
      vs.length = P.cellsOf t ∧ ∃ cs, RepCs P w cs vs ∧ WTc P fuel t cs
  | 0, _, _, _, _, _, h => by cases h
  | n + 1, t, vs, d, ps, ht, h => by
    have hp := hS t ht
    unfold DataW.trod at h
    unfold plainT at hp
    have one : ∀ {v : Value} {a : A}, v.oneCell' = true → Rep P w NoF [] a v → RepCs P w [a] [v] := by
      intro v a h1 hr
      refine ⟨rfl, by simpa using h1, ?_⟩
      intro i c u hc hu
      cases i with
      | zero => simp at hc hu; subst hc hu; exact hr
      | succ i => simp at hc
    cases hu : P.underlying t with
    | none => rw [hu] at hp; cases hp
    | some k =>
      rw [hu] at h hp
      cases k with
      | bool =>
        obtain ⟨b, rfl⟩ : ∃ b, vs = [.bool b] := by split at h <;> simp_all
        simp at hp
        exact ⟨by simp [hp], [.bool b], one rfl (.bool _ _), by simp [WTc, hu]⟩
      | int k =>
        obtain ⟨z, rfl, hw⟩ : ∃ z, vs = [.int k z] ∧ (Lit.int k z).wf = true := by
          split at h <;> simp_all
        simp at hp
        exact ⟨by simp [hp], [.int k z], one rfl (.int _ _ _), by simp [WTc, hu, hw]⟩
      | string =>
        obtain ⟨s, rfl, hl⟩ : ∃ s, vs = [.string s] ∧ s.size ≤ maxLen := by
          split at h <;> simp_all
        simp at hp
        obtain ⟨⟨l⟩⟩ := s
        exact ⟨by simp [hp], [.str l], one rfl (.str _ _), by simp only [WTc, hu]; exact ⟨l, rfl, hl⟩⟩
      | slice e =>
        simp only [Bool.and_eq_true, beq_iff_eq, bne_iff_ne, List.contains_iff_mem] at hp
        obtain ⟨⟨hp1, hp2⟩, hp3⟩ := hp
        have hcase : vs = [.slice none 0 0] ∨ ∃ a len cap, vs = [.slice (some a) len cap] := by
          split at h <;> simp_all
        rcases hcase with rfl | ⟨a, len, cap, rfl⟩
        · refine ⟨by simp [hp1], [.sl false []], one rfl (.slnil _ _ _), ?_⟩
          simp only [WTc, hu]
          exact ⟨[], by simp, by simp, by simp⟩
        · simp only at h
          split at h
          case isFalse => cases h
          rename_i hb
          obtain ⟨elems, hel, h⟩ := Option.bind_eq_some_iff.1 h
          obtain ⟨rest, hrest, h⟩ := Option.map_eq_some_iff.1 h
          refine ⟨by simp [hp1], ?_⟩
          have hat : ∀ i, ∃ q : List A × List Value, i < cap → RepCs P w q.1 q.2 ∧ q.2.length = P.cellsOf e ∧ WTc P n e q.1 ∧ ∀ j, j < P.cellsOf e → w.cell? ((a.add (i * P.cellsOf e)).add j) = q.2[j]? := by
            intro i
            by_cases hi : i < cap
            · have hy : ∃ y, (w.cells? 0 (a.add (i * P.cellsOf e)) (P.cellsOf e)).bind (DataW.trod enc P w 0 (fun _ => true) true n e) = some y := by
                by_cases hil : i < len
                · have := mapM_some_get hel i i (by simp [hil])
                  rw [List.getElem?_eq_getElem (by rw [mapM_some_length hel]; simpa using hil)] at this
                  exact ⟨_, this⟩
                · rw [if_pos trivial] at hrest
                  have := mapM_some_get hrest (i - len) (i - len) (List.getElem?_range (by omega))
                  rw [List.getElem?_eq_getElem (by rw [mapM_some_length hrest, List.length_range]; omega)] at this
                  rw [show len + (i - len) = i by omega] at this
                  exact ⟨_, this⟩
              obtain ⟨y, hy⟩ := hy
              obtain ⟨us, hus, hy⟩ := Option.bind_eq_some_iff.1 hy
              obtain ⟨_, h2, h3⟩ := World.cells?_some hus
              obtain ⟨h4, cs, h5, h6⟩ := open_cells hS n e us y.1 y.2 hp3 hy
              exact ⟨(cs, us), fun _ => ⟨h5, h4, h6, h3⟩⟩
            · exact ⟨([], []), fun h => (hi h).elim⟩
          by_cases hcap : cap = 0
          · have hl : len = 0 := by omega
            subst hl hcap
            refine ⟨[.sl false []], one rfl (.slnil _ _ _), ?_⟩
            simp only [WTc, hu]
            exact ⟨[], by simp, by simp, by simp⟩
          · obtain ⟨f, hf⟩ := Classical.axiomOfChoice hat
            have hspot : a.spot = none := by
              obtain ⟨_, h4, _, h3⟩ := hf 0 (by omega)
              have := h3 0 (by omega)
              rw [List.getElem?_eq_getElem (by omega)] at this
              simp only [Nat.zero_mul, Addr.add, if_true] at this
              unfold World.cell? at this
              split at this
              · split at this
                · cases this
                · rename_i hns; simpa using hns
              · cases this
            obtain ⟨b, off, sp⟩ := a
            simp only at hspot
            subst hspot
            have hpe := hS e hp3
            have hpk : ∀ i, i < cap → (packA P e (f i).1).ncells = P.cellsOf e ∧ (packV P e (f i).2).cells.toList = (f i).2 := by
              intro i hi
              obtain ⟨g1, g2, g3, _⟩ := hf i hi
              unfold packA packV
              cases hag : aggT P e with
              | true => simp only [if_true, A.ncells, Value.cells]; exact ⟨by rw [← g1.1, g2], trivial⟩
              | false =>
                have h1 := plainT_one hpe hag
                rw [h1] at g2
                have hcl : (f i).1.length = 1 := by rw [← g1.1, g2]
                generalize (f i).1 = cs at g1 g3 hcl
                generalize (f i).2 = us at g1 g2
                match cs, us, hcl, g2 with
                | [c], [u], _, _ =>
                  have hone := g1.2.1 u (by simp)
                  refine ⟨?_, ?_⟩
                  · simp only [Bool.false_eq_true, if_false, List.headD_cons]
                    rw [h1]
                    cases n with
                    | zero => exact g3.elim
                    | succ n =>
                      unfold WTc at g3
                      unfold aggT at hag
                      split at g3
                      · obtain ⟨_, g3⟩ := g3; cases g3; rfl
                      · obtain ⟨_, g3, _⟩ := g3; cases g3; rfl
                      · obtain ⟨_, g3, _⟩ := g3; cases g3; rfl
                      · obtain ⟨_, g3, _⟩ := g3; cases g3; rfl
                      · rename_i hh; rw [hh] at hag; cases hag
                      · rename_i hh; rw [hh] at hag; cases hag
                      · exact g3.elim
                  · simp only [Bool.false_eq_true, if_false, List.headD_cons]
                    cases u <;> simp_all [Value.cells, Value.oneCell']
            refine ⟨[.sl false (((List.range len).map fun i => (f i).1).map (packA P e))], one rfl ?_, ?_⟩
            · have hget : ∀ (i : Nat) (x : A), (((List.range len).map fun i => (f i).1).map (packA P e))[i]? = some x → i < len ∧ x = packA P e (f i).1 := by
                intro i x hx
                simp only [List.getElem?_map, List.map_map] at hx
                obtain ⟨k, hk, rfl⟩ := Option.map_eq_some_iff.1 hx
                obtain ⟨hk1, hk2⟩ := List.getElem?_eq_some_iff.1 hk
                simp at hk1 hk2
                subst hk2
                exact ⟨hk1, rfl⟩
              refine .sl _ _ _ b off len cap (P.cellsOf e) (fun i => packV P e (f i).2) (by simp) hb.2.1 hb.2.2 (by simp) ?_ ?_ ?_
              · intro i x hx
                obtain ⟨hi, rfl⟩ := hget i x hx
                exact (hpk i (by omega)).1
              · intro i x hx
                obtain ⟨hi, rfl⟩ := hget i x hx
                obtain ⟨g1, g2, _⟩ := hf i (by omega)
                exact g1.pack fun hag => by rw [← g1.1, g2, plainT_one hpe hag]
              · intro i x hx j u hju
                obtain ⟨hi, rfl⟩ := hget i x hx
                obtain ⟨g1, g2, _, g4⟩ := hf i (by omega)
                have hju' : (f i).2[j]? = some u := by rw [← (hpk i (by omega)).2]; simpa using hju
                have hj : j < P.cellsOf e := by rw [← g2]; exact (List.getElem?_eq_some_iff.1 hju').1
                refine ⟨g1.2.1 u (List.mem_of_getElem? hju'), ?_, fun hf => hf⟩
                have := g4 j hj
                rw [Addr.add_lit, Addr.add_lit] at this
                rw [this, hju']
            · simp only [WTc, hu]
              refine ⟨(List.range len).map fun i => (f i).1, rfl, by simp; omega, ?_⟩
              intro el hel
              obtain ⟨i, hi, rfl⟩ := List.mem_map.1 hel
              exact (hf i (by have := List.mem_range.1 hi; omega)).2.2.1
      | struct fs =>
        simp only at h
        split at h
        case isFalse => cases h
        rename_i hl
        obtain ⟨xs, hxs, h⟩ := Option.map_eq_some_iff.1 h
        refine ⟨hl, ?_⟩
        have le : ∀ (fs : List Field) (o m : Nat), tiled P S fs o m = true → o ≤ m := by
          intro fs
          induction fs with
          | nil => intro o m h; simp [tiled] at h; omega
          | cons g gs ih => intro o m h; simp only [tiled, Bool.and_eq_true] at h; have := ih _ _ h.2; omega
        have key : ∀ (fs : List Field) (off : Nat) (xs : List (DataW H × List MemPlace)), tiled P S fs off (P.cellsOf t) = true → fs.mapM (fun f => DataW.trod enc P w 0 (fun _ => true) true n f.type ((vs.drop f.offset).take (P.cellsOf f.type))) = some xs →
            ∃ cs, RepCs P w cs (vs.drop off) ∧ ∀ f ∈ fs, off ≤ f.offset ∧ WTc P n f.type ((cs.drop (f.offset - off)).take (P.cellsOf f.type)) := by
          intro fs
          induction fs with
          | nil =>
            intro off xs ht _
            simp [tiled] at ht
            refine ⟨[], ?_, by simp⟩
            rw [List.drop_eq_nil_of_le (by omega)]
            exact ⟨rfl, by simp, by simp⟩
          | cons g gs ih =>
            intro off xs ht hx
            simp only [tiled, Bool.and_eq_true, beq_iff_eq, List.contains_iff_mem] at ht
            obtain ⟨⟨h1, h2⟩, h3⟩ := ht
            rw [List.mapM_cons] at hx
            simp only [bind, Option.bind_eq_some_iff, pure, Option.some.injEq] at hx
            obtain ⟨y, hy, ys, hys, rfl⟩ := hx
            obtain ⟨k1, cs1, k2, k3⟩ := open_cells hS n g.type _ y.1 y.2 h2 hy
            obtain ⟨cs2, k4, k5⟩ := ih _ ys h3 hys
            rw [h1] at k1 k2
            have hcl : cs1.length = P.cellsOf g.type := by rw [← k2.1, k1]
            have hsplit : vs.drop off = (vs.drop off).take (P.cellsOf g.type) ++ vs.drop (off + P.cellsOf g.type) := by
              rw [← List.drop_drop, List.take_append_drop]
            refine ⟨cs1 ++ cs2, by rw [hsplit]; exact k2.app k4, ?_⟩
            intro f hf
            rcases List.mem_cons.1 hf with rfl | hf
            · refine ⟨by omega, ?_⟩
              rw [h1, Nat.sub_self, List.drop_zero, List.take_append_of_le_length (by omega), List.take_of_length_le (by omega)]
              exact k3
            · obtain ⟨g1, g2⟩ := k5 f hf
              refine ⟨by omega, ?_⟩
              rw [List.drop_append, List.drop_eq_nil_of_le (by omega), List.nil_append, show f.offset - off - cs1.length = f.offset - (off + P.cellsOf g.type) by omega]
              exact g2
        obtain ⟨cs, k1, k2⟩ := key fs.toList 0 xs hp hxs
        refine ⟨cs, by simpa using k1, ?_⟩
        simp only [WTc, hu]
        refine ⟨by rw [← k1.1]; simpa using hl, fun f hf => ?_⟩
        have := (k2 f hf).2
        simpa using this
      | array m e =>
        simp only [Bool.and_eq_true, beq_iff_eq, List.contains_iff_mem] at hp
        obtain ⟨hp1, hp2⟩ := hp
        simp only at h
        split at h
        case isFalse => cases h
        rename_i hl
        obtain ⟨xs, hxs, h⟩ := Option.map_eq_some_iff.1 h
        refine ⟨hl, ?_⟩
        have key : ∀ (q j : Nat), j + q = m → ∃ cs, RepCs P w cs (vs.drop (j * P.cellsOf e)) ∧ ∀ i, i < q → WTc P n e ((cs.drop (i * P.cellsOf e)).take (P.cellsOf e)) := by
          intro q
          induction q with
          | zero =>
            intro j hj
            refine ⟨[], ?_, by intro i hi; omega⟩
            have : j = m := by omega
            subst this
            rw [List.drop_eq_nil_of_le (by omega)]
            exact ⟨rfl, by simp, by simp⟩
          | succ q ih =>
            intro j hj
            have hy := mapM_some_get hxs j j (List.getElem?_range (by omega))
            rw [List.getElem?_eq_getElem (by rw [mapM_some_length hxs, List.length_range]; omega)] at hy
            obtain ⟨k1, cs1, k2, k3⟩ := open_cells hS n e _ _ _ hp2 hy
            obtain ⟨cs2, k4, k5⟩ := ih (j + 1) (by omega)
            have hcl : cs1.length = P.cellsOf e := by rw [← k2.1, k1]
            have hsplit : vs.drop (j * P.cellsOf e) = (vs.drop (j * P.cellsOf e)).take (P.cellsOf e) ++ vs.drop ((j + 1) * P.cellsOf e) := by
              rw [Nat.add_mul, Nat.one_mul, ← List.drop_drop, List.take_append_drop]
            refine ⟨cs1 ++ cs2, by rw [hsplit]; exact k2.app k4, ?_⟩
            intro i hi
            cases i with
            | zero =>
              rw [Nat.zero_mul, List.drop_zero, List.take_append_of_le_length (by omega), List.take_of_length_le (by omega)]
              exact k3
            | succ i =>
              have := k5 i (by omega)
              rw [List.drop_append, List.drop_eq_nil_of_le (by rw [Nat.add_mul]; omega), List.nil_append, show (i + 1) * P.cellsOf e - cs1.length = i * P.cellsOf e by rw [Nat.add_mul]; omega]
              exact this
        obtain ⟨cs, k1, k2⟩ := key m 0 (by omega)
        rw [Nat.zero_mul, List.drop_zero] at k1
        refine ⟨cs, k1, ?_⟩
        simp only [WTc, hu]
        exact ⟨by rw [← k1.1, hl], k2⟩
      | _ => cases hp
end Go.AL
/- An abstract layer over the walk, 15: what came in, and what a contract says of the world behind it. No program in sight. -/
namespace Go.AL
open Go.ChangeShapes Go.WideShapes Go.ChangeAt Go.RowKit

theorem okWide_pack {P : Program} {S : List TypeId} {w : World} {r : Reach} {base : Nat} {t : TypeId} {v : Value} (hp : plainT P S t = true) (h : Value.okWide P w r base t v) : v = packV P t v.cells.toList := by
  unfold plainT at hp
  cases hu : P.underlying t with
  | none => rw [hu] at hp; cases hp
  | some k =>
    rw [hu] at hp
    unfold Value.okWide at h
    rw [hu] at h
    cases k <;> simp at hp
    case struct fs =>
      obtain ⟨cs, rfl, _⟩ := h
      simp [packV, aggT, hu, Value.cells]
    case array n e =>
      obtain ⟨cs, rfl, _⟩ := h
      simp [packV, aggT, hu, Value.cells]
    all_goals (simp only [Cell.okWide, hu] at h; cases v <;> simp_all [Cell.ok, packV, aggT, Value.cells])

/-- The arguments, each of its type. -/
def WTL (P : Program) : List TypeId → List A → Prop
  | [], [] => True
  | t :: ts, a :: as => (∃ n cs, WTc P n t cs ∧ a = packA P t cs) ∧ WTL P ts as
  | _, _ => False

theorem open_all {H : Type} {enc : TypeId × Value → H} {P : Program} {w : World} {r : Reach} {base : Nat} {S : List TypeId} (hS : ∀ t ∈ S, plainT P S t = true) : ∀ {params : List TypeId} {vs : List Value} {ds : List (DataW H)} {ps : List MemPlace}, (∀ t ∈ params, t ∈ S) →
    (∀ (j : Nat) t v, params[j]? = some t → vs[j]? = some v → Value.okWide P w r base t v) → DataW.TrodAll enc P w 0 (fun _ => true) true params vs ds ps → ∃ as, RepL P w NoF [] as vs ∧ WTL P params as
  | [], [], [], _, _, _, _ => ⟨[], trivial, trivial⟩
  | t :: ts, v :: vs, d :: ds, ps, hp, hv, h => by
    obtain ⟨p, q, h1, h2, _⟩ := h
    obtain ⟨fuel, hf⟩ := h1
    obtain ⟨as, k1, k2⟩ := open_all hS (fun t ht => hp t (by simp [ht])) (fun j t v ht hv' => hv (j + 1) t v (by simpa using ht) (by simpa using hv')) h2
    have ht := hp t (by simp)
    obtain ⟨hl, cs, g1, g2⟩ := open_cells hS fuel t _ _ _ ht hf
    have hpk := okWide_pack (hS t ht) (hv 0 t v rfl rfl)
    have hr := g1.pack (e := t) fun hag => by rw [← g1.1, hl]; exact plainT_one (hS t ht) hag
    rw [← hpk] at hr
    exact ⟨_ :: as, ⟨hr, k1⟩, ⟨fuel, cs, g2, rfl⟩, k2⟩
  | [], _ :: _, _, _, _, _, h => h.elim
  | [], [], _ :: _, _, _, _, h => h.elim
  | _ :: _, [], _, _, _, _, h => h.elim
  | _ :: _, _ :: _, [], _, _, _, h => h.elim

theorem trodAll_below {H : Type} {enc : TypeId × Value → H} {P : Program} (hl : laidOutB P = true) {W W' : World} (hb : Below W.heap.size W W') : ∀ {params : List TypeId} {vs : List Value} {ds : List (DataW H)} {ps : List MemPlace},
    (∀ t ∈ params, P.readableRec t = true ∧ t < P.types.size) → DataW.TrodAll enc P W 0 (fun _ => true) true params vs ds ps → DataW.TrodAll enc P W' 0 (fun b => decide (b < W.heap.size)) true params vs ds ps
  | [], [], [], _, _, h => h
  | t :: ts, v :: vs, d :: ds, ps, hp, h => by
    obtain ⟨p, q, h1, h2, h3⟩ := h
    have ht := hp t (by simp)
    have hlt : ∀ x ∈ p, x.block < W.heap.size := by obtain ⟨m, hm⟩ := h1; exact DataW.trod_lt m _ _ _ hm
    exact ⟨p, q, Below.trod hl ht.1 ht.2 h1 hb hlt, trodAll_below hl hb (fun t ht => hp t (by simp [ht])) h2, h3⟩
  | [], _ :: _, _, _, _, h => h.elim
  | [], [], _ :: _, _, _, h => h.elim
  | _ :: _, [], _, _, _, h => h.elim
  | _ :: _, _ :: _, [], _, _, h => h.elim

theorem Adv.below {w w' : World} (h : Adv w NoF w' NoF) : Below w.heap.size w w' :=
  ⟨h.os, h.tape, h.output, h.size, fun k hk => h.block k hk fun _ hf => hf⟩

/-- A contract of a law, for the row's step. -/
theorem walk_law {P : Program} {f : FuncId} {args : List A} {vs : List Value} {w : World} (h : FCall P f args (fun r => r = .bool true)) (hl : RepL P w NoF [] args vs) :
    Calls P f ⟨vs⟩ w fun e w' => e = .returned (.bool true) ∧ Below w.heap.size w w' := by
  refine (h.2 w NoF vs (fun _ _ hf => hf.elim) hl).mono ?_
  rintro e w' ⟨v, r, rfl, rfl, h1, h2⟩
  cases h1
  exact ⟨rfl, h2.below⟩

/-! Typed values out of what came in. -/
/-- The fields' types and places. -/
def ftl (P : Program) (t : TypeId) : Option (List (TypeId × Nat)) := match P.underlying t with | some (.struct fs) => some (fs.toList.map fun f => (f.type, f.offset)) | _ => none
def intT (P : Program) (t : TypeId) : Option IntKind := match P.underlying t with | some (.int k) => some k | _ => none
def isBoolT (P : Program) (t : TypeId) : Bool := match P.underlying t with | some .bool => true | _ => false

section
variable {P : Program} {t : TypeId} {n : Nat} {cs : List A}
theorem WTc_int {k : IntKind} (hu : intT P t = some k) (h : WTc P n t cs) : ∃ z, cs = [.int k z] ∧ (Lit.int k z).wf = true := by
  cases n with
  | zero => exact h.elim
  | succ n =>
    unfold intT at hu
    unfold WTc at h
    split at hu
    · rename_i hk; rw [hk] at h; cases hu; exact h
    · cases hu
theorem WTc_bool (hu : isBoolT P t = true) (h : WTc P n t cs) : ∃ b, cs = [.bool b] := by
  cases n with
  | zero => exact h.elim
  | succ n =>
    unfold isBoolT at hu
    unfold WTc at h
    split at hu
    · rename_i hk; rw [hk] at h; exact h
    · cases hu
theorem WTc_str (hu : isStrT P t = true) (h : WTc P n t cs) : ∃ l, cs = [.str l] ∧ l.length ≤ maxLen := by
  cases n with
  | zero => exact h.elim
  | succ n => unfold WTc at h; rw [isStr_eq hu] at h; exact h
theorem WTc_struct {l : List (TypeId × Nat)} (hu : ftl P t = some l) (h : WTc P n t cs) : ∃ m, n = m + 1 ∧ cs.length = P.cellsOf t ∧ ∀ p ∈ l, WTc P m p.1 ((cs.drop p.2).take (P.cellsOf p.1)) := by
  cases n with
  | zero => exact h.elim
  | succ n =>
    unfold ftl at hu
    unfold WTc at h
    split at hu
    · rename_i fs hk
      rw [hk] at h
      cases hu
      refine ⟨n, rfl, h.1, ?_⟩
      intro p hp
      obtain ⟨f, hf, rfl⟩ := List.mem_map.1 hp
      exact h.2 f hf
    · cases hu
/-- A slice. -/
theorem WTc_slice {α : Type} [Enc α] {Q : α → Prop} (hs : isSliceT P t = true) (hd : ∀ m cs, m < n → WTc P m (selem P t) cs → ∃ x : α, packA P (selem P t) cs = Enc.enc x ∧ Q x) (h : WTc P n t cs) :
    ∃ l : List α, cs = [Ls false l] ∧ l.length ≤ 9223372036854775807 ∧ ∀ x ∈ l, Q x := by
  cases n with
  | zero => exact h.elim
  | succ n =>
    unfold WTc at h
    rw [selem_eq hs] at h
    obtain ⟨els, rfl, h1, h2⟩ := h
    have key : ∀ els : List (List A), (∀ el ∈ els, WTc P n (selem P t) el) → ∃ l : List α, els.map (packA P (selem P t)) = l.map Enc.enc ∧ ∀ x ∈ l, Q x := by
      intro els
      induction els with
      | nil => intro _; exact ⟨[], rfl, by simp⟩
      | cons e els ih =>
        intro he
        obtain ⟨x, hx, hq⟩ := hd n e (Nat.lt_succ_self n) (he e (by simp))
        obtain ⟨l, hl, hql⟩ := ih fun el hel => he el (by simp [hel])
        exact ⟨x :: l, by simp [hx, hl], by intro y hy; rcases List.mem_cons.1 hy with rfl | hy; exact hq; exact hql y hy⟩
    obtain ⟨l, hl, hq⟩ := key els h2
    have hlen : l.length = els.length := by have := congrArg List.length hl; simpa using this.symm
    exact ⟨l, by rw [hl]; rfl, by rw [hlen, ← maxLen_eq]; exact h1, hq⟩
theorem pack_one {a : A} (h : aggT P t = false) : packA P t [a] = a := by simp [packA, h]
theorem pack_agg (h : aggT P t = true) : packA P t cs = .agg cs := by simp [packA, h]
end
end Go.AL
/- An abstract layer over the walk, 18: the equations by which `simp` walks a region with a drawn order, loads and calls. No program in sight. -/
namespace Go.AL
/-! The equations by which `simp` walks such a region. -/
section
variable {P : Program} {X : Ctx}
@[congr] theorem vcN_congr {ops : Array Oper} {Q : AX → S → Prop} {l : List Oper} {s s' : S} (e : s = s') : vcN P ops Q l s = vcN P ops Q l s' := by rw [e]
@[congr] theorem stepN_congr {o : Oper} {K : S → Prop} {s s' : S} (e : s = s') : stepN P o K s = stepN P o K s' := by rw [e]
@[congr] theorem callN_congr {f f' : A} {as as' : List A} {d : Option Tmp} {K : S → Prop} {s s' : S} (e1 : f = f') (e2 : as = as') (e3 : s = s') : callN P f as d K s = callN P f' as' d K s' := by rw [e1, e2, e3]
@[simp] theorem vcN_nil (ops : Array Oper) (Q : AX → S → Prop) (s : S) : vcN P ops Q [] s = Q .normal s := by rw [vcN]
@[simp] theorem vcN_plain (ops : Array Oper) (Q : AX → S → Prop) (s : S) (d : Option Tmp) (op : Op) (ty : TypeId) (pos : String) (aft : Array Edge) (rest : List Oper) : vcN P ops Q (⟨d, op, ty, pos, aft, none⟩ :: rest) s = stepN P ⟨d, op, ty, pos, aft, none⟩ (vcN P ops Q rest) s := by rw [vcN]
@[simp] theorem vcN_guard (ops : Array Oper) (Q : AX → S → Prop) (s : S) (d : Option Tmp) (op : Op) (ty : TypeId) (pos : String) (aft : Array Edge) (j : Nat) (want : Bool) (rest : List Oper) : vcN P ops Q (⟨d, op, ty, pos, aft, some (j, want)⟩ :: rest) s = gK (gval ops s.t j) ((ops[j]?).bind (·.dst)) want d (stepN P ⟨d, op, ty, pos, aft, some (j, want)⟩ (vcN P ops Q rest)) (vcN P ops Q rest) s := by rw [gK_eq, vcN]
@[simp] theorem callN_fn (fid : FuncId) (caps args : List A) (d : Option Tmp) (K : S → Prop) (s : S) : callN P (.fn fid caps) args d K s = (∃ args' r, argsK P s.h (args ++ caps) = some args' ∧ FCall P fid args' (fun x => x = r) ∧ (scal r || noidL (args ++ caps)) = true ∧ K ⟨put s.t d r, s.h⟩) := by rw [callN]
end
section
@[simp] theorem stepN_move (P : Program) (d : Option Tmp) (x : Operand) (ty : TypeId) (pos : String) (aft : Array Edge) (g : Option (Nat × Bool)) (K : S → Prop) (t0 : List A) (H0 : List Row) : stepN P ⟨d, .move x, ty, pos, aft, g⟩ K ⟨t0, H0⟩ = obind (aop P H0 (ev t0) (.move x)) (finK d K t0) := by simp [stepN, quietOp, pureOp, allocOp]
@[simp] theorem stepN_assign (P : Program) (d : Option Tmp) (x : Operand) (ty : TypeId) (pos : String) (aft : Array Edge) (g : Option (Nat × Bool)) (K : S → Prop) (t0 : List A) (H0 : List Row) : stepN P ⟨d, .assign x, ty, pos, aft, g⟩ K ⟨t0, H0⟩ = obind (aop P H0 (ev t0) (.assign x)) (finK d K t0) := by simp [stepN, quietOp, pureOp, allocOp]
@[simp] theorem stepN_pick (P : Program) (d : Option Tmp) (c a b : Operand) (ty : TypeId) (pos : String) (aft : Array Edge) (g : Option (Nat × Bool)) (K : S → Prop) (t0 : List A) (H0 : List Row) : stepN P ⟨d, .pick c a b, ty, pos, aft, g⟩ K ⟨t0, H0⟩ = obind (aop P H0 (ev t0) (.pick c a b)) (finK d K t0) := by simp [stepN, quietOp, pureOp, allocOp]
@[simp] theorem stepN_binOp (P : Program) (d : Option Tmp) (b : BinOp) (t : TypeId) (x y : Operand) (u : TypeId) (ty : TypeId) (pos : String) (aft : Array Edge) (g : Option (Nat × Bool)) (K : S → Prop) (t0 : List A) (H0 : List Row) : stepN P ⟨d, .binOp b t x y u, ty, pos, aft, g⟩ K ⟨t0, H0⟩ = obind (aop P H0 (ev t0) (.binOp b t x y u)) (finK d K t0) := by simp [stepN, quietOp, pureOp, allocOp]
@[simp] theorem stepN_unOp (P : Program) (d : Option Tmp) (b : UnOp) (t : TypeId) (x : Operand) (ty : TypeId) (pos : String) (aft : Array Edge) (g : Option (Nat × Bool)) (K : S → Prop) (t0 : List A) (H0 : List Row) : stepN P ⟨d, .unOp b t x, ty, pos, aft, g⟩ K ⟨t0, H0⟩ = obind (aop P H0 (ev t0) (.unOp b t x)) (finK d K t0) := by simp [stepN, quietOp, pureOp, allocOp]
@[simp] theorem stepN_convert (P : Program) (d : Option Tmp) (a b : TypeId) (x : Operand) (ty : TypeId) (pos : String) (aft : Array Edge) (g : Option (Nat × Bool)) (K : S → Prop) (t0 : List A) (H0 : List Row) : stepN P ⟨d, .convert a b x, ty, pos, aft, g⟩ K ⟨t0, H0⟩ = obind (aop P H0 (ev t0) (.convert a b x)) (finK d K t0) := by simp [stepN, quietOp, pureOp, allocOp]
@[simp] theorem stepN_indexAddr (P : Program) (d : Option Tmp) (t : TypeId) (x i : Operand) (ty : TypeId) (pos : String) (aft : Array Edge) (g : Option (Nat × Bool)) (K : S → Prop) (t0 : List A) (H0 : List Row) : stepN P ⟨d, .indexAddr t x i, ty, pos, aft, g⟩ K ⟨t0, H0⟩ = obind (aop P H0 (ev t0) (.indexAddr t x i)) (finK d K t0) := by simp [stepN, quietOp, pureOp, allocOp]
@[simp] theorem stepN_index (P : Program) (d : Option Tmp) (t : TypeId) (x i : Operand) (ty : TypeId) (pos : String) (aft : Array Edge) (g : Option (Nat × Bool)) (K : S → Prop) (t0 : List A) (H0 : List Row) : stepN P ⟨d, .index t x i, ty, pos, aft, g⟩ K ⟨t0, H0⟩ = obind (aop P H0 (ev t0) (.index t x i)) (finK d K t0) := by simp [stepN, quietOp, pureOp, allocOp]
@[simp] theorem stepN_load (P : Program) (d : Option Tmp) (t : TypeId) (x : Operand) (ty : TypeId) (pos : String) (aft : Array Edge) (g : Option (Nat × Bool)) (K : S → Prop) (t0 : List A) (H0 : List Row) : stepN P ⟨d, .load t x, ty, pos, aft, g⟩ K ⟨t0, H0⟩ = obind (aop P H0 (ev t0) (.load t x)) (finK d K t0) := by simp [stepN, quietOp, pureOp, allocOp]
@[simp] theorem stepN_fieldAddr (P : Program) (d : Option Tmp) (t : TypeId) (x : Operand) (f : Nat) (ty : TypeId) (pos : String) (aft : Array Edge) (g : Option (Nat × Bool)) (K : S → Prop) (t0 : List A) (H0 : List Row) : stepN P ⟨d, .fieldAddr t x f, ty, pos, aft, g⟩ K ⟨t0, H0⟩ = obind (aop P H0 (ev t0) (.fieldAddr t x f)) (finK d K t0) := by simp [stepN, quietOp, pureOp, allocOp]
@[simp] theorem stepN_field (P : Program) (d : Option Tmp) (t : TypeId) (x : Operand) (f : Nat) (ty : TypeId) (pos : String) (aft : Array Edge) (g : Option (Nat × Bool)) (K : S → Prop) (t0 : List A) (H0 : List Row) : stepN P ⟨d, .field t x f, ty, pos, aft, g⟩ K ⟨t0, H0⟩ = obind (aop P H0 (ev t0) (.field t x f)) (finK d K t0) := by simp [stepN, quietOp, pureOp, allocOp]
@[simp] theorem stepN_extract (P : Program) (d : Option Tmp) (x : Operand) (i : Nat) (ty : TypeId) (pos : String) (aft : Array Edge) (g : Option (Nat × Bool)) (K : S → Prop) (t0 : List A) (H0 : List Row) : stepN P ⟨d, .extract x i, ty, pos, aft, g⟩ K ⟨t0, H0⟩ = obind (aop P H0 (ev t0) (.extract x i)) (finK d K t0) := by simp [stepN, quietOp, pureOp, allocOp]
@[simp] theorem stepN_slice (P : Program) (d : Option Tmp) (t : TypeId) (x : Operand) (lo hi mx : Option Operand) (ty : TypeId) (pos : String) (aft : Array Edge) (g : Option (Nat × Bool)) (K : S → Prop) (t0 : List A) (H0 : List Row) : stepN P ⟨d, .slice t x lo hi mx, ty, pos, aft, g⟩ K ⟨t0, H0⟩ = obind (aop P H0 (ev t0) (.slice t x lo hi mx)) (finK d K t0) := by simp [stepN, quietOp, pureOp, allocOp]
@[simp] theorem stepN_nilCheck (P : Program) (d : Option Tmp) (x : Operand) (ty : TypeId) (pos : String) (aft : Array Edge) (g : Option (Nat × Bool)) (K : S → Prop) (t0 : List A) (H0 : List Row) : stepN P ⟨d, .nilCheck x, ty, pos, aft, g⟩ K ⟨t0, H0⟩ = obind (aop P H0 (ev t0) (.nilCheck x)) (finK d K t0) := by simp [stepN, quietOp, pureOp, allocOp]
@[simp] theorem stepN_build (P : Program) (d : Option Tmp) (t : TypeId) (ps : Array (Nat × Operand)) (ty : TypeId) (pos : String) (aft : Array Edge) (g : Option (Nat × Bool)) (K : S → Prop) (t0 : List A) (H0 : List Row) : stepN P ⟨d, .build t ps, ty, pos, aft, g⟩ K ⟨t0, H0⟩ = obind (aop P H0 (ev t0) (.build t ps)) (finK d K t0) := by simp [stepN, quietOp, pureOp, allocOp]
@[simp] theorem stepN_buildSlice (P : Program) (d : Option Tmp) (t : TypeId) (n : Nat) (ps : Array (Nat × Operand)) (ty : TypeId) (pos : String) (aft : Array Edge) (g : Option (Nat × Bool)) (K : S → Prop) (t0 : List A) (H0 : List Row) : stepN P ⟨d, .buildSlice t n ps, ty, pos, aft, g⟩ K ⟨t0, H0⟩ = obind (aop P H0 (ev t0) (.buildSlice t n ps)) (finK d K t0) := by simp [stepN, quietOp, pureOp, allocOp]
@[simp] theorem stepN_box (P : Program) (d : Option Tmp) (t : TypeId) (x : Operand) (ty : TypeId) (pos : String) (aft : Array Edge) (g : Option (Nat × Bool)) (K : S → Prop) (t0 : List A) (H0 : List Row) : stepN P ⟨d, .box t x, ty, pos, aft, g⟩ K ⟨t0, H0⟩ = obind (aop P H0 (ev t0) (.box t x)) (finK d K t0) := by simp [stepN, quietOp, pureOp, allocOp]
@[simp] theorem stepN_alloc (P : Program) (d : Option Tmp) (t : TypeId) (ty : TypeId) (pos : String) (aft : Array Edge) (g : Option (Nat × Bool)) (K : S → Prop) (t0 : List A) (H0 : List Row) : stepN P ⟨d, .alloc t, ty, pos, aft, g⟩ K ⟨t0, H0⟩ = obind (aop P H0 (ev t0) (.alloc t)) (finK d K t0) := by simp [stepN, quietOp, pureOp, allocOp]
@[simp] theorem stepN_makeSlice (P : Program) (d : Option Tmp) (t : TypeId) (l c : Operand) (ty : TypeId) (pos : String) (aft : Array Edge) (g : Option (Nat × Bool)) (K : S → Prop) (t0 : List A) (H0 : List Row) : stepN P ⟨d, .makeSlice t l c, ty, pos, aft, g⟩ K ⟨t0, H0⟩ = obind (aop P H0 (ev t0) (.makeSlice t l c)) (finK d K t0) := by simp [stepN, quietOp, pureOp, allocOp]
@[simp] theorem stepN_makeMap (P : Program) (d : Option Tmp) (t : TypeId) (r : Option Operand) (ty : TypeId) (pos : String) (aft : Array Edge) (g : Option (Nat × Bool)) (K : S → Prop) (t0 : List A) (H0 : List Row) : stepN P ⟨d, .makeMap t r, ty, pos, aft, g⟩ K ⟨t0, H0⟩ = obind (aop P H0 (ev t0) (.makeMap t r)) (finK d K t0) := by simp [stepN, quietOp, pureOp, allocOp]
@[simp] theorem stepN_lookup (P : Program) (d : Option Tmp) (t : TypeId) (x k : Operand) (ok : Bool) (ty : TypeId) (pos : String) (aft : Array Edge) (g : Option (Nat × Bool)) (K : S → Prop) (t0 : List A) (H0 : List Row) : stepN P ⟨d, .lookup t x k ok, ty, pos, aft, g⟩ K ⟨t0, H0⟩ = obind (aop P H0 (ev t0) (.lookup t x k ok)) (finK d K t0) := by simp [stepN, quietOp, pureOp, allocOp]
@[simp] theorem stepN_makeFunc (P : Program) (d : Option Tmp) (fn : Fn) (a c : Array Operand) (ty : TypeId) (pos : String) (aft : Array Edge) (g : Option (Nat × Bool)) (K : S → Prop) (t0 : List A) (H0 : List Row) : stepN P ⟨d, .makeFunc fn a c, ty, pos, aft, g⟩ K ⟨t0, H0⟩ = obind (aop P H0 (ev t0) (.makeFunc fn a c)) (finK d K t0) := by simp [stepN, quietOp, pureOp, allocOp]
@[simp] theorem stepN_call (P : Program) (d : Option Tmp) (f : Operand) (as : Array Operand) (ts : Array TypeId) (ty : TypeId) (pos : String) (aft : Array Edge) (g : Option (Nat × Bool)) (K : S → Prop) (t0 : List A) (H0 : List Row) : stepN P ⟨d, .call ⟨.value f, as, ts⟩, ty, pos, aft, g⟩ K ⟨t0, H0⟩ = callN P (ev t0 f) (as.toList.map (ev t0)) d K ⟨t0, H0⟩ := by rw [stepN]
@[simp] theorem stepN_b_len (P : Program) (d : Option Tmp) (as : Array Operand) (ts : Array TypeId) (ty : TypeId) (pos : String) (aft : Array Edge) (g : Option (Nat × Bool)) (K : S → Prop) (t0 : List A) (H0 : List Row) : stepN P ⟨d, .call ⟨.builtin .len, as, ts⟩, ty, pos, aft, g⟩ K ⟨t0, H0⟩ = obind (abuiltin P H0 .len ts (as.toList.map (ev t0))) (finK d K t0) := by
  simp [stepN, quietOp, pureOp, allocOp, aop]
@[simp] theorem stepN_b_max (P : Program) (d : Option Tmp) (as : Array Operand) (ts : Array TypeId) (ty : TypeId) (pos : String) (aft : Array Edge) (g : Option (Nat × Bool)) (K : S → Prop) (t0 : List A) (H0 : List Row) : stepN P ⟨d, .call ⟨.builtin .max, as, ts⟩, ty, pos, aft, g⟩ K ⟨t0, H0⟩ = obind (abuiltin P H0 .max ts (as.toList.map (ev t0))) (finK d K t0) := by
  simp [stepN, quietOp, pureOp, allocOp, aop]
@[simp] theorem stepN_b_min (P : Program) (d : Option Tmp) (as : Array Operand) (ts : Array TypeId) (ty : TypeId) (pos : String) (aft : Array Edge) (g : Option (Nat × Bool)) (K : S → Prop) (t0 : List A) (H0 : List Row) : stepN P ⟨d, .call ⟨.builtin .min, as, ts⟩, ty, pos, aft, g⟩ K ⟨t0, H0⟩ = obind (abuiltin P H0 .min ts (as.toList.map (ev t0))) (finK d K t0) := by
  simp [stepN, quietOp, pureOp, allocOp, aop]
end
end Go.AL
