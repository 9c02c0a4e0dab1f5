/- An abstract layer over the walk, 13: what simp is to unfold. No program in sight. -/
import Derived.Test.YtnahhdbheeinfaaAlCall
namespace Go.AL
/-! What simp is to look into, and what not: a continuation waits till its state is there. -/
section
variable {P : Program} {X : Ctx}
@[congr] theorem vc_congr {c : Code} {Q : AX → S → Prop} {s s' : S} (e : s = s') : vc P X c Q s = vc P X c Q s' := by rw [e]
@[congr] theorem awp_congr {c : Code} {Q : AX → S → Prop} {s s' : S} (e : s = s') : awp P X c Q s = awp P X c Q s' := by rw [e]
@[congr] theorem vcOps_congr {ops : Array Oper} {Q : AX → S → Prop} {l : List Oper} {s s' : S} (e : s = s') : vcOps P ops Q l s = vcOps P ops Q l s' := by rw [e]
@[congr] theorem vcQ_congr {ops : Array Oper} {Q : S → Prop} {l : List Oper} {s s' : S} (e : s = s') : vcQ P ops Q l s = vcQ P ops Q l s' := by rw [e]
@[congr] theorem stepK_congr {o : Oper} {K : S → Prop} {s s' : S} (e : s = s') : stepK P o K s = stepK P o K s' := by rw [e]
@[congr] theorem stepQ_congr {o : Oper} {K : S → Prop} {s s' : S} (e : s = s') : stepQ P o K s = stepQ P o K s' := by rw [e]
@[congr] theorem obind_congr {α : Type} {x x' : Option α} {K : α → Prop} (e : x = x') : obind x K = obind x' K := by rw [e]
@[congr] theorem finK_congr {d : Option Tmp} {K : S → Prop} {t t' : List A} {y y' : A × List Row} (e1 : t = t') (e2 : y = y') : finK d K t y = finK d K t' y' := by rw [e1, e2]
@[congr] theorem aftK_congr {d : Option Tmp} {K : S → Prop} {t t' : List A} {r r' : A} {H H' : List Row} (e1 : t = t') (e2 : r = r') (e3 : H = H') : aftK d K t r H = aftK d K t' r' H' := by rw [e1, e2, e3]
@[congr] theorem thenK_congr {f : S → Prop} {Q : AX → S → Prop} {x x' : AX} {s s' : S} (e1 : x = x') (e2 : s = s') : thenK f Q x s = thenK f Q x' s' := by rw [e1, e2]
@[congr] theorem blockK_congr {id : Nat} {Q : AX → S → Prop} {x x' : AX} {s s' : S} (e1 : x = x') (e2 : s = s') : blockK id Q x s = blockK id Q x' s' := by rw [e1, e2]
@[congr] theorem condK_congr {c c' : A} {p q : Prop} (e : c = c') : condK c p q = condK c' p q := by rw [e]
@[congr] theorem callK_congr {f f' : A} {as as' : List A} {d : Option Tmp} {K : S → Prop} {s s' : S} (e1 : f = f') (e2 : as = as') (e3 : s = s') : callK P f as d K s = callK P f' as' d K s' := by rw [e1, e2, e3]
@[congr] theorem callQ_congr {f f' : A} {as as' : List A} {d : Option Tmp} {K : S → Prop} {s s' : S} (e1 : f = f') (e2 : as = as') (e3 : s = s') : callQ P f as d K s = callQ P f' as' d K s' := by rw [e1, e2, e3]
@[congr] theorem XCall_congr {f : FuncId} {as as' : List A} {H H' : List Row} {K : A → List Row → Prop} (e1 : as = as') (e2 : H = H') : XCall P f as H K = XCall P f as' H' K := by rw [e1, e2]
end

/-- A guard: what it reads is put down, so that the next one with the same guard needs no second split. -/
def gK (g : A) (i : Option Tmp) (want : Bool) (d : Option Tmp) (p q : S → Prop) (s : S) : Prop :=
  match g with
  | .bool b => (b = want → p ⟨AL.put s.t i (.bool want), s.h⟩) ∧ (b = !want → q ⟨AL.put (AL.put s.t i (.bool (!want))) d (.tup []), s.h⟩)
  | .tup [] => q ⟨AL.put s.t d (.tup []), s.h⟩
  | _ => False

@[congr] theorem gK_congr {g g' : A} {i : Option Tmp} {want : Bool} {d : Option Tmp} {p q : S → Prop} {s s' : S} (e1 : g = g') (e2 : s = s') : gK g i want d p q s = gK g' i want d p q s' := by rw [e1, e2]
@[simp] theorem gK_und (i : Option Tmp) (want : Bool) (d : Option Tmp) (p q : S → Prop) (s : S) : gK (.tup []) i want d p q s = q ⟨AL.put s.t d (.tup []), s.h⟩ := rfl
@[simp] theorem gK_tt (i : Option Tmp) (d : Option Tmp) (p q : S → Prop) (s : S) : gK (.bool true) i true d p q s = p ⟨AL.put s.t i (.bool true), s.h⟩ := by simp [gK]
@[simp] theorem gK_ff (i : Option Tmp) (d : Option Tmp) (p q : S → Prop) (s : S) : gK (.bool false) i false d p q s = p ⟨AL.put s.t i (.bool false), s.h⟩ := by simp [gK]
@[simp] theorem gK_tf (i : Option Tmp) (d : Option Tmp) (p q : S → Prop) (s : S) : gK (.bool true) i false d p q s = q ⟨AL.put (AL.put s.t i (.bool true)) d (.tup []), s.h⟩ := by simp [gK]
@[simp] theorem gK_ft (i : Option Tmp) (d : Option Tmp) (p q : S → Prop) (s : S) : gK (.bool false) i true d p q s = q ⟨AL.put (AL.put s.t i (.bool false)) d (.tup []), s.h⟩ := by simp [gK]
@[simp low] theorem gK_bool (b : Bool) (i : Option Tmp) (want : Bool) (d : Option Tmp) (p q : S → Prop) (s : S) : gK (.bool b) i want d p q s = ((b = want → p ⟨AL.put s.t i (.bool want), s.h⟩) ∧ (b = !want → q ⟨AL.put (AL.put s.t i (.bool (!want))) d (.tup []), s.h⟩)) := by rw [gK]

theorem put_same {t : List A} {d : Nat} {b : Bool} (h : t.getD d .any = .bool b) : AL.put t (some d) (.bool b) = t := by
  show t.set d (.bool b) = t
  by_cases hd : d < t.length
  · rw [List.getD_eq_getElem?_getD, List.getElem?_eq_getElem hd] at h
    simp only [Option.getD_some] at h
    rw [← h]
    exact List.set_getElem_self hd
  · rw [List.set_eq_of_length_le (by omega)]

theorem gK_eq (ops : Array Oper) (j : Nat) (want : Bool) (d : Option Tmp) (p q : S → Prop) (s : S) : gK (gval ops s.t j) ((ops[j]?).bind (·.dst)) want d p q s = guardK (gval ops s.t j) want (p s) (q ⟨AL.put s.t d (.tup []), s.h⟩) := by
  unfold gK guardK
  cases hg : gval ops s.t j with
  | bool b =>
    simp only
    unfold gval at hg
    cases hd : (ops[j]?).bind (·.dst) with
    | none => rw [hd] at hg; cases hg
    | some i =>
      rw [hd] at hg
      have e := put_same hg
      apply propext
      constructor
      · rintro ⟨h1, h2⟩
        exact ⟨fun e' => by subst e'; have := h1 rfl; rwa [e] at this, fun e' => by subst e'; have := h2 rfl; rwa [e] at this⟩
      · rintro ⟨h1, h2⟩
        exact ⟨fun e' => by subst e'; rw [e]; exact h1 rfl, fun e' => by subst e'; rw [e]; exact h2 rfl⟩
  | tup vs => cases vs <;> rfl
  | _ => rfl

/-! The steps of the condition, as equations that are no matter of unfolding (else the kernel is to find the way by itself). -/
section
variable (P : Program) (X : Ctx) (Q : AX → S → Prop) (s : S)
@[simp] theorem vc_skip : vc P X .skip Q s = Q .normal s := by rw [vc]
@[simp] theorem vc_region (id : Nat) (ops : List Oper) : vc P X (.region id ops.toArray false) Q s = vcOps P ops.toArray Q ops s := by rw [vc]
@[simp] theorem vc_seq (x y : Code) : vc P X (.seq x y) Q s = vc P X x (thenK (vc P X y Q) Q) s := by rw [vc]
@[simp] theorem vc_cond (c : Operand) (x y : Code) : vc P X (.cond c x y) Q s = condK (ev s.t c) (vc P X x Q s) (vc P X y Q s) := by rw [vc]
@[simp] theorem vc_block (id : Nat) (c : Code) : vc P X (.block id c) Q s = vc P X c (blockK id Q) s := by rw [vc]
@[simp] theorem vc_exit (id : Nat) : vc P X (.exit id) Q s = Q (.exit id) s := by rw [vc]
@[simp] theorem vc_ret : vc P X .ret Q s = Q .ret s := by rw [vc]
@[simp] theorem vc_loop (c : Code) : vc P X (.loop c) Q s = awp P X (.loop c) Q s := by rw [vc] <;> simp
@[simp] theorem vc_draw (id : Nat) (ops : List Oper) : vc P X (.region id ops.toArray true) Q s = if pureB ops = true then vcQ P ops.toArray (Q .normal) ops s else awp P X (.region id ops.toArray true) Q s := by rw [vc]
@[simp] theorem vcQ_nil (ops : Array Oper) (Q : S → Prop) : vcQ P ops Q [] s = Q s := by rw [vcQ]
@[simp] theorem vcQ_plain (ops : Array Oper) (Q : S → Prop) (d : Option Tmp) (op : Op) (ty : TypeId) (pos : String) (aft : Array Edge) (rest : List Oper) : vcQ P ops Q (⟨d, op, ty, pos, aft, none⟩ :: rest) s = stepQ P ⟨d, op, ty, pos, aft, none⟩ (vcQ P ops Q rest) s := by rw [vcQ]
@[simp] theorem vcQ_guard (ops : Array Oper) (Q : S → Prop) (d : Option Tmp) (op : Op) (ty : TypeId) (pos : String) (aft : Array Edge) (j : Nat) (want : Bool) (rest : List Oper) : vcQ P ops Q (⟨d, op, ty, pos, aft, some (j, want)⟩ :: rest) s = gK (gval ops s.t j) ((ops[j]?).bind (·.dst)) want d (stepQ P ⟨d, op, ty, pos, aft, some (j, want)⟩ (vcQ P ops Q rest)) (vcQ P ops Q rest) s := by rw [gK_eq, vcQ]
@[simp] theorem callQ_fn (fid : FuncId) (caps args : List A) (d : Option Tmp) (K : S → Prop) : callQ P (.fn fid caps) args d K s = (noidL (args ++ caps) = true ∧ ∃ r, ECall P fid (args ++ caps) r ∧ K ⟨put s.t d r, s.h⟩) := by rw [callQ]
@[simp] theorem thenK_normal (f : S → Prop) : thenK f Q .normal s = f s := by rw [thenK]
@[simp] theorem thenK_exit (f : S → Prop) (id : Nat) : thenK f Q (.exit id) s = Q (.exit id) s := by simp only [thenK]
@[simp] theorem thenK_ret (f : S → Prop) : thenK f Q .ret s = Q .ret s := by simp only [thenK]
@[simp] theorem blockK_normal (id : Nat) : blockK id Q .normal s = Q .normal s := by simp only [blockK]
@[simp] theorem blockK_ret (id : Nat) : blockK id Q .ret s = Q .ret s := by simp only [blockK]
@[simp] theorem blockK_exit (id id' : Nat) : blockK id Q (.exit id') s = if id' = id then Q .normal s else Q (.exit id') s := by rw [blockK]
@[simp] theorem vcOps_nil (ops : Array Oper) : vcOps P ops Q [] s = Q .normal s := by rw [vcOps]
@[simp] theorem vcOps_plain (ops : Array Oper) (d : Option Tmp) (op : Op) (ty : TypeId) (pos : String) (aft : Array Edge) (rest : List Oper) : vcOps P ops Q (⟨d, op, ty, pos, aft, none⟩ :: rest) s = stepK P ⟨d, op, ty, pos, aft, none⟩ (vcOps P ops Q rest) s := by rw [vcOps]
@[simp] theorem vcOps_guard (ops : Array Oper) (d : Option Tmp) (op : Op) (ty : TypeId) (pos : String) (aft : Array Edge) (j : Nat) (want : Bool) (rest : List Oper) : vcOps P ops Q (⟨d, op, ty, pos, aft, some (j, want)⟩ :: rest) s = gK (gval ops s.t j) ((ops[j]?).bind (·.dst)) want d (stepK P ⟨d, op, ty, pos, aft, some (j, want)⟩ (vcOps P ops Q rest)) (vcOps P ops Q rest) s := by rw [gK_eq, vcOps]
@[simp] theorem obind_some {α : Type} (x : α) (K : α → Prop) : obind (some x) K = K x := by rw [obind]
@[simp] theorem obind_none {α : Type} (K : α → Prop) : obind none K = False := by rw [obind]
@[simp] theorem obind_ite {α : Type} (c : Prop) [Decidable c] (x : Option α) (K : α → Prop) : obind (if c then x else none) K = (c ∧ obind x K) := by
  by_cases h : c <;> simp [h]
@[simp] theorem finK_mk (d : Option Tmp) (K : S → Prop) (t : List A) (r : A) (H : List Row) : finK d K t (r, H) = K ⟨put t d r, H⟩ := by rw [finK]
@[simp] theorem aftK_mk (d : Option Tmp) (K : S → Prop) (t : List A) (r : A) (H : List Row) : aftK d K t r H = K ⟨put t d r, H⟩ := by rw [aftK]
@[simp] theorem condK_true (p q : Prop) : condK (.bool true) p q = p := by simp [condK]
@[simp] theorem condK_false (p q : Prop) : condK (.bool false) p q = q := by simp [condK]
@[simp] theorem condK_ub (p q : Prop) : condK .ub p q = (p ∧ q) := by rw [condK]
@[simp low] theorem condK_bool (b : Bool) (p q : Prop) : condK (.bool b) p q = ((b = true → p) ∧ (b = false → q)) := by rw [condK]
@[simp] theorem guardK_bool (b w : Bool) (p q : Prop) : guardK (.bool b) w p q = ((b = w → p) ∧ (b = !w → q)) := by rw [guardK]
@[simp] theorem callK_fn (fid : FuncId) (caps args : List A) (d : Option Tmp) (K : S → Prop) : callK P (.fn fid caps) args d K s = XCall P fid (args ++ caps) s.h (aftK d K s.t) := by rw [callK]
@[simp] theorem retX_normal (rs : Array ResultVar) (R : A → List Row → Prop) : retX P rs R .normal s = obind (ares P s.h s.t rs) fun r => R r s.h := by rw [retX] <;> simp
@[simp] theorem retX_ret (rs : Array ResultVar) (R : A → List Row → Prop) : retX P rs R .ret s = obind (ares P s.h s.t rs) fun r => R r s.h := by rw [retX] <;> simp
@[simp] theorem retF_normal (rs : Array ResultVar) (R : A → Prop) : retF P rs R .normal s = obind (ares P s.h s.t rs) fun r => obind (resA P s.h 4 r) fun r => R (wkA r) := by rw [retF] <;> simp
@[simp] theorem retF_ret (rs : Array ResultVar) (R : A → Prop) : retF P rs R .ret s = obind (ares P s.h s.t rs) fun r => obind (resA P s.h 4 r) fun r => R (wkA r) := by rw [retF] <;> simp
end
@[simp] theorem stepK_move (P : Program) (d : Option Tmp) (x : Operand) (ty : TypeId) (pos : String) (aft : Array Edge) (g : Option (Nat × Bool)) (K : S → Prop) (t0 : List A) (H0 : List Row) : stepK P ⟨d, .move x, ty, pos, aft, g⟩ K ⟨t0, H0⟩ = obind (aop P H0 (ev t0) (.move x)) (finK d K t0) := by rw [stepK]
@[simp] theorem stepK_assign (P : Program) (d : Option Tmp) (x : Operand) (ty : TypeId) (pos : String) (aft : Array Edge) (g : Option (Nat × Bool)) (K : S → Prop) (t0 : List A) (H0 : List Row) : stepK P ⟨d, .assign x, ty, pos, aft, g⟩ K ⟨t0, H0⟩ = obind (aop P H0 (ev t0) (.assign x)) (finK d K t0) := by rw [stepK]
@[simp] theorem stepK_pick (P : Program) (d : Option Tmp) (c a b : Operand) (ty : TypeId) (pos : String) (aft : Array Edge) (g : Option (Nat × Bool)) (K : S → Prop) (t0 : List A) (H0 : List Row) : stepK P ⟨d, .pick c a b, ty, pos, aft, g⟩ K ⟨t0, H0⟩ = obind (aop P H0 (ev t0) (.pick c a b)) (finK d K t0) := by rw [stepK]
@[simp] theorem stepK_binOp (P : Program) (d : Option Tmp) (b : BinOp) (t : TypeId) (x y : Operand) (u : TypeId) (ty : TypeId) (pos : String) (aft : Array Edge) (g : Option (Nat × Bool)) (K : S → Prop) (t0 : List A) (H0 : List Row) : stepK P ⟨d, .binOp b t x y u, ty, pos, aft, g⟩ K ⟨t0, H0⟩ = obind (aop P H0 (ev t0) (.binOp b t x y u)) (finK d K t0) := by rw [stepK]
@[simp] theorem stepK_unOp (P : Program) (d : Option Tmp) (b : UnOp) (t : TypeId) (x : Operand) (ty : TypeId) (pos : String) (aft : Array Edge) (g : Option (Nat × Bool)) (K : S → Prop) (t0 : List A) (H0 : List Row) : stepK P ⟨d, .unOp b t x, ty, pos, aft, g⟩ K ⟨t0, H0⟩ = obind (aop P H0 (ev t0) (.unOp b t x)) (finK d K t0) := by rw [stepK]
@[simp] theorem stepK_convert (P : Program) (d : Option Tmp) (a b : TypeId) (x : Operand) (ty : TypeId) (pos : String) (aft : Array Edge) (g : Option (Nat × Bool)) (K : S → Prop) (t0 : List A) (H0 : List Row) : stepK P ⟨d, .convert a b x, ty, pos, aft, g⟩ K ⟨t0, H0⟩ = obind (aop P H0 (ev t0) (.convert a b x)) (finK d K t0) := by rw [stepK]
@[simp] theorem stepK_indexAddr (P : Program) (d : Option Tmp) (t : TypeId) (x i : Operand) (ty : TypeId) (pos : String) (aft : Array Edge) (g : Option (Nat × Bool)) (K : S → Prop) (t0 : List A) (H0 : List Row) : stepK P ⟨d, .indexAddr t x i, ty, pos, aft, g⟩ K ⟨t0, H0⟩ = obind (aop P H0 (ev t0) (.indexAddr t x i)) (finK d K t0) := by rw [stepK]
@[simp] theorem stepK_index (P : Program) (d : Option Tmp) (t : TypeId) (x i : Operand) (ty : TypeId) (pos : String) (aft : Array Edge) (g : Option (Nat × Bool)) (K : S → Prop) (t0 : List A) (H0 : List Row) : stepK P ⟨d, .index t x i, ty, pos, aft, g⟩ K ⟨t0, H0⟩ = obind (aop P H0 (ev t0) (.index t x i)) (finK d K t0) := by rw [stepK]
@[simp] theorem stepK_load (P : Program) (d : Option Tmp) (t : TypeId) (x : Operand) (ty : TypeId) (pos : String) (aft : Array Edge) (g : Option (Nat × Bool)) (K : S → Prop) (t0 : List A) (H0 : List Row) : stepK P ⟨d, .load t x, ty, pos, aft, g⟩ K ⟨t0, H0⟩ = obind (aop P H0 (ev t0) (.load t x)) (finK d K t0) := by rw [stepK]
@[simp] theorem stepK_store (P : Program) (d : Option Tmp) (t : TypeId) (p x : Operand) (ty : TypeId) (pos : String) (aft : Array Edge) (g : Option (Nat × Bool)) (K : S → Prop) (t0 : List A) (H0 : List Row) : stepK P ⟨d, .store t p x, ty, pos, aft, g⟩ K ⟨t0, H0⟩ = obind (aop P H0 (ev t0) (.store t p x)) (finK d K t0) := by rw [stepK]
@[simp] theorem stepK_fieldAddr (P : Program) (d : Option Tmp) (t : TypeId) (x : Operand) (f : Nat) (ty : TypeId) (pos : String) (aft : Array Edge) (g : Option (Nat × Bool)) (K : S → Prop) (t0 : List A) (H0 : List Row) : stepK P ⟨d, .fieldAddr t x f, ty, pos, aft, g⟩ K ⟨t0, H0⟩ = obind (aop P H0 (ev t0) (.fieldAddr t x f)) (finK d K t0) := by rw [stepK]
@[simp] theorem stepK_field (P : Program) (d : Option Tmp) (t : TypeId) (x : Operand) (f : Nat) (ty : TypeId) (pos : String) (aft : Array Edge) (g : Option (Nat × Bool)) (K : S → Prop) (t0 : List A) (H0 : List Row) : stepK P ⟨d, .field t x f, ty, pos, aft, g⟩ K ⟨t0, H0⟩ = obind (aop P H0 (ev t0) (.field t x f)) (finK d K t0) := by rw [stepK]
@[simp] theorem stepK_extract (P : Program) (d : Option Tmp) (x : Operand) (i : Nat) (ty : TypeId) (pos : String) (aft : Array Edge) (g : Option (Nat × Bool)) (K : S → Prop) (t0 : List A) (H0 : List Row) : stepK P ⟨d, .extract x i, ty, pos, aft, g⟩ K ⟨t0, H0⟩ = obind (aop P H0 (ev t0) (.extract x i)) (finK d K t0) := by rw [stepK]
@[simp] theorem stepK_slice (P : Program) (d : Option Tmp) (t : TypeId) (x : Operand) (lo hi mx : Option Operand) (ty : TypeId) (pos : String) (aft : Array Edge) (g : Option (Nat × Bool)) (K : S → Prop) (t0 : List A) (H0 : List Row) : stepK P ⟨d, .slice t x lo hi mx, ty, pos, aft, g⟩ K ⟨t0, H0⟩ = obind (aop P H0 (ev t0) (.slice t x lo hi mx)) (finK d K t0) := by rw [stepK]
@[simp] theorem stepK_nilCheck (P : Program) (d : Option Tmp) (x : Operand) (ty : TypeId) (pos : String) (aft : Array Edge) (g : Option (Nat × Bool)) (K : S → Prop) (t0 : List A) (H0 : List Row) : stepK P ⟨d, .nilCheck x, ty, pos, aft, g⟩ K ⟨t0, H0⟩ = obind (aop P H0 (ev t0) (.nilCheck x)) (finK d K t0) := by rw [stepK]
@[simp] theorem stepK_build (P : Program) (d : Option Tmp) (t : TypeId) (ps : Array (Nat × Operand)) (ty : TypeId) (pos : String) (aft : Array Edge) (g : Option (Nat × Bool)) (K : S → Prop) (t0 : List A) (H0 : List Row) : stepK P ⟨d, .build t ps, ty, pos, aft, g⟩ K ⟨t0, H0⟩ = obind (aop P H0 (ev t0) (.build t ps)) (finK d K t0) := by rw [stepK]
@[simp] theorem stepK_buildSlice (P : Program) (d : Option Tmp) (t : TypeId) (n : Nat) (ps : Array (Nat × Operand)) (ty : TypeId) (pos : String) (aft : Array Edge) (g : Option (Nat × Bool)) (K : S → Prop) (t0 : List A) (H0 : List Row) : stepK P ⟨d, .buildSlice t n ps, ty, pos, aft, g⟩ K ⟨t0, H0⟩ = obind (aop P H0 (ev t0) (.buildSlice t n ps)) (finK d K t0) := by rw [stepK]
@[simp] theorem stepK_box (P : Program) (d : Option Tmp) (t : TypeId) (x : Operand) (ty : TypeId) (pos : String) (aft : Array Edge) (g : Option (Nat × Bool)) (K : S → Prop) (t0 : List A) (H0 : List Row) : stepK P ⟨d, .box t x, ty, pos, aft, g⟩ K ⟨t0, H0⟩ = obind (aop P H0 (ev t0) (.box t x)) (finK d K t0) := by rw [stepK]
@[simp] theorem stepK_alloc (P : Program) (d : Option Tmp) (t : TypeId) (ty : TypeId) (pos : String) (aft : Array Edge) (g : Option (Nat × Bool)) (K : S → Prop) (t0 : List A) (H0 : List Row) : stepK P ⟨d, .alloc t, ty, pos, aft, g⟩ K ⟨t0, H0⟩ = obind (aop P H0 (ev t0) (.alloc t)) (finK d K t0) := by rw [stepK]
@[simp] theorem stepK_makeSlice (P : Program) (d : Option Tmp) (t : TypeId) (l c : Operand) (ty : TypeId) (pos : String) (aft : Array Edge) (g : Option (Nat × Bool)) (K : S → Prop) (t0 : List A) (H0 : List Row) : stepK P ⟨d, .makeSlice t l c, ty, pos, aft, g⟩ K ⟨t0, H0⟩ = obind (aop P H0 (ev t0) (.makeSlice t l c)) (finK d K t0) := by rw [stepK]
@[simp] theorem stepK_makeMap (P : Program) (d : Option Tmp) (t : TypeId) (r : Option Operand) (ty : TypeId) (pos : String) (aft : Array Edge) (g : Option (Nat × Bool)) (K : S → Prop) (t0 : List A) (H0 : List Row) : stepK P ⟨d, .makeMap t r, ty, pos, aft, g⟩ K ⟨t0, H0⟩ = obind (aop P H0 (ev t0) (.makeMap t r)) (finK d K t0) := by rw [stepK]
@[simp] theorem stepK_lookup (P : Program) (d : Option Tmp) (t : TypeId) (x k : Operand) (ok : Bool) (ty : TypeId) (pos : String) (aft : Array Edge) (g : Option (Nat × Bool)) (K : S → Prop) (t0 : List A) (H0 : List Row) : stepK P ⟨d, .lookup t x k ok, ty, pos, aft, g⟩ K ⟨t0, H0⟩ = obind (aop P H0 (ev t0) (.lookup t x k ok)) (finK d K t0) := by rw [stepK]
@[simp] theorem stepK_mapUpdate (P : Program) (d : Option Tmp) (t : TypeId) (m k v : Operand) (ty : TypeId) (pos : String) (aft : Array Edge) (g : Option (Nat × Bool)) (K : S → Prop) (t0 : List A) (H0 : List Row) : stepK P ⟨d, .mapUpdate t m k v, ty, pos, aft, g⟩ K ⟨t0, H0⟩ = obind (aop P H0 (ev t0) (.mapUpdate t m k v)) (finK d K t0) := by rw [stepK]
@[simp] theorem stepK_makeFunc (P : Program) (d : Option Tmp) (fn : Fn) (a c : Array Operand) (ty : TypeId) (pos : String) (aft : Array Edge) (g : Option (Nat × Bool)) (K : S → Prop) (t0 : List A) (H0 : List Row) : stepK P ⟨d, .makeFunc fn a c, ty, pos, aft, g⟩ K ⟨t0, H0⟩ = obind (aop P H0 (ev t0) (.makeFunc fn a c)) (finK d K t0) := by rw [stepK]
@[simp] theorem stepK_call (P : Program) (d : Option Tmp) (f : Operand) (as : Array Operand) (ts : Array TypeId) (ty : TypeId) (pos : String) (aft : Array Edge) (g : Option (Nat × Bool)) (K : S → Prop) (t0 : List A) (H0 : List Row) : stepK P ⟨d, .call ⟨.value f, as, ts⟩, ty, pos, aft, g⟩ K ⟨t0, H0⟩ = callK P (ev t0 f) (as.toList.map (ev t0)) d K ⟨t0, H0⟩ := by rw [stepK]
@[simp] theorem stepK_builtin (P : Program) (d : Option Tmp) (b : Builtin) (as : Array Operand) (ts : Array TypeId) (ty : TypeId) (pos : String) (aft : Array Edge) (g : Option (Nat × Bool)) (K : S → Prop) (t0 : List A) (H0 : List Row) : stepK P ⟨d, .call ⟨.builtin b, as, ts⟩, ty, pos, aft, g⟩ K ⟨t0, H0⟩ = obind (abuiltin P H0 b ts (as.toList.map (ev t0))) (finK d K t0) := by
  simp only [stepK, aop]

@[simp] theorem stepQ_move (P : Program) (d : Option Tmp) (x : Operand) (ty : TypeId) (pos : String) (aft : Array Edge) (g : Option (Nat × Bool)) (K : S → Prop) (t0 : List A) (H0 : List Row) : stepQ P ⟨d, .move x, ty, pos, aft, g⟩ K ⟨t0, H0⟩ = obind (aop P H0 (ev t0) (.move x)) (finK d K t0) := by rw [stepQ]
@[simp] theorem stepQ_assign (P : Program) (d : Option Tmp) (x : Operand) (ty : TypeId) (pos : String) (aft : Array Edge) (g : Option (Nat × Bool)) (K : S → Prop) (t0 : List A) (H0 : List Row) : stepQ P ⟨d, .assign x, ty, pos, aft, g⟩ K ⟨t0, H0⟩ = obind (aop P H0 (ev t0) (.assign x)) (finK d K t0) := by rw [stepQ]
@[simp] theorem stepQ_pick (P : Program) (d : Option Tmp) (c a b : Operand) (ty : TypeId) (pos : String) (aft : Array Edge) (g : Option (Nat × Bool)) (K : S → Prop) (t0 : List A) (H0 : List Row) : stepQ P ⟨d, .pick c a b, ty, pos, aft, g⟩ K ⟨t0, H0⟩ = obind (aop P H0 (ev t0) (.pick c a b)) (finK d K t0) := by rw [stepQ]
@[simp] theorem stepQ_binOp (P : Program) (d : Option Tmp) (b : BinOp) (t : TypeId) (x y : Operand) (u : TypeId) (ty : TypeId) (pos : String) (aft : Array Edge) (g : Option (Nat × Bool)) (K : S → Prop) (t0 : List A) (H0 : List Row) : stepQ P ⟨d, .binOp b t x y u, ty, pos, aft, g⟩ K ⟨t0, H0⟩ = obind (aop P H0 (ev t0) (.binOp b t x y u)) (finK d K t0) := by rw [stepQ]
@[simp] theorem stepQ_unOp (P : Program) (d : Option Tmp) (b : UnOp) (t : TypeId) (x : Operand) (ty : TypeId) (pos : String) (aft : Array Edge) (g : Option (Nat × Bool)) (K : S → Prop) (t0 : List A) (H0 : List Row) : stepQ P ⟨d, .unOp b t x, ty, pos, aft, g⟩ K ⟨t0, H0⟩ = obind (aop P H0 (ev t0) (.unOp b t x)) (finK d K t0) := by rw [stepQ]
@[simp] theorem stepQ_convert (P : Program) (d : Option Tmp) (a b : TypeId) (x : Operand) (ty : TypeId) (pos : String) (aft : Array Edge) (g : Option (Nat × Bool)) (K : S → Prop) (t0 : List A) (H0 : List Row) : stepQ P ⟨d, .convert a b x, ty, pos, aft, g⟩ K ⟨t0, H0⟩ = obind (aop P H0 (ev t0) (.convert a b x)) (finK d K t0) := by rw [stepQ]
@[simp] theorem stepQ_indexAddr (P : Program) (d : Option Tmp) (t : TypeId) (x i : Operand) (ty : TypeId) (pos : String) (aft : Array Edge) (g : Option (Nat × Bool)) (K : S → Prop) (t0 : List A) (H0 : List Row) : stepQ P ⟨d, .indexAddr t x i, ty, pos, aft, g⟩ K ⟨t0, H0⟩ = obind (aop P H0 (ev t0) (.indexAddr t x i)) (finK d K t0) := by rw [stepQ]
@[simp] theorem stepQ_index (P : Program) (d : Option Tmp) (t : TypeId) (x i : Operand) (ty : TypeId) (pos : String) (aft : Array Edge) (g : Option (Nat × Bool)) (K : S → Prop) (t0 : List A) (H0 : List Row) : stepQ P ⟨d, .index t x i, ty, pos, aft, g⟩ K ⟨t0, H0⟩ = obind (aop P H0 (ev t0) (.index t x i)) (finK d K t0) := by rw [stepQ]
@[simp] theorem stepQ_load (P : Program) (d : Option Tmp) (t : TypeId) (x : Operand) (ty : TypeId) (pos : String) (aft : Array Edge) (g : Option (Nat × Bool)) (K : S → Prop) (t0 : List A) (H0 : List Row) : stepQ P ⟨d, .load t x, ty, pos, aft, g⟩ K ⟨t0, H0⟩ = obind (aop P H0 (ev t0) (.load t x)) (finK d K t0) := by rw [stepQ]
@[simp] theorem stepQ_store (P : Program) (d : Option Tmp) (t : TypeId) (p x : Operand) (ty : TypeId) (pos : String) (aft : Array Edge) (g : Option (Nat × Bool)) (K : S → Prop) (t0 : List A) (H0 : List Row) : stepQ P ⟨d, .store t p x, ty, pos, aft, g⟩ K ⟨t0, H0⟩ = obind (aop P H0 (ev t0) (.store t p x)) (finK d K t0) := by rw [stepQ]
@[simp] theorem stepQ_fieldAddr (P : Program) (d : Option Tmp) (t : TypeId) (x : Operand) (f : Nat) (ty : TypeId) (pos : String) (aft : Array Edge) (g : Option (Nat × Bool)) (K : S → Prop) (t0 : List A) (H0 : List Row) : stepQ P ⟨d, .fieldAddr t x f, ty, pos, aft, g⟩ K ⟨t0, H0⟩ = obind (aop P H0 (ev t0) (.fieldAddr t x f)) (finK d K t0) := by rw [stepQ]
@[simp] theorem stepQ_field (P : Program) (d : Option Tmp) (t : TypeId) (x : Operand) (f : Nat) (ty : TypeId) (pos : String) (aft : Array Edge) (g : Option (Nat × Bool)) (K : S → Prop) (t0 : List A) (H0 : List Row) : stepQ P ⟨d, .field t x f, ty, pos, aft, g⟩ K ⟨t0, H0⟩ = obind (aop P H0 (ev t0) (.field t x f)) (finK d K t0) := by rw [stepQ]
@[simp] theorem stepQ_extract (P : Program) (d : Option Tmp) (x : Operand) (i : Nat) (ty : TypeId) (pos : String) (aft : Array Edge) (g : Option (Nat × Bool)) (K : S → Prop) (t0 : List A) (H0 : List Row) : stepQ P ⟨d, .extract x i, ty, pos, aft, g⟩ K ⟨t0, H0⟩ = obind (aop P H0 (ev t0) (.extract x i)) (finK d K t0) := by rw [stepQ]
@[simp] theorem stepQ_slice (P : Program) (d : Option Tmp) (t : TypeId) (x : Operand) (lo hi mx : Option Operand) (ty : TypeId) (pos : String) (aft : Array Edge) (g : Option (Nat × Bool)) (K : S → Prop) (t0 : List A) (H0 : List Row) : stepQ P ⟨d, .slice t x lo hi mx, ty, pos, aft, g⟩ K ⟨t0, H0⟩ = obind (aop P H0 (ev t0) (.slice t x lo hi mx)) (finK d K t0) := by rw [stepQ]
@[simp] theorem stepQ_nilCheck (P : Program) (d : Option Tmp) (x : Operand) (ty : TypeId) (pos : String) (aft : Array Edge) (g : Option (Nat × Bool)) (K : S → Prop) (t0 : List A) (H0 : List Row) : stepQ P ⟨d, .nilCheck x, ty, pos, aft, g⟩ K ⟨t0, H0⟩ = obind (aop P H0 (ev t0) (.nilCheck x)) (finK d K t0) := by rw [stepQ]
@[simp] theorem stepQ_build (P : Program) (d : Option Tmp) (t : TypeId) (ps : Array (Nat × Operand)) (ty : TypeId) (pos : String) (aft : Array Edge) (g : Option (Nat × Bool)) (K : S → Prop) (t0 : List A) (H0 : List Row) : stepQ P ⟨d, .build t ps, ty, pos, aft, g⟩ K ⟨t0, H0⟩ = obind (aop P H0 (ev t0) (.build t ps)) (finK d K t0) := by rw [stepQ]
@[simp] theorem stepQ_buildSlice (P : Program) (d : Option Tmp) (t : TypeId) (n : Nat) (ps : Array (Nat × Operand)) (ty : TypeId) (pos : String) (aft : Array Edge) (g : Option (Nat × Bool)) (K : S → Prop) (t0 : List A) (H0 : List Row) : stepQ P ⟨d, .buildSlice t n ps, ty, pos, aft, g⟩ K ⟨t0, H0⟩ = obind (aop P H0 (ev t0) (.buildSlice t n ps)) (finK d K t0) := by rw [stepQ]
@[simp] theorem stepQ_box (P : Program) (d : Option Tmp) (t : TypeId) (x : Operand) (ty : TypeId) (pos : String) (aft : Array Edge) (g : Option (Nat × Bool)) (K : S → Prop) (t0 : List A) (H0 : List Row) : stepQ P ⟨d, .box t x, ty, pos, aft, g⟩ K ⟨t0, H0⟩ = obind (aop P H0 (ev t0) (.box t x)) (finK d K t0) := by rw [stepQ]
@[simp] theorem stepQ_alloc (P : Program) (d : Option Tmp) (t : TypeId) (ty : TypeId) (pos : String) (aft : Array Edge) (g : Option (Nat × Bool)) (K : S → Prop) (t0 : List A) (H0 : List Row) : stepQ P ⟨d, .alloc t, ty, pos, aft, g⟩ K ⟨t0, H0⟩ = obind (aop P H0 (ev t0) (.alloc t)) (finK d K t0) := by rw [stepQ]
@[simp] theorem stepQ_makeSlice (P : Program) (d : Option Tmp) (t : TypeId) (l c : Operand) (ty : TypeId) (pos : String) (aft : Array Edge) (g : Option (Nat × Bool)) (K : S → Prop) (t0 : List A) (H0 : List Row) : stepQ P ⟨d, .makeSlice t l c, ty, pos, aft, g⟩ K ⟨t0, H0⟩ = obind (aop P H0 (ev t0) (.makeSlice t l c)) (finK d K t0) := by rw [stepQ]
@[simp] theorem stepQ_makeMap (P : Program) (d : Option Tmp) (t : TypeId) (r : Option Operand) (ty : TypeId) (pos : String) (aft : Array Edge) (g : Option (Nat × Bool)) (K : S → Prop) (t0 : List A) (H0 : List Row) : stepQ P ⟨d, .makeMap t r, ty, pos, aft, g⟩ K ⟨t0, H0⟩ = obind (aop P H0 (ev t0) (.makeMap t r)) (finK d K t0) := by rw [stepQ]
@[simp] theorem stepQ_lookup (P : Program) (d : Option Tmp) (t : TypeId) (x k : Operand) (ok : Bool) (ty : TypeId) (pos : String) (aft : Array Edge) (g : Option (Nat × Bool)) (K : S → Prop) (t0 : List A) (H0 : List Row) : stepQ P ⟨d, .lookup t x k ok, ty, pos, aft, g⟩ K ⟨t0, H0⟩ = obind (aop P H0 (ev t0) (.lookup t x k ok)) (finK d K t0) := by rw [stepQ]
@[simp] theorem stepQ_mapUpdate (P : Program) (d : Option Tmp) (t : TypeId) (m k v : Operand) (ty : TypeId) (pos : String) (aft : Array Edge) (g : Option (Nat × Bool)) (K : S → Prop) (t0 : List A) (H0 : List Row) : stepQ P ⟨d, .mapUpdate t m k v, ty, pos, aft, g⟩ K ⟨t0, H0⟩ = obind (aop P H0 (ev t0) (.mapUpdate t m k v)) (finK d K t0) := by rw [stepQ]
@[simp] theorem stepQ_makeFunc (P : Program) (d : Option Tmp) (fn : Fn) (a c : Array Operand) (ty : TypeId) (pos : String) (aft : Array Edge) (g : Option (Nat × Bool)) (K : S → Prop) (t0 : List A) (H0 : List Row) : stepQ P ⟨d, .makeFunc fn a c, ty, pos, aft, g⟩ K ⟨t0, H0⟩ = obind (aop P H0 (ev t0) (.makeFunc fn a c)) (finK d K t0) := by rw [stepQ]
@[simp] theorem stepQ_call (P : Program) (d : Option Tmp) (f : Operand) (as : Array Operand) (ts : Array TypeId) (ty : TypeId) (pos : String) (aft : Array Edge) (g : Option (Nat × Bool)) (K : S → Prop) (t0 : List A) (H0 : List Row) : stepQ P ⟨d, .call ⟨.value f, as, ts⟩, ty, pos, aft, g⟩ K ⟨t0, H0⟩ = callQ P (ev t0 f) (as.toList.map (ev t0)) d K ⟨t0, H0⟩ := by rw [stepQ]
@[simp] theorem stepQ_builtin (P : Program) (d : Option Tmp) (b : Builtin) (as : Array Operand) (ts : Array TypeId) (ty : TypeId) (pos : String) (aft : Array Edge) (g : Option (Nat × Bool)) (K : S → Prop) (t0 : List A) (H0 : List Row) : stepQ P ⟨d, .call ⟨.builtin b, as, ts⟩, ty, pos, aft, g⟩ K ⟨t0, H0⟩ = obind (abuiltin P H0 b ts (as.toList.map (ev t0))) (finK d K t0) := by
  simp only [stepQ, aop]

attribute [simp] pureB pureOp aop put ev ofV ofV1 abin aint astr abuiltin gval aun aconv afield aextract afieldAddr
  anilCheck abnd amaxmin afold amax2 amin2 abin2 eqPair aeqs acmpNil nilOp wkA wkL argsK ares ares1 resL A.noid noidL aappend2 abox aalloc amake abuildSlice apartsIn aclear abuilt afill apart frz sle

/-! Where a form is to be known first. -/
@[simp] theorem nc_int (k : IntKind) (n : Int) : (A.int k n).ncells = 1 := rfl
@[simp] theorem nc_bool (b : Bool) : (A.bool b).ncells = 1 := rfl
@[simp] theorem nc_ub : A.ub.ncells = 1 := rfl
@[simp] theorem nc_str (l : List UInt8) : (A.str l).ncells = 1 := rfl
@[simp] theorem nc_sl (f : Bool) (es : List A) : (A.sl f es).ncells = 1 := rfl
@[simp] theorem nc_own (id off len cb : Nat) (ex : Bool) : (A.own id off len cb ex).ncells = 1 := rfl
@[simp] theorem nc_ptr (d : A) : (A.ptr d).ncells = 1 := rfl
@[simp] theorem nc_pto (id sz i co : Nat) : (A.pto id sz i co).ncells = 1 := rfl
@[simp] theorem nc_nptr : A.nptr.ncells = 1 := rfl
@[simp] theorem nc_agg (cs : List A) : (A.agg cs).ncells = cs.length := rfl
@[simp] theorem nc_tup (cs : List A) : (A.tup cs).ncells = 0 := rfl
@[simp] theorem nc_fn (f : FuncId) (cs : List A) : (A.fn f cs).ncells = 1 := rfl
@[simp] theorem nc_nfn : A.nfn.ncells = 1 := rfl
@[simp] theorem nc_any : A.any.ncells = 0 := rfl
@[simp] theorem cl_int (k : IntKind) (n : Int) : (A.int k n).cells = [.int k n] := rfl
@[simp] theorem cl_bool (b : Bool) : (A.bool b).cells = [.bool b] := rfl
@[simp] theorem cl_ub : A.ub.cells = [.ub] := rfl
@[simp] theorem cl_str (l : List UInt8) : (A.str l).cells = [.str l] := rfl
@[simp] theorem cl_sl (f : Bool) (es : List A) : (A.sl f es).cells = [.sl f es] := rfl
@[simp] theorem cl_own (id off len cb : Nat) (ex : Bool) : (A.own id off len cb ex).cells = [.own id off len cb ex] := rfl
@[simp] theorem cl_ptr (d : A) : (A.ptr d).cells = [.ptr d] := rfl
@[simp] theorem cl_pto (id sz i co : Nat) : (A.pto id sz i co).cells = [.pto id sz i co] := rfl
@[simp] theorem cl_nptr : A.nptr.cells = [.nptr] := rfl
@[simp] theorem cl_agg (cs : List A) : (A.agg cs).cells = cs := rfl
@[simp] theorem cl_fn (f : FuncId) (cs : List A) : (A.fn f cs).cells = [.fn f cs] := rfl
@[simp] theorem cl_nfn : A.nfn.cells = [.nfn] := rfl
section
variable (P : Program) (t : TypeId)
@[simp] theorem shp_int (k : IntKind) (n : Int) : shp P t (.int k n) = (!aggT P t && P.cellsOf t == 1) := rfl
@[simp] theorem shp_bool (b : Bool) : shp P t (.bool b) = (!aggT P t && P.cellsOf t == 1) := rfl
@[simp] theorem shp_ub : shp P t .ub = (!aggT P t && P.cellsOf t == 1) := rfl
@[simp] theorem shp_str (l : List UInt8) : shp P t (.str l) = (!aggT P t && P.cellsOf t == 1) := rfl
@[simp] theorem shp_sl (f : Bool) (es : List A) : shp P t (.sl f es) = (!aggT P t && P.cellsOf t == 1) := rfl
@[simp] theorem shp_own (id off len cb : Nat) (ex : Bool) : shp P t (.own id off len cb ex) = (!aggT P t && P.cellsOf t == 1) := rfl
@[simp] theorem shp_ptr (d : A) : shp P t (.ptr d) = (!aggT P t && P.cellsOf t == 1) := rfl
@[simp] theorem shp_pto (id sz i co : Nat) : shp P t (.pto id sz i co) = (!aggT P t && P.cellsOf t == 1) := rfl
@[simp] theorem shp_nptr : shp P t .nptr = (!aggT P t && P.cellsOf t == 1) := rfl
@[simp] theorem shp_fn (f : FuncId) (cs : List A) : shp P t (.fn f cs) = (!aggT P t && P.cellsOf t == 1) := rfl
@[simp] theorem shp_nfn : shp P t .nfn = (!aggT P t && P.cellsOf t == 1) := rfl
@[simp] theorem shp_agg (cs : List A) : shp P t (.agg cs) = (aggT P t && cs.length == P.cellsOf t) := rfl
@[simp] theorem shp_any : shp P t .any = false := rfl
end
@[simp] theorem sc_int (k : IntKind) (n : Int) : scal (.int k n) = true := rfl
@[simp] theorem sc_bool (b : Bool) : scal (.bool b) = true := rfl
@[simp] theorem sc_ub : scal .ub = false := rfl
@[simp] theorem sc_str (l : List UInt8) : scal (.str l) = true := rfl
@[simp] theorem sc_sl (f : Bool) (es : List A) : scal (.sl f es) = false := rfl
@[simp] theorem sc_own (id off len cb : Nat) (ex : Bool) : scal (.own id off len cb ex) = false := rfl
@[simp] theorem sc_ptr (d : A) : scal (.ptr d) = false := rfl
@[simp] theorem sc_pto (id sz i co : Nat) : scal (.pto id sz i co) = false := rfl
def scal1 : A → Bool
  | .int .. | .bool _ | .str _ => true
  | _ => false
theorem scal1_eq : scal1 = fun c => match c with | .int .. | .bool _ | .str _ => true | _ => false := by
  funext c; cases c <;> rfl
@[simp] theorem sc_tup (cs : List A) : scal (.tup cs) = cs.all scal1 := by rw [scal1_eq]; rfl
@[simp] theorem sc_agg (cs : List A) : scal (.agg cs) = cs.all scal1 := by rw [scal1_eq]; rfl
@[simp] theorem s1_int (k : IntKind) (n : Int) : scal1 (.int k n) = true := rfl
@[simp] theorem s1_bool (b : Bool) : scal1 (.bool b) = true := rfl
@[simp] theorem s1_str (l : List UInt8) : scal1 (.str l) = true := rfl
@[simp] theorem s1_sl (f : Bool) (es : List A) : scal1 (.sl f es) = false := rfl
@[simp] theorem s1_own (id off len cb : Nat) (ex : Bool) : scal1 (.own id off len cb ex) = false := rfl
@[simp] theorem s1_agg (cs : List A) : scal1 (.agg cs) = false := rfl
@[simp] theorem s1_ptr (d : A) : scal1 (.ptr d) = false := rfl

/-- By a row, if there is one. -/
def rowK {α : Type} (o : Option Row) (K : Row → Option α) (z : Option α) : Option α := match o with | some r => K r | none => z
@[simp] theorem rowK_some {α : Type} (r : Row) (K : Row → Option α) (z : Option α) : rowK (some r) K z = K r := rfl
@[simp] theorem rowK_none {α : Type} (K : Row → Option α) (z : Option α) : rowK none K z = z := rfl

/-- Elements of a row. -/
def cut (off len : Nat) (es : List A) : List A := (es.drop off).take len
@[simp high] theorem cut_all (len : Nat) (es : List A) (h : es.length = len) : cut 0 len es = es := by
  unfold cut; rw [List.drop_zero, List.take_of_length_le (by omega)]
theorem cut_eq (off len : Nat) (es : List A) : cut off len es = (es.drop off).take len := rfl

section
variable (P : Program) (H : List Row) (n : Nat)
@[simp] theorem resA_int (k : IntKind) (z : Int) : resA P H (n + 1) (.int k z) = some (.int k z) := rfl
@[simp] theorem resA_bool (b : Bool) : resA P H (n + 1) (.bool b) = some (.bool b) := rfl
@[simp] theorem resA_str (l : List UInt8) : resA P H (n + 1) (.str l) = some (.str l) := rfl
@[simp] theorem resA_sl (f : Bool) (es : List A) : resA P H (n + 1) (.sl f es) = some (.sl f es) := rfl
@[simp] theorem resA_ptr (d : A) : resA P H (n + 1) (.ptr d) = some (.ptr d) := rfl
theorem resA_own0 (id off len cb : Nat) (ex : Bool) : resA P H (n + 1) (.own id off len cb ex) = if len = 0 then some (.sl false []) else (H[id]?).bind fun r =>
      if r.live = true ∧ off + len ≤ r.es.length then
        if noidL (cut off len r.es) then some (.sl false (cut off len r.es)) else ((cut off len r.es).mapM (resA P H n)).map (.sl false)
      else none := by
  conv => lhs; unfold resA
  rfl
@[simp] theorem resA_own (id off len cb : Nat) (ex : Bool) : resA P H (n + 1) (.own id off len cb ex) = rowK H[id]? (fun r =>
      if r.live = true ∧ off + len ≤ r.es.length then
        if noidL (cut off len r.es) then some (.sl false (cut off len r.es)) else ((cut off len r.es).mapM (resA P H n)).map (.sl false)
      else if len = 0 then some (.sl false []) else none) (if len = 0 then some (.sl false []) else none) := by
  rw [resA_own0]
  by_cases hl : len = 0
  · subst hl
    cases hr : H[id]? with
    | none => simp [rowK]
    | some r =>
      have e : cut off 0 r.es = [] := by simp [cut]
      simp [rowK, e]
  · cases hr : H[id]? with
    | none => simp [rowK, hl]
    | some r => simp [rowK, hl]
@[simp] theorem resA_pto (id sz j co : Nat) : resA P H (n + 1) (.pto id sz j co) = (H[id]?).bind fun r => if r.live = true ∧ co = 0 ∧ r.sz = sz ∧ r.sz ≠ 0 then (r.es[j]?).bind fun e => (resA P H n e).map .ptr else none := by
  conv => lhs; unfold resA
  rfl
@[simp] theorem resA_agg (cs : List A) : resA P H (n + 1) (.agg cs) = if noidL cs then some (.agg cs) else (cs.mapM (resA P H n)).map .agg := by
  conv => lhs; unfold resA
  rfl
@[simp] theorem resA_tup (cs : List A) : resA P H (n + 1) (.tup cs) = if noidL cs then some (.tup cs) else (cs.mapM (resA P H n)).map .tup := by
  conv => lhs; unfold resA
  rfl
@[simp] theorem resA_fn (f : FuncId) (cs : List A) : resA P H (n + 1) (.fn f cs) = if noidL cs then some (.fn f cs) else (cs.mapM (resA P H n)).map (.fn f) := by
  conv => lhs; unfold resA
  rfl
end
@[simp] theorem nle1 (n : Nat) : (n + 1 ≤ n) = False := by simp
@[simp] theorem nle2 (n m : Nat) : (n + (m + 1) ≤ n) = False := by simp
@[simp] theorem wkL_take (xs : List A) (n : Nat) : wkL (xs.take n) = (wkL xs).take n := by simp [wkL_map, List.map_take]
@[simp] theorem wkL_drop (xs : List A) (n : Nat) : wkL (xs.drop n) = (wkL xs).drop n := by simp [wkL_map, List.map_drop]
@[simp] theorem wkL_append (xs ys : List A) : wkL (xs ++ ys) = wkL xs ++ wkL ys := by simp [wkL_map]

/-- The length and the elements' type of an array type. -/
def arrT (P : Program) (t : TypeId) : Option (Nat × TypeId) := match P.underlying t with | some (.array n e) => some (n, e) | _ => none
/-- The elements' type of a slice type. -/
def selem (P : Program) (t : TypeId) : TypeId := match P.underlying t with | some (.slice e) => e | _ => 0
def isStrT (P : Program) (t : TypeId) : Bool := match P.underlying t with | some .string => true | _ => false

theorem selem_eq {P : Program} {t : TypeId} (h : isSliceT P t = true) : P.underlying t = some (.slice (selem P t)) := by
  unfold isSliceT at h
  unfold selem
  split at h
  · rename_i e he; rw [he]
  · cases h
theorem isStr_eq {P : Program} {t : TypeId} (h : isStrT P t = true) : P.underlying t = some .string := by
  unfold isStrT at h
  split at h
  · assumption
  · cases h
theorem arrT_eq {P : Program} {t : TypeId} {n : Nat} {e : TypeId} (h : arrT P t = some (n, e)) : P.underlying t = some (.array n e) := by
  unfold arrT at h
  split at h
  · cases h; assumption
  · cases h

section
variable {P : Program} {H : List Row} {t : TypeId}
@[simp] theorem nilB_nil (f : Bool) : (A.sl f []).nilB = .ub := rfl
@[simp] theorem nilB_cons (f : Bool) (x : A) (xs : List A) : (A.sl f (x :: xs)).nilB = .bool false := rfl
@[simp] theorem nilB_own (id off len cb : Nat) (ex : Bool) : (A.own id off len cb ex).nilB = if len = 0 then .ub else .bool false := rfl
@[simp] theorem alen_sl (f : Bool) (es : List A) (h : isSliceT P t = true) : alen P t (.sl f es) = some (.int .i64 es.length) := by
  unfold alen; rw [selem_eq h]
@[simp] theorem alen_own (id off len cb : Nat) (ex : Bool) (h : isSliceT P t = true) : alen P t (.own id off len cb ex) = some (.int .i64 len) := by
  unfold alen; rw [selem_eq h]
@[simp] theorem alen_str (l : List UInt8) (h : isStrT P t = true) : alen P t (.str l) = some (.int .i64 l.length) := by
  unfold alen; rw [isStr_eq h]
@[simp] theorem aidx_sl (f : Bool) (es : List A) (k : IntKind) (n : Int) (h : isSliceT P t = true) :
    aidx P H t (.sl f es) (.int k n) = if 0 ≤ n ∧ n < es.length ∧ P.cellsOf (selem P t) ≠ 0 then (es[n.toNat]?).bind fun d => if d.ncells = P.cellsOf (selem P t) then some (.ptr d) else none else none := by
  unfold aidx; rw [selem_eq h]
@[simp] theorem aidx_own (id off len cb : Nat) (ex : Bool) (k : IntKind) (n : Int) (h : isSliceT P t = true) :
    aidx P H t (.own id off len cb ex) (.int k n) = (H[id]?).bind fun r => if r.live = true ∧ r.ty = selem P t ∧ 0 ≤ n ∧ n < len then some (.pto id r.sz (off + n.toNat) 0) else none := by
  unfold aidx; rw [selem_eq h]
@[simp] theorem aidx_pto (id sz j co : Nat) (k : IntKind) (n : Int) :
    aidx P H t (.pto id sz j co) (.int k n) = (arrT P t).bind fun p => if P.cellsOf p.2 ≠ 0 ∧ 0 ≤ n ∧ n < p.1 then some (.pto id sz j (co + n.toNat * P.cellsOf p.2)) else none := by
  unfold aidx arrT
  cases P.underlying t with
  | none => rfl
  | some d => cases d <;> rfl
@[simp] theorem aidx_ptr (cs : List A) (k : IntKind) (n : Int) :
    aidx P H t (.ptr (.agg cs)) (.int k n) = (arrT P t).bind fun p => if 0 ≤ n ∧ n < p.1 ∧ P.cellsOf p.2 ≠ 0 then (apart P p.2 cs (n.toNat * P.cellsOf p.2)).bind fun d => if d.ncells ≠ 0 then some (.ptr d) else none else none := by
  unfold aidx arrT
  cases P.underlying t with
  | none => rfl
  | some d => cases d <;> rfl
@[simp] theorem aindex_str (l : List UInt8) (k : IntKind) (n : Int) (h : isStrT P t = true) : aindex P t (.str l) (.int k n) = if 0 ≤ n then (l[n.toNat]?).map fun c => .int .u8 c.toNat else none := by
  unfold aindex; rw [isStr_eq h]
@[simp] theorem aindex_arr (cs : List A) (k : IntKind) (n : Int) : aindex P t (.agg cs) (.int k n) = (arrT P t).bind fun p => if 0 ≤ n ∧ n < p.1 ∧ P.cellsOf p.2 ≠ 0 then apart P p.2 cs (n.toNat * P.cellsOf p.2) else none := by
  unfold aindex arrT
  cases P.underlying t with
  | none => rfl
  | some d => cases d <;> rfl
@[simp] theorem aload_ptr (d : A) : aload P H t (.ptr d) = if P.cellsOf t ≠ 0 ∧ hasU P t = true then (if shp P t d then some d else none) else none := rfl
@[simp] theorem aload_pto (id sz j co : Nat) : aload P H t (.pto id sz j co) = if P.cellsOf t ≠ 0 ∧ hasU P t = true then
    ((H[id]?).bind fun r => if r.live ∧ r.sz = sz then (r.es[j]?).bind fun e =>
        if co = 0 ∧ shp P t e then some e else (match e with | .agg cs => (apart P t cs co).bind fun d => if shp P t d then some d else none | _ => none)
      else none) else none := rfl
@[simp] theorem astore_pto (id sz j co : Nat) (x : A) : astore P H t (.pto id sz j co) x = (H[id]?).bind fun r =>
    if r.live = true ∧ r.sz = sz ∧ r.f ≤ j ∧ x.ncells = P.cellsOf t ∧ P.cellsOf t ≠ 0 then
      (r.es[j]?).bind fun e =>
        if co = 0 ∧ shp P r.ty x then some (H.set id { r with es := r.es.set j x })
        else match e with
          | .agg cs => if co + P.cellsOf t ≤ cs.length then some (H.set id { r with es := r.es.set j (.agg (cs.take co ++ x.cells ++ cs.drop (co + P.cellsOf t))) }) else none
          | _ => none
    else none := rfl
@[simp] theorem aslice_str (s : List UInt8) (lo hi mx : Option A) (h : isStrT P t = true) : aslice P t (.str s) lo hi mx =
    (abnd lo 0).bind fun l => (abnd hi s.length).bind fun h => if mx.isNone ∧ l ≤ h ∧ h ≤ s.length then some (.str ((s.drop l).take (h - l))) else none := by
  unfold aslice; rw [isStr_eq h]
@[simp] theorem aslice_sl (full : Bool) (es : List A) (lo hi mx : Option A) (h : isSliceT P t = true) : aslice P t (.sl full es) lo hi mx =
    (abnd lo 0).bind fun l => (abnd hi es.length).bind fun h => (abnd mx es.length).bind fun m =>
      if P.cellsOf (selem P t) ≠ 0 ∧ l ≤ h ∧ h ≤ m ∧ m ≤ es.length ∧ (mx.isSome → hi.isSome) ∧ (l = 0 ∨ es.all (fun x => x.ncells == P.cellsOf (selem P t))) then
        some (.sl (if mx.isSome then m == h else full && h == es.length) ((es.drop l).take (h - l)))
      else none := by
  unfold aslice; rw [selem_eq h]
@[simp] theorem aslice_own (id off len cb : Nat) (ex : Bool) (lo hi mx : Option A) (h : isSliceT P t = true) : aslice P t (.own id off len cb ex) lo hi mx =
    (abnd lo 0).bind fun l => (abnd hi len).bind fun h => (abnd mx cb).bind fun m =>
      if P.cellsOf (selem P t) ≠ 0 ∧ l ≤ h ∧ h ≤ m ∧ m ≤ cb ∧ (mx.isSome → hi.isSome) then
        some (if cb = 0 ∧ ex = true then .own id off 0 0 true else .own id (off + l) (h - l) (m - l) (ex || mx.isSome))
      else none := by
  unfold aslice; rw [selem_eq h]
@[simp] theorem asrc_sl (f : Bool) (es : List A) : asrc P H t (.sl f es) = if es.all (fun x => shp P t x) then some es else none := rfl
@[simp] theorem asrc_own (id off len cb : Nat) (ex : Bool) : asrc P H t (.own id off len cb ex) = rowK H[id]? (fun r => if r.live = true ∧ r.ty = t ∧ off + len ≤ r.es.length then some (cut off len r.es) else if len = 0 then some [] else none) (if len = 0 then some [] else none) := by
  have e : asrc P H t (.own id off len cb ex) = if len = 0 then some [] else (H[id]?).bind fun r => if r.live = true ∧ r.ty = t ∧ off + len ≤ r.es.length then some (cut off len r.es) else none := rfl
  rw [e]
  by_cases hl : len = 0
  · subst hl
    cases hr : H[id]? with
    | none => simp [rowK]
    | some r => simp [rowK, cut]
  · cases hr : H[id]? with
    | none => simp [rowK, hl]
    | some r => simp [rowK, hl]
@[simp] theorem agrow_sl (full : Bool) (es olds news : List A) : agrow P H t (.sl full es) olds news =
    if news.length = 0 then some (.sl full es, H) else if full then some (.own H.length 0 (olds.length + news.length) (olds.length + news.length) false, H ++ [⟨t, P.cellsOf t, olds ++ news, 0, true⟩]) else none := rfl
@[simp] theorem agrow_own (id off len cb : Nat) (ex : Bool) (olds news : List A) : agrow P H t (.own id off len cb ex) olds news =
    if news.length = 0 then some (.own id off len cb ex, H)
    else if ex && cb == len then some (.own H.length 0 (olds.length + news.length) (olds.length + news.length) false, (if len = 0 then H.set id dead0 else H) ++ [⟨t, P.cellsOf t, olds ++ news, 0, true⟩])
    else (H[id]?).bind fun r =>
      if r.live = true ∧ r.ty = t ∧ off + len ≤ r.es.length then
        if len + news.length ≤ cb ∧ off + len + news.length ≤ r.es.length ∧ r.f ≤ off + len then
          some (.own id off (len + news.length) cb ex, H.set id { r with es := r.es.take (off + len) ++ news ++ r.es.drop (off + len + news.length) })
        else if off + len = r.es.length ∧ r.f ≤ off + len then
          some (.own H.length 0 (olds.length + news.length) (olds.length + news.length) false, H.set id dead0 ++ [⟨t, P.cellsOf t, olds ++ news, r.f - off, true⟩])
        else none
      else none := rfl
@[simp] theorem ownOK_sl (f : Bool) (es : List A) : ownOK P H t (.sl f es) = true := rfl
@[simp] theorem ownOK_str (l : List UInt8) : ownOK P H t (.str l) = true := rfl
@[simp] theorem ownOK_own (id off len cb : Nat) (ex : Bool) : ownOK P H t (.own id off len cb ex) = ((cb == 0 && ex) || (isSliceT P t && match H[id]? with | some r => r.live && r.ty == selem P t | none => false)) := by
  unfold ownOK isSliceT selem
  cases P.underlying t with
  | none => simp
  | some d => cases d <;> cases hr : H[id]? <;> simp [hr]
@[simp] theorem frzR_mk (ty : TypeId) (sz : Nat) (es : List A) (f : Nat) (l : Bool) : frzR ⟨ty, sz, es, f, l⟩ = ⟨ty, sz, es, max f es.length, l⟩ := rfl
end

theorem i64_id {n : Int} (h0 : -9223372036854775808 ≤ n) (h1 : n ≤ 9223372036854775807) : IntKind.i64.wrap n = n := IntWalk.i64_in n ⟨h0, h1⟩

@[simp] theorem wrap_0 : IntKind.i64.wrap 0 = 0 := i64_id (by decide) (by decide)
@[simp] theorem wrap_1 : IntKind.i64.wrap 1 = 1 := i64_id (by decide) (by decide)
@[simp] theorem wrap_m1 : IntKind.i64.wrap (-1) = -1 := i64_id (by decide) (by decide)
@[simp] theorem wrap_n (n : Nat) (h : n ≤ 9223372036854775807) : IntKind.i64.wrap (no_index (OfNat.ofNat n)) = (OfNat.ofNat n : Int) := by
  have e : (OfNat.ofNat n : Int) = (n : Int) := rfl
  rw [e]
  exact i64_id (by omega) (by omega)

@[simp] theorem noidL_append (xs ys : List A) : noidL (xs ++ ys) = (noidL xs && noidL ys) := by
  induction xs with
  | nil => simp
  | cons x xs ih => simp [ih, Bool.and_assoc]

theorem noidL_map {α : Type} (f : α → A) (h : ∀ x, (f x).noid = true) : ∀ l : List α, noidL (l.map f) = true
  | [] => rfl
  | x :: xs => by simp [h x, noidL_map f h xs]

@[simp] theorem noidL_ints (k : IntKind) (l : List Int) : noidL (l.map (A.int k)) = true := noidL_map _ (fun _ => rfl) l
@[simp] theorem noidL_strs (l : List (List UInt8)) : noidL (l.map A.str) = true := noidL_map _ (fun _ => rfl) l

theorem noidL_take {xs : List A} (h : noidL xs = true) : ∀ n, noidL (xs.take n) = true := by
  intro n
  induction xs generalizing n with
  | nil => simp
  | cons x xs ih => cases n with
    | zero => simp
    | succ n => simp at h ⊢; exact ⟨h.1, ih h.2 n⟩

theorem noidL_drop {xs : List A} (h : noidL xs = true) : ∀ n, noidL (xs.drop n) = true := by
  intro n
  induction xs generalizing n with
  | nil => simp
  | cons x xs ih => cases n with
    | zero => simpa using h
    | succ n => simp at h ⊢; exact ih h.2 n
end Go.AL
