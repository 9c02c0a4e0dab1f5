/- An abstract layer over the walk, 13: what simp is to unfold. No program in sight. -/
import Derived.Test.YtmegdnfihhikhaaAlCall
namespace Go.AL
/-! What simp is to look into, and what not: a continuation waits till its state is there. -/
section
variable {P : Program} {X : Ctx}
@[congr] theorem vc_congr {c : Code} {Q : AX → S → Prop} {s s' : S} (e : s = s') : vc P X c Q s = vc P X c Q s' := by rw [e]
@[congr] theorem awp_congr {c : Code} {Q : AX → S → Prop} {s s' : S} (e : s = s') : awp P X c Q s = awp P X c Q s' := by rw [e]
@[congr] theorem vcOps_congr {ops : Array Oper} {Q : AX → S → Prop} {l : List Oper} {s s' : S} (e : s = s') : vcOps P ops Q l s = vcOps P ops Q l s' := by rw [e]
@[congr] theorem vcQ_congr {ops : Array Oper} {Q : S → Prop} {l : List Oper} {s s' : S} (e : s = s') : vcQ P ops Q l s = vcQ P ops Q l s' := by rw [e]
@[congr] theorem stepK_congr {o : Oper} {K : S → Prop} {s s' : S} (e : s = s') : stepK P o K s = stepK P o K s' := by rw [e]
@[congr] theorem stepQ_congr {o : Oper} {K : S → Prop} {s s' : S} (e : s = s') : stepQ P o K s = stepQ P o K s' := by rw [e]
@[congr] theorem obind_congr {α : Type} {x x' : Option α} {K : α → Prop} (e : x = x') : obind x K = obind x' K := by rw [e]
@[congr] theorem finK_congr {d : Option Tmp} {K : S → Prop} {t t' : List A} {y y' : A × List Row} (e1 : t = t') (e2 : y = y') : finK d K t y = finK d K t' y' := by rw [e1, e2]
@[congr] theorem aftK_congr {d : Option Tmp} {K : S → Prop} {t t' : List A} {r r' : A} {H H' : List Row} (e1 : t = t') (e2 : r = r') (e3 : H = H') : aftK d K t r H = aftK d K t' r' H' := by rw [e1, e2, e3]
@[congr] theorem thenK_congr {f : S → Prop} {Q : AX → S → Prop} {x x' : AX} {s s' : S} (e1 : x = x') (e2 : s = s') : thenK f Q x s = thenK f Q x' s' := by rw [e1, e2]
@[congr] theorem blockK_congr {id : Nat} {Q : AX → S → Prop} {x x' : AX} {s s' : S} (e1 : x = x') (e2 : s = s') : blockK id Q x s = blockK id Q x' s' := by rw [e1, e2]
@[congr] theorem condK_congr {c c' : A} {p q : Prop} (e : c = c') : condK c p q = condK c' p q := by rw [e]
@[congr] theorem callK_congr {f f' : A} {as as' : List A} {d : Option Tmp} {K : S → Prop} {s s' : S} (e1 : f = f') (e2 : as = as') (e3 : s = s') : callK P f as d K s = callK P f' as' d K s' := by rw [e1, e2, e3]
@[congr] theorem callQ_congr {f f' : A} {as as' : List A} {d : Option Tmp} {K : S → Prop} {s s' : S} (e1 : f = f') (e2 : as = as') (e3 : s = s') : callQ P f as d K s = callQ P f' as' d K s' := by rw [e1, e2, e3]
@[congr] theorem XCall_congr {f : FuncId} {as as' : List A} {H H' : List Row} {K : A → List Row → Prop} (e1 : as = as') (e2 : H = H') : XCall P f as H K = XCall P f as' H' K := by rw [e1, e2]
end

/-- A guard: what it reads is put down, so that the next one with the same guard needs no second split. -/
def gK (g : A) (i : Option Tmp) (want : Bool) (d : Option Tmp) (p q : S → Prop) (s : S) : Prop :=
  match g with
  | .bool b => (b = want → p ⟨AL.put s.t i (.bool want), s.h⟩) ∧ (b = !want → q ⟨AL.put (AL.put s.t i (.bool (!want))) d .any, s.h⟩)
  | _ => False

@[congr] theorem gK_congr {g g' : A} {i : Option Tmp} {want : Bool} {d : Option Tmp} {p q : S → Prop} {s s' : S} (e1 : g = g') (e2 : s = s') : gK g i want d p q s = gK g' i want d p q s' := by rw [e1, e2]
@[simp] theorem gK_tt (i : Option Tmp) (d : Option Tmp) (p q : S → Prop) (s : S) : gK (.bool true) i true d p q s = p ⟨AL.put s.t i (.bool true), s.h⟩ := by simp [gK]
@[simp] theorem gK_ff (i : Option Tmp) (d : Option Tmp) (p q : S → Prop) (s : S) : gK (.bool false) i false d p q s = p ⟨AL.put s.t i (.bool false), s.h⟩ := by simp [gK]
@[simp] theorem gK_tf (i : Option Tmp) (d : Option Tmp) (p q : S → Prop) (s : S) : gK (.bool true) i false d p q s = q ⟨AL.put (AL.put s.t i (.bool true)) d .any, s.h⟩ := by simp [gK]
@[simp] theorem gK_ft (i : Option Tmp) (d : Option Tmp) (p q : S → Prop) (s : S) : gK (.bool false) i true d p q s = q ⟨AL.put (AL.put s.t i (.bool false)) d .any, s.h⟩ := by simp [gK]
@[simp low] theorem gK_bool (b : Bool) (i : Option Tmp) (want : Bool) (d : Option Tmp) (p q : S → Prop) (s : S) : gK (.bool b) i want d p q s = ((b = want → p ⟨AL.put s.t i (.bool want), s.h⟩) ∧ (b = !want → q ⟨AL.put (AL.put s.t i (.bool (!want))) d .any, s.h⟩)) := by rw [gK]

theorem put_same {t : List A} {d : Nat} {b : Bool} (h : t.getD d .any = .bool b) : AL.put t (some d) (.bool b) = t := by
  show t.set d (.bool b) = t
  by_cases hd : d < t.length
  · rw [List.getD_eq_getElem?_getD, List.getElem?_eq_getElem hd] at h
    simp only [Option.getD_some] at h
    rw [← h]
    exact List.set_getElem_self hd
  · rw [List.set_eq_of_length_le (by omega)]

theorem gK_eq (ops : Array Oper) (j : Nat) (want : Bool) (d : Option Tmp) (p q : S → Prop) (s : S) : gK (gval ops s.t j) ((ops[j]?).bind (·.dst)) want d p q s = guardK (gval ops s.t j) want (p s) (q ⟨AL.put s.t d .any, s.h⟩) := by
  unfold gK guardK
  cases hg : gval ops s.t j with
  | bool b =>
    simp only
    unfold gval at hg
    cases hd : (ops[j]?).bind (·.dst) with
    | none => rw [hd] at hg; cases hg
    | some i =>
      rw [hd] at hg
      have e := put_same hg
      apply propext
      constructor
      · rintro ⟨h1, h2⟩
        exact ⟨fun e' => by subst e'; have := h1 rfl; rwa [e] at this, fun e' => by subst e'; have := h2 rfl; rwa [e] at this⟩
      · rintro ⟨h1, h2⟩
        exact ⟨fun e' => by subst e'; rw [e]; exact h1 rfl, fun e' => by subst e'; rw [e]; exact h2 rfl⟩
  | _ => rfl

/-! The steps of the condition, as equations that are no matter of unfolding (else the kernel is to find the way by itself). -/
section
variable (P : Program) (X : Ctx) (Q : AX → S → Prop) (s : S)
@[simp] theorem vc_skip : vc P X .skip Q s = Q .normal s := by rw [vc]
@[simp] theorem vc_region (id : Nat) (ops : List Oper) : vc P X (.region id ops.toArray false) Q s = vcOps P ops.toArray Q ops s := by rw [vc]
@[simp] theorem vc_seq (x y : Code) : vc P X (.seq x y) Q s = vc P X x (thenK (vc P X y Q) Q) s := by rw [vc]
@[simp] theorem vc_cond (c : Operand) (x y : Code) : vc P X (.cond c x y) Q s = condK (ev s.t c) (vc P X x Q s) (vc P X y Q s) := by rw [vc]
@[simp] theorem vc_block (id : Nat) (c : Code) : vc P X (.block id c) Q s = vc P X c (blockK id Q) s := by rw [vc]
@[simp] theorem vc_exit (id : Nat) : vc P X (.exit id) Q s = Q (.exit id) s := by rw [vc]
@[simp] theorem vc_ret : vc P X .ret Q s = Q .ret s := by rw [vc]
@[simp] theorem vc_loop (c : Code) : vc P X (.loop c) Q s = awp P X (.loop c) Q s := by rw [vc] <;> simp
@[simp] theorem vc_draw (id : Nat) (ops : List Oper) : vc P X (.region id ops.toArray true) Q s = if pureB ops = true then vcQ P ops.toArray (Q .normal) ops s else awp P X (.region id ops.toArray true) Q s := by rw [vc]
@[simp] theorem vcQ_nil (ops : Array Oper) (Q : S → Prop) : vcQ P ops Q [] s = Q s := by rw [vcQ]
@[simp] theorem vcQ_plain (ops : Array Oper) (Q : S → Prop) (d : Option Tmp) (op : Op) (ty : TypeId) (pos : String) (aft : Array Edge) (rest : List Oper) : vcQ P ops Q (⟨d, op, ty, pos, aft, none⟩ :: rest) s = stepQ P ⟨d, op, ty, pos, aft, none⟩ (vcQ P ops Q rest) s := by rw [vcQ]
@[simp] theorem vcQ_guard (ops : Array Oper) (Q : S → Prop) (d : Option Tmp) (op : Op) (ty : TypeId) (pos : String) (aft : Array Edge) (j : Nat) (want : Bool) (rest : List Oper) : vcQ P ops Q (⟨d, op, ty, pos, aft, some (j, want)⟩ :: rest) s = gK (gval ops s.t j) ((ops[j]?).bind (·.dst)) want d (stepQ P ⟨d, op, ty, pos, aft, some (j, want)⟩ (vcQ P ops Q rest)) (vcQ P ops Q rest) s := by rw [gK_eq, vcQ]
@[simp] theorem callQ_fn (fid : FuncId) (caps args : List A) (d : Option Tmp) (K : S → Prop) : callQ P (.fn fid caps) args d K s = (noidL (args ++ caps) = true ∧ ∃ r, ECall P fid (args ++ caps) r ∧ K ⟨put s.t d r, s.h⟩) := by rw [callQ]
@[simp] theorem thenK_normal (f : S → Prop) : thenK f Q .normal s = f s := by rw [thenK]
@[simp] theorem thenK_exit (f : S → Prop) (id : Nat) : thenK f Q (.exit id) s = Q (.exit id) s := by simp only [thenK]
@[simp] theorem thenK_ret (f : S → Prop) : thenK f Q .ret s = Q .ret s := by simp only [thenK]
@[simp] theorem blockK_normal (id : Nat) : blockK id Q .normal s = Q .normal s := by simp only [blockK]
@[simp] theorem blockK_ret (id : Nat) : blockK id Q .ret s = Q .ret s := by simp only [blockK]
@[simp] theorem blockK_exit (id id' : Nat) : blockK id Q (.exit id') s = if id' = id then Q .normal s else Q (.exit id') s := by rw [blockK]
@[simp] theorem vcOps_nil (ops : Array Oper) : vcOps P ops Q [] s = Q .normal s := by rw [vcOps]
@[simp] theorem vcOps_plain (ops : Array Oper) (d : Option Tmp) (op : Op) (ty : TypeId) (pos : String) (aft : Array Edge) (rest : List Oper) : vcOps P ops Q (⟨d, op, ty, pos, aft, none⟩ :: rest) s = stepK P ⟨d, op, ty, pos, aft, none⟩ (vcOps P ops Q rest) s := by rw [vcOps]
@[simp] theorem vcOps_guard (ops : Array Oper) (d : Option Tmp) (op : Op) (ty : TypeId) (pos : String) (aft : Array Edge) (j : Nat) (want : Bool) (rest : List Oper) : vcOps P ops Q (⟨d, op, ty, pos, aft, some (j, want)⟩ :: rest) s = gK (gval ops s.t j) ((ops[j]?).bind (·.dst)) want d (stepK P ⟨d, op, ty, pos, aft, some (j, want)⟩ (vcOps P ops Q rest)) (vcOps P ops Q rest) s := by rw [gK_eq, vcOps]
@[simp] theorem obind_some {α : Type} (x : α) (K : α → Prop) : obind (some x) K = K x := by rw [obind]
@[simp] theorem obind_none {α : Type} (K : α → Prop) : obind none K = False := by rw [obind]
@[simp] theorem obind_ite {α : Type} (c : Prop) [Decidable c] (x : Option α) (K : α → Prop) : obind (if c then x else none) K = (c ∧ obind x K) := by
  by_cases h : c <;> simp [h]
@[simp] theorem finK_mk (d : Option Tmp) (K : S → Prop) (t : List A) (r : A) (H : List Row) : finK d K t (r, H) = K ⟨put t d r, H⟩ := by rw [finK]
@[simp] theorem aftK_mk (d : Option Tmp) (K : S → Prop) (t : List A) (r : A) (H : List Row) : aftK d K t r H = K ⟨put t d r, H⟩ := by rw [aftK]
@[simp] theorem condK_true (p q : Prop) : condK (.bool true) p q = p := by simp [condK]
@[simp] theorem condK_false (p q : Prop) : condK (.bool false) p q = q := by simp [condK]
@[simp low] theorem condK_bool (b : Bool) (p q : Prop) : condK (.bool b) p q = ((b = true → p) ∧ (b = false → q)) := by rw [condK]
@[simp] theorem guardK_bool (b w : Bool) (p q : Prop) : guardK (.bool b) w p q = ((b = w → p) ∧ (b = !w → q)) := by rw [guardK]
@[simp] theorem callK_fn (fid : FuncId) (caps args : List A) (d : Option Tmp) (K : S → Prop) : callK P (.fn fid caps) args d K s = XCall P fid (args ++ caps) s.h (aftK d K s.t) := by rw [callK]
@[simp] theorem retX_normal (rs : Array ResultVar) (R : A → List Row → Prop) : retX P rs R .normal s = obind (ares P s.h s.t rs) fun r => R r s.h := by rw [retX] <;> simp
@[simp] theorem retX_ret (rs : Array ResultVar) (R : A → List Row → Prop) : retX P rs R .ret s = obind (ares P s.h s.t rs) fun r => R r s.h := by rw [retX] <;> simp
@[simp] theorem retF_normal (rs : Array ResultVar) (R : A → Prop) : retF P rs R .normal s = obind (ares P s.h s.t rs) fun r => obind (resA P s.h 4 r) R := by rw [retF] <;> simp
@[simp] theorem retF_ret (rs : Array ResultVar) (R : A → Prop) : retF P rs R .ret s = obind (ares P s.h s.t rs) fun r => obind (resA P s.h 4 r) R := by rw [retF] <;> simp
end
@[simp] theorem stepK_move (P : Program) (d : Option Tmp) (x : Operand) (ty : TypeId) (pos : String) (aft : Array Edge) (g : Option (Nat × Bool)) (K : S → Prop) (t0 : List A) (H0 : List Row) : stepK P ⟨d, .move x, ty, pos, aft, g⟩ K ⟨t0, H0⟩ = obind (aop P H0 (ev t0) (.move x)) (finK d K t0) := by rw [stepK]
@[simp] theorem stepK_assign (P : Program) (d : Option Tmp) (x : Operand) (ty : TypeId) (pos : String) (aft : Array Edge) (g : Option (Nat × Bool)) (K : S → Prop) (t0 : List A) (H0 : List Row) : stepK P ⟨d, .assign x, ty, pos, aft, g⟩ K ⟨t0, H0⟩ = obind (aop P H0 (ev t0) (.assign x)) (finK d K t0) := by rw [stepK]
@[simp] theorem stepK_pick (P : Program) (d : Option Tmp) (c a b : Operand) (ty : TypeId) (pos : String) (aft : Array Edge) (g : Option (Nat × Bool)) (K : S → Prop) (t0 : List A) (H0 : List Row) : stepK P ⟨d, .pick c a b, ty, pos, aft, g⟩ K ⟨t0, H0⟩ = obind (aop P H0 (ev t0) (.pick c a b)) (finK d K t0) := by rw [stepK]
@[simp] theorem stepK_binOp (P : Program) (d : Option Tmp) (b : BinOp) (t : TypeId) (x y : Operand) (u : TypeId) (ty : TypeId) (pos : String) (aft : Array Edge) (g : Option (Nat × Bool)) (K : S → Prop) (t0 : List A) (H0 : List Row) : stepK P ⟨d, .binOp b t x y u, ty, pos, aft, g⟩ K ⟨t0, H0⟩ = obind (aop P H0 (ev t0) (.binOp b t x y u)) (finK d K t0) := by rw [stepK]
@[simp] theorem stepK_unOp (P : Program) (d : Option Tmp) (b : UnOp) (t : TypeId) (x : Operand) (ty : TypeId) (pos : String) (aft : Array Edge) (g : Option (Nat × Bool)) (K : S → Prop) (t0 : List A) (H0 : List Row) : stepK P ⟨d, .unOp b t x, ty, pos, aft, g⟩ K ⟨t0, H0⟩ = obind (aop P H0 (ev t0) (.unOp b t x)) (finK d K t0) := by rw [stepK]
@[simp] theorem stepK_convert (P : Program) (d : Option Tmp) (a b : TypeId) (x : Operand) (ty : TypeId) (pos : String) (aft : Array Edge) (g : Option (Nat × Bool)) (K : S → Prop) (t0 : List A) (H0 : List Row) : stepK P ⟨d, .convert a b x, ty, pos, aft, g⟩ K ⟨t0, H0⟩ = obind (aop P H0 (ev t0) (.convert a b x)) (finK d K t0) := by rw [stepK]
@[simp] theorem stepK_indexAddr (P : Program) (d : Option Tmp) (t : TypeId) (x i : Operand) (ty : TypeId) (pos : String) (aft : Array Edge) (g : Option (Nat × Bool)) (K : S → Prop) (t0 : List A) (H0 : List Row) : stepK P ⟨d, .indexAddr t x i, ty, pos, aft, g⟩ K ⟨t0, H0⟩ = obind (aop P H0 (ev t0) (.indexAddr t x i)) (finK d K t0) := by rw [stepK]
@[simp] theorem stepK_index (P : Program) (d : Option Tmp) (t : TypeId) (x i : Operand) (ty : TypeId) (pos : String) (aft : Array Edge) (g : Option (Nat × Bool)) (K : S → Prop) (t0 : List A) (H0 : List Row) : stepK P ⟨d, .index t x i, ty, pos, aft, g⟩ K ⟨t0, H0⟩ = obind (aop P H0 (ev t0) (.index t x i)) (finK d K t0) := by rw [stepK]
@[simp] theorem stepK_load (P : Program) (d : Option Tmp) (t : TypeId) (x : Operand) (ty : TypeId) (pos : String) (aft : Array Edge) (g : Option (Nat × Bool)) (K : S → Prop) (t0 : List A) (H0 : List Row) : stepK P ⟨d, .load t x, ty, pos, aft, g⟩ K ⟨t0, H0⟩ = obind (aop P H0 (ev t0) (.load t x)) (finK d K t0) := by rw [stepK]
@[simp] theorem stepK_store (P : Program) (d : Option Tmp) (t : TypeId) (p x : Operand) (ty : TypeId) (pos : String) (aft : Array Edge) (g : Option (Nat × Bool)) (K : S → Prop) (t0 : List A) (H0 : List Row) : stepK P ⟨d, .store t p x, ty, pos, aft, g⟩ K ⟨t0, H0⟩ = obind (aop P H0 (ev t0) (.store t p x)) (finK d K t0) := by rw [stepK]
@[simp] theorem stepK_fieldAddr (P : Program) (d : Option Tmp) (t : TypeId) (x : Operand) (f : Nat) (ty : TypeId) (pos : String) (aft : Array Edge) (g : Option (Nat × Bool)) (K : S → Prop) (t0 : List A) (H0 : List Row) : stepK P ⟨d, .fieldAddr t x f, ty, pos, aft, g⟩ K ⟨t0, H0⟩ = obind (aop P H0 (ev t0) (.fieldAddr t x f)) (finK d K t0) := by rw [stepK]
@[simp] theorem stepK_field (P : Program) (d : Option Tmp) (t : TypeId) (x : Operand) (f : Nat) (ty : TypeId) (pos : String) (aft : Array Edge) (g : Option (Nat × Bool)) (K : S → Prop) (t0 : List A) (H0 : List Row) : stepK P ⟨d, .field t x f, ty, pos, aft, g⟩ K ⟨t0, H0⟩ = obind (aop P H0 (ev t0) (.field t x f)) (finK d K t0) := by rw [stepK]
@[simp] theorem stepK_extract (P : Program) (d : Option Tmp) (x : Operand) (i : Nat) (ty : TypeId) (pos : String) (aft : Array Edge) (g : Option (Nat × Bool)) (K : S → Prop) (t0 : List A) (H0 : List Row) : stepK P ⟨d, .extract x i, ty, pos, aft, g⟩ K ⟨t0, H0⟩ = obind (aop P H0 (ev t0) (.extract x i)) (finK d K t0) := by rw [stepK]
@[simp] theorem stepK_slice (P : Program) (d : Option Tmp) (t : TypeId) (x : Operand) (lo hi mx : Option Operand) (ty : TypeId) (pos : String) (aft : Array Edge) (g : Option (Nat × Bool)) (K : S → Prop) (t0 : List A) (H0 : List Row) : stepK P ⟨d, .slice t x lo hi mx, ty, pos, aft, g⟩ K ⟨t0, H0⟩ = obind (aop P H0 (ev t0) (.slice t x lo hi mx)) (finK d K t0) := by rw [stepK]
@[simp] theorem stepK_nilCheck (P : Program) (d : Option Tmp) (x : Operand) (ty : TypeId) (pos : String) (aft : Array Edge) (g : Option (Nat × Bool)) (K : S → Prop) (t0 : List A) (H0 : List Row) : stepK P ⟨d, .nilCheck x, ty, pos, aft, g⟩ K ⟨t0, H0⟩ = obind (aop P H0 (ev t0) (.nilCheck x)) (finK d K t0) := by rw [stepK]
@[simp] theorem stepK_build (P : Program) (d : Option Tmp) (t : TypeId) (ps : Array (Nat × Operand)) (ty : TypeId) (pos : String) (aft : Array Edge) (g : Option (Nat × Bool)) (K : S → Prop) (t0 : List A) (H0 : List Row) : stepK P ⟨d, .build t ps, ty, pos, aft, g⟩ K ⟨t0, H0⟩ = obind (aop P H0 (ev t0) (.build t ps)) (finK d K t0) := by rw [stepK]
@[simp] theorem stepK_buildSlice (P : Program) (d : Option Tmp) (t : TypeId) (n : Nat) (ps : Array (Nat × Operand)) (ty : TypeId) (pos : String) (aft : Array Edge) (g : Option (Nat × Bool)) (K : S → Prop) (t0 : List A) (H0 : List Row) : stepK P ⟨d, .buildSlice t n ps, ty, pos, aft, g⟩ K ⟨t0, H0⟩ = obind (aop P H0 (ev t0) (.buildSlice t n ps)) (finK d K t0) := by rw [stepK]
@[simp] theorem stepK_box (P : Program) (d : Option Tmp) (t : TypeId) (x : Operand) (ty : TypeId) (pos : String) (aft : Array Edge) (g : Option (Nat × Bool)) (K : S → Prop) (t0 : List A) (H0 : List Row) : stepK P ⟨d, .box t x, ty, pos, aft, g⟩ K ⟨t0, H0⟩ = obind (aop P H0 (ev t0) (.box t x)) (finK d K t0) := by rw [stepK]
@[simp] theorem stepK_alloc (P : Program) (d : Option Tmp) (t : TypeId) (ty : TypeId) (pos : String) (aft : Array Edge) (g : Option (Nat × Bool)) (K : S → Prop) (t0 : List A) (H0 : List Row) : stepK P ⟨d, .alloc t, ty, pos, aft, g⟩ K ⟨t0, H0⟩ = obind (aop P H0 (ev t0) (.alloc t)) (finK d K t0) := by rw [stepK]
@[simp] theorem stepK_makeSlice (P : Program) (d : Option Tmp) (t : TypeId) (l c : Operand) (ty : TypeId) (pos : String) (aft : Array Edge) (g : Option (Nat × Bool)) (K : S → Prop) (t0 : List A) (H0 : List Row) : stepK P ⟨d, .makeSlice t l c, ty, pos, aft, g⟩ K ⟨t0, H0⟩ = obind (aop P H0 (ev t0) (.makeSlice t l c)) (finK d K t0) := by rw [stepK]
@[simp] theorem stepK_makeFunc (P : Program) (d : Option Tmp) (fn : Fn) (a c : Array Operand) (ty : TypeId) (pos : String) (aft : Array Edge) (g : Option (Nat × Bool)) (K : S → Prop) (t0 : List A) (H0 : List Row) : stepK P ⟨d, .makeFunc fn a c, ty, pos, aft, g⟩ K ⟨t0, H0⟩ = obind (aop P H0 (ev t0) (.makeFunc fn a c)) (finK d K t0) := by rw [stepK]
@[simp] theorem stepK_call (P : Program) (d : Option Tmp) (f : Operand) (as : Array Operand) (ts : Array TypeId) (ty : TypeId) (pos : String) (aft : Array Edge) (g : Option (Nat × Bool)) (K : S → Prop) (t0 : List A) (H0 : List Row) : stepK P ⟨d, .call ⟨.value f, as, ts⟩, ty, pos, aft, g⟩ K ⟨t0, H0⟩ = callK P (ev t0 f) (as.toList.map (ev t0)) d K ⟨t0, H0⟩ := by rw [stepK]
@[simp] theorem stepK_builtin (P : Program) (d : Option Tmp) (b : Builtin) (as : Array Operand) (ts : Array TypeId) (ty : TypeId) (pos : String) (aft : Array Edge) (g : Option (Nat × Bool)) (K : S → Prop) (t0 : List A) (H0 : List Row) : stepK P ⟨d, .call ⟨.builtin b, as, ts⟩, ty, pos, aft, g⟩ K ⟨t0, H0⟩ = obind (abuiltin P H0 b ts (as.toList.map (ev t0))) (finK d K t0) := by
  simp only [stepK, aop]

@[simp] theorem stepQ_move (P : Program) (d : Option Tmp) (x : Operand) (ty : TypeId) (pos : String) (aft : Array Edge) (g : Option (Nat × Bool)) (K : S → Prop) (t0 : List A) (H0 : List Row) : stepQ P ⟨d, .move x, ty, pos, aft, g⟩ K ⟨t0, H0⟩ = obind (aop P H0 (ev t0) (.move x)) (finK d K t0) := by rw [stepQ]
@[simp] theorem stepQ_assign (P : Program) (d : Option Tmp) (x : Operand) (ty : TypeId) (pos : String) (aft : Array Edge) (g : Option (Nat × Bool)) (K : S → Prop) (t0 : List A) (H0 : List Row) : stepQ P ⟨d, .assign x, ty, pos, aft, g⟩ K ⟨t0, H0⟩ = obind (aop P H0 (ev t0) (.assign x)) (finK d K t0) := by rw [stepQ]
@[simp] theorem stepQ_pick (P : Program) (d : Option Tmp) (c a b : Operand) (ty : TypeId) (pos : String) (aft : Array Edge) (g : Option (Nat × Bool)) (K : S → Prop) (t0 : List A) (H0 : List Row) : stepQ P ⟨d, .pick c a b, ty, pos, aft, g⟩ K ⟨t0, H0⟩ = obind (aop P H0 (ev t0) (.pick c a b)) (finK d K t0) := by rw [stepQ]
@[simp] theorem stepQ_binOp (P : Program) (d : Option Tmp) (b : BinOp) (t : TypeId) (x y : Operand) (u : TypeId) (ty : TypeId) (pos : String) (aft : Array Edge) (g : Option (Nat × Bool)) (K : S → Prop) (t0 : List A) (H0 : List Row) : stepQ P ⟨d, .binOp b t x y u, ty, pos, aft, g⟩ K ⟨t0, H0⟩ = obind (aop P H0 (ev t0) (.binOp b t x y u)) (finK d K t0) := by rw [stepQ]
@[simp] theorem stepQ_unOp (P : Program) (d : Option Tmp) (b : UnOp) (t : TypeId) (x : Operand) (ty : TypeId) (pos : String) (aft : Array Edge) (g : Option (Nat × Bool)) (K : S → Prop) (t0 : List A) (H0 : List Row) : stepQ P ⟨d, .unOp b t x, ty, pos, aft, g⟩ K ⟨t0, H0⟩ = obind (aop P H0 (ev t0) (.unOp b t x)) (finK d K t0) := by rw [stepQ]
@[simp] theorem stepQ_convert (P : Program) (d : Option Tmp) (a b : TypeId) (x : Operand) (ty : TypeId) (pos : String) (aft : Array Edge) (g : Option (Nat × Bool)) (K : S → Prop) (t0 : List A) (H0 : List Row) : stepQ P ⟨d, .convert a b x, ty, pos, aft, g⟩ K ⟨t0, H0⟩ = obind (aop P H0 (ev t0) (.convert a b x)) (finK d K t0) := by rw [stepQ]
@[simp] theorem stepQ_indexAddr (P : Program) (d : Option Tmp) (t : TypeId) (x i : Operand) (ty : TypeId) (pos : String) (aft : Array Edge) (g : Option (Nat × Bool)) (K : S → Prop) (t0 : List A) (H0 : List Row) : stepQ P ⟨d, .indexAddr t x i, ty, pos, aft, g⟩ K ⟨t0, H0⟩ = obind (aop P H0 (ev t0) (.indexAddr t x i)) (finK d K t0) := by rw [stepQ]
@[simp] theorem stepQ_index (P : Program) (d : Option Tmp) (t : TypeId) (x i : Operand) (ty : TypeId) (pos : String) (aft : Array Edge) (g : Option (Nat × Bool)) (K : S → Prop) (t0 : List A) (H0 : List Row) : stepQ P ⟨d, .index t x i, ty, pos, aft, g⟩ K ⟨t0, H0⟩ = obind (aop P H0 (ev t0) (.index t x i)) (finK d K t0) := by rw [stepQ]
@[simp] theorem stepQ_load (P : Program) (d : Option Tmp) (t : TypeId) (x : Operand) (ty : TypeId) (pos : String) (aft : Array Edge) (g : Option (Nat × Bool)) (K : S → Prop) (t0 : List A) (H0 : List Row) : stepQ P ⟨d, .load t x, ty, pos, aft, g⟩ K ⟨t0, H0⟩ = obind (aop P H0 (ev t0) (.load t x)) (finK d K t0) := by rw [stepQ]
@[simp] theorem stepQ_store (P : Program) (d : Option Tmp) (t : TypeId) (p x : Operand) (ty : TypeId) (pos : String) (aft : Array Edge) (g : Option (Nat × Bool)) (K : S → Prop) (t0 : List A) (H0 : List Row) : stepQ P ⟨d, .store t p x, ty, pos, aft, g⟩ K ⟨t0, H0⟩ = obind (aop P H0 (ev t0) (.store t p x)) (finK d K t0) := by rw [stepQ]
@[simp] theorem stepQ_fieldAddr (P : Program) (d : Option Tmp) (t : TypeId) (x : Operand) (f : Nat) (ty : TypeId) (pos : String) (aft : Array Edge) (g : Option (Nat × Bool)) (K : S → Prop) (t0 : List A) (H0 : List Row) : stepQ P ⟨d, .fieldAddr t x f, ty, pos, aft, g⟩ K ⟨t0, H0⟩ = obind (aop P H0 (ev t0) (.fieldAddr t x f)) (finK d K t0) := by rw [stepQ]
@[simp] theorem stepQ_field (P : Program) (d : Option Tmp) (t : TypeId) (x : Operand) (f : Nat) (ty : TypeId) (pos : String) (aft : Array Edge) (g : Option (Nat × Bool)) (K : S → Prop) (t0 : List A) (H0 : List Row) : stepQ P ⟨d, .field t x f, ty, pos, aft, g⟩ K ⟨t0, H0⟩ = obind (aop P H0 (ev t0) (.field t x f)) (finK d K t0) := by rw [stepQ]
@[simp] theorem stepQ_extract (P : Program) (d : Option Tmp) (x : Operand) (i : Nat) (ty : TypeId) (pos : String) (aft : Array Edge) (g : Option (Nat × Bool)) (K : S → Prop) (t0 : List A) (H0 : List Row) : stepQ P ⟨d, .extract x i, ty, pos, aft, g⟩ K ⟨t0, H0⟩ = obind (aop P H0 (ev t0) (.extract x i)) (finK d K t0) := by rw [stepQ]
@[simp] theorem stepQ_slice (P : Program) (d : Option Tmp) (t : TypeId) (x : Operand) (lo hi mx : Option Operand) (ty : TypeId) (pos : String) (aft : Array Edge) (g : Option (Nat × Bool)) (K : S → Prop) (t0 : List A) (H0 : List Row) : stepQ P ⟨d, .slice t x lo hi mx, ty, pos, aft, g⟩ K ⟨t0, H0⟩ = obind (aop P H0 (ev t0) (.slice t x lo hi mx)) (finK d K t0) := by rw [stepQ]
@[simp] theorem stepQ_nilCheck (P : Program) (d : Option Tmp) (x : Operand) (ty : TypeId) (pos : String) (aft : Array Edge) (g : Option (Nat × Bool)) (K : S → Prop) (t0 : List A) (H0 : List Row) : stepQ P ⟨d, .nilCheck x, ty, pos, aft, g⟩ K ⟨t0, H0⟩ = obind (aop P H0 (ev t0) (.nilCheck x)) (finK d K t0) := by rw [stepQ]
@[simp] theorem stepQ_build (P : Program) (d : Option Tmp) (t : TypeId) (ps : Array (Nat × Operand)) (ty : TypeId) (pos : String) (aft : Array Edge) (g : Option (Nat × Bool)) (K : S → Prop) (t0 : List A) (H0 : List Row) : stepQ P ⟨d, .build t ps, ty, pos, aft, g⟩ K ⟨t0, H0⟩ = obind (aop P H0 (ev t0) (.build t ps)) (finK d K t0) := by rw [stepQ]
@[simp] theorem stepQ_buildSlice (P : Program) (d : Option Tmp) (t : TypeId) (n : Nat) (ps : Array (Nat × Operand)) (ty : TypeId) (pos : String) (aft : Array Edge) (g : Option (Nat × Bool)) (K : S → Prop) (t0 : List A) (H0 : List Row) : stepQ P ⟨d, .buildSlice t n ps, ty, pos, aft, g⟩ K ⟨t0, H0⟩ = obind (aop P H0 (ev t0) (.buildSlice t n ps)) (finK d K t0) := by rw [stepQ]
@[simp] theorem stepQ_box (P : Program) (d : Option Tmp) (t : TypeId) (x : Operand) (ty : TypeId) (pos : String) (aft : Array Edge) (g : Option (Nat × Bool)) (K : S → Prop) (t0 : List A) (H0 : List Row) : stepQ P ⟨d, .box t x, ty, pos, aft, g⟩ K ⟨t0, H0⟩ = obind (aop P H0 (ev t0) (.box t x)) (finK d K t0) := by rw [stepQ]
@[simp] theorem stepQ_alloc (P : Program) (d : Option Tmp) (t : TypeId) (ty : TypeId) (pos : String) (aft : Array Edge) (g : Option (Nat × Bool)) (K : S → Prop) (t0 : List A) (H0 : List Row) : stepQ P ⟨d, .alloc t, ty, pos, aft, g⟩ K ⟨t0, H0⟩ = obind (aop P H0 (ev t0) (.alloc t)) (finK d K t0) := by rw [stepQ]
@[simp] theorem stepQ_makeSlice (P : Program) (d : Option Tmp) (t : TypeId) (l c : Operand) (ty : TypeId) (pos : String) (aft : Array Edge) (g : Option (Nat × Bool)) (K : S → Prop) (t0 : List A) (H0 : List Row) : stepQ P ⟨d, .makeSlice t l c, ty, pos, aft, g⟩ K ⟨t0, H0⟩ = obind (aop P H0 (ev t0) (.makeSlice t l c)) (finK d K t0) := by rw [stepQ]
@[simp] theorem stepQ_makeFunc (P : Program) (d : Option Tmp) (fn : Fn) (a c : Array Operand) (ty : TypeId) (pos : String) (aft : Array Edge) (g : Option (Nat × Bool)) (K : S → Prop) (t0 : List A) (H0 : List Row) : stepQ P ⟨d, .makeFunc fn a c, ty, pos, aft, g⟩ K ⟨t0, H0⟩ = obind (aop P H0 (ev t0) (.makeFunc fn a c)) (finK d K t0) := by rw [stepQ]
@[simp] theorem stepQ_call (P : Program) (d : Option Tmp) (f : Operand) (as : Array Operand) (ts : Array TypeId) (ty : TypeId) (pos : String) (aft : Array Edge) (g : Option (Nat × Bool)) (K : S → Prop) (t0 : List A) (H0 : List Row) : stepQ P ⟨d, .call ⟨.value f, as, ts⟩, ty, pos, aft, g⟩ K ⟨t0, H0⟩ = callQ P (ev t0 f) (as.toList.map (ev t0)) d K ⟨t0, H0⟩ := by rw [stepQ]
@[simp] theorem stepQ_builtin (P : Program) (d : Option Tmp) (b : Builtin) (as : Array Operand) (ts : Array TypeId) (ty : TypeId) (pos : String) (aft : Array Edge) (g : Option (Nat × Bool)) (K : S → Prop) (t0 : List A) (H0 : List Row) : stepQ P ⟨d, .call ⟨.builtin b, as, ts⟩, ty, pos, aft, g⟩ K ⟨t0, H0⟩ = obind (abuiltin P H0 b ts (as.toList.map (ev t0))) (finK d K t0) := by
  simp only [stepQ, aop]

attribute [simp] pureB pureOp aop put ev ofV ofV1 abin aint astr abuiltin alen aidx aload shp A.ncells A.cells gval aun aconv afield aextract aindex afieldAddr
  anilCheck aslice abnd amaxmin afold amax2 amin2 A.nilS ownOK ares ares1 resA resL A.noid noidL asrc aappend isSliceT abox aalloc amake abuildSlice apartsIn astore aclear abuilt afill apart frz scal sle

theorem i64_id {n : Int} (h0 : -9223372036854775808 ≤ n) (h1 : n ≤ 9223372036854775807) : IntKind.i64.wrap n = n := IntWalk.i64_in n ⟨h0, h1⟩

@[simp] theorem noidL_append (xs ys : List A) : noidL (xs ++ ys) = (noidL xs && noidL ys) := by
  induction xs with
  | nil => simp
  | cons x xs ih => simp [ih, Bool.and_assoc]

theorem noidL_map {α : Type} (f : α → A) (h : ∀ x, (f x).noid = true) : ∀ l : List α, noidL (l.map f) = true
  | [] => rfl
  | x :: xs => by simp [h x, noidL_map f h xs]

@[simp] theorem noidL_ints (k : IntKind) (l : List Int) : noidL (l.map (A.int k)) = true := noidL_map _ (fun _ => rfl) l
@[simp] theorem noidL_strs (l : List (List UInt8)) : noidL (l.map A.str) = true := noidL_map _ (fun _ => rfl) l

theorem noidL_take {xs : List A} (h : noidL xs = true) : ∀ n, noidL (xs.take n) = true := by
  intro n
  induction xs generalizing n with
  | nil => simp
  | cons x xs ih => cases n with
    | zero => simp
    | succ n => simp at h ⊢; exact ⟨h.1, ih h.2 n⟩

theorem noidL_drop {xs : List A} (h : noidL xs = true) : ∀ n, noidL (xs.drop n) = true := by
  intro n
  induction xs generalizing n with
  | nil => simp
  | cons x xs ih => cases n with
    | zero => simpa using h
    | succ n => simp at h ⊢; exact ih h.2 n
end Go.AL
