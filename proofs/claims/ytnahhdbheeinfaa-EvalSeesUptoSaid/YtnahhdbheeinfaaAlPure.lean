/- An abstract layer over the walk, 3: the operations that write nothing. No program in sight. -/
import Derived.Test.YtnahhdbheeinfaaAlSim
import Derived.WalkSpells
import Derived.WalkLawsBesides
import Derived.Lib.Strings
namespace Go.AL

theorem shp_cells {P : Program} {t : TypeId} {e : A} {w : World} {F : Fz} {μ : Mu} {V : Value} (h : shp P t e = true) (hr : Rep P w F μ e V) (hz : P.cellsOf t ≠ 0) :
    V.cells.size = P.cellsOf t ∧ ∀ u ∈ V.cells.toList, u.oneCell' = true := by
  have hn := shp_ncells h hz
  obtain ⟨h1, h2, _⟩ := hr.cells (.inl (by omega))
  exact ⟨by rw [h1, A.ncells_eq (by omega), hn], h2⟩

/-! Integers, strings, truth values. -/
def aint (op : BinOp) (k : IntKind) (a b : Int) : Option A :=
  match op with
  | .add => some (.int k (k.wrap (a + b)))
  | .sub => some (.int k (k.wrap (a - b)))
  | .mul => some (.int k (k.wrap (a * b)))
  | .quo => if b = 0 then none else some (.int k (k.wrap (a.tdiv b)))
  | .rem => if b = 0 then none else some (.int k (a.tmod b))
  | .eql => some (.bool (decide (a = b)))
  | .neq => some (.bool (!decide (a = b)))
  | .lss => some (.bool (decide (a < b)))
  | .leq => some (.bool (decide (a ≤ b)))
  | .gtr => some (.bool (decide (b < a)))
  | .geq => some (.bool (decide (b ≤ a)))
  | .and => if k = .u64 ∧ b = 4294967295 ∧ 0 ≤ a then some (.int k (a % 4294967296)) else none
  | .shr => if k = .u64 ∧ b = 32 then some (.int k (a / 4294967296)) else none
  | _ => none

theorem and_mask (a : Int) (h0 : 0 ≤ a) : IntKind.u64.wrap ((BitVec.ofInt 64 a &&& BitVec.ofInt 64 4294967295).toNat : Int) = a % 4294967296 := by
  obtain ⟨n, rfl⟩ := Int.eq_ofNat_of_zero_le h0
  have e1 : (BitVec.ofInt 64 (n : Int) &&& BitVec.ofInt 64 4294967295).toNat = n % 4294967296 := by
    rw [BitVec.toNat_and]
    have e2 : (BitVec.ofInt 64 4294967295).toNat = 2 ^ 32 - 1 := by decide
    rw [e2, Nat.and_two_pow_sub_one_eq_mod]
    have e3 : (BitVec.ofInt 64 (n : Int)).toNat = n % 18446744073709551616 := by rw [BitVec.ofInt_natCast, BitVec.toNat_ofNat]
    rw [e3]; omega
  rw [e1, IntKind.wrap_u64]
  omega

def astr (op : BinOp) (a b : List UInt8) : Option A :=
  match op with
  | .add => if a.length + b.length ≤ 9223372036854775807 then some (.str (a ++ b)) else none
  | .eql => some (.bool (decide (a = b)))
  | .neq => some (.bool (!decide (a = b)))
  | .lss => some (.bool (Op.bytesLess a b))
  | .leq => some (.bool (Op.bytesLess a b || decide (a = b)))
  | .gtr => some (.bool (!(Op.bytesLess a b || decide (a = b))))
  | .geq => some (.bool (!(Op.bytesLess a b)))
  | _ => none

/-- Is it the nil slice? -/
def A.nilB : A → A
  | .sl _ [] => .ub
  | .sl _ (_ :: _) => .bool false
  | .own _ _ len _ _ => if len = 0 then .ub else .bool false
  | _ => .any

def abin (P : Program) (op : BinOp) (t : TypeId) (x y : A) : Option A :=
  match x, y with
  | .int k a, .int k' b => if k = k' then (match op with | .shl => none | _ => aint op k a b) else none
  | .str a, .str b => astr op a b
  | .bool a, .bool b =>
    match P.underlying t, op with
    | some .bool, .eql => some (.bool (a == b))
    | some .bool, .neq => some (.bool (a != b))
    | _, _ => none
  | _, _ => none

/-- Held against the nil that the text names. -/
def acmpNil (P : Program) (op : BinOp) (t : TypeId) (x : A) : Option A :=
  match P.underlying t, op, x.nilB with
  | some (.slice _), .eql, .bool b => some (.bool b)
  | some (.slice _), .eql, .ub => some .ub
  | some (.slice _), .neq, .bool b => some (.bool !b)
  | some (.slice _), .neq, .ub => some .ub
  | _, _, _ => none

def nilOp : Operand → Bool
  | .const (.slice none 0 0) => true
  | _ => false

theorem Rep.nilB_some {P : Program} {w : World} {F : Fz} {μ : Mu} {x : A} {v : Value} (h : Rep P w F μ x v) : (x.nilB = .ub → ∃ a n c, v = .slice a n c) ∧ (∀ b, x.nilB = .bool b → ∃ a n c, v = .slice a n c ∧ a.isNone = b) := by
  cases h with
  | slnil _ _ _ => exact ⟨fun _ => ⟨_, _, _, rfl⟩, by simp [A.nilB]⟩
  | sl _ _ es => exact ⟨fun _ => ⟨_, _, _, rfl⟩, by cases es <;> simp [A.nilB]⟩
  | own => exact ⟨fun _ => ⟨_, _, _, rfl⟩, by intro b; simp only [A.nilB]; split <;> simp⟩
  | ownn => exact ⟨fun _ => ⟨_, _, _, rfl⟩, by simp [A.nilB]⟩
  | _ => simp [A.nilB]

theorem run_eqIn_bool {P : Program} {t : TypeId} (h : P.underlying t = some .bool) (d : Nat) (a b : Bool) (w : World) : (Op.equalIn (d + 1) t (.bool a) (.bool b)).run P w = .ok (a == b) w := by
  simp [Op.equalIn, run_underlying h]
theorem run_eqIn_sliceR {P : Program} {t e : TypeId} (h : P.underlying t = some (.slice e)) (d : Nat) (n c : Nat) (a : Option Addr) (n' c' : Nat) (w : World) : (Op.equalIn (d + 1) t (.slice a n' c') (.slice none n c)).run P w = .ok a.isNone w := by
  cases a <;> simp [Op.equalIn, run_underlying h]
theorem run_eql_bool {P : Program} {t : TypeId} (h : P.underlying t = some .bool) (a b : Bool) (w : World) : (binOp .eql t (.bool a) (.bool b)).run P w = .ok (.bool (a == b)) w := by
  simp only [binOp]; simp [Op.equal, Op.maxDepth, run_eqIn_bool h 9999]
theorem run_neq_bool {P : Program} {t : TypeId} (h : P.underlying t = some .bool) (a b : Bool) (w : World) : (binOp .neq t (.bool a) (.bool b)).run P w = .ok (.bool (a != b)) w := by
  simp only [binOp]; simp [Op.equal, Op.maxDepth, run_eqIn_bool h 9999]; cases a <;> cases b <;> rfl
theorem run_eql_slicenilR {P : Program} {t e : TypeId} (h : P.underlying t = some (.slice e)) (n c : Nat) (a : Option Addr) (n' c' : Nat) (w : World) : (binOp .eql t (.slice a n' c') (.slice none n c)).run P w = .ok (.bool a.isNone) w := by
  simp only [binOp]; simp [Op.equal, Op.maxDepth, run_eqIn_sliceR h 9999]
theorem run_neq_slicenilR {P : Program} {t e : TypeId} (h : P.underlying t = some (.slice e)) (n c : Nat) (a : Option Addr) (n' c' : Nat) (w : World) : (binOp .neq t (.slice a n' c') (.slice none n c)).run P w = .ok (.bool !a.isNone) w := by
  simp only [binOp]; simp [Op.equal, Op.maxDepth, run_eqIn_sliceR h 9999]

theorem s_aint {P : Program} {op : BinOp} {k : IntKind} {a b : Int} {r : A} {t : TypeId} (hs : op ≠ .shl) (h : aint op k a b = some r) (w : World) (F : Fz) (μ : Mu) :
    ∃ v, (∀ w', Cn w w' → (binOp op t (.int k a) (.int k b)).run P w' = .ok v w') ∧ Rep P w F μ r v := by
  cases op <;> simp [aint] at h
  case and =>
    obtain ⟨⟨rfl, rfl, h0⟩, rfl⟩ := h
    refine ⟨_, fun w' _ => ?_, .int _ _ _⟩
    have e : (binOp .and t (.int .u64 a) (.int .u64 4294967295)).run P w' = .ok (.int .u64 (IntKind.u64.wrap ((BitVec.ofInt 64 a &&& BitVec.ofInt 64 4294967295).toNat : Int))) w' := by
      simp only [binOp, Op.intBits]
      rfl
    rw [e, and_mask a h0]
  case shr =>
    obtain ⟨⟨rfl, rfl⟩, rfl⟩ := h
    refine ⟨_, fun w' _ => ?_, .int _ _ _⟩
    have e : min (32 : Int).toNat IntKind.u64.bits = 32 := by decide
    simp only [binOp, Op.shift, e]
    rw [if_neg (by decide), Int.fdiv_eq_ediv_of_nonneg _ (by decide)]
    rfl
  all_goals try (subst h; refine ⟨_, fun w' _ => by (simp [go_sem, Op.intArith]; try rfl), ?_⟩; first | exact .int _ _ _ | exact .bool _ _)
  all_goals (obtain ⟨h0, rfl⟩ := h; refine ⟨_, fun w' _ => by (simp [go_sem, Op.intDiv, h0]; try rfl), .int _ _ _⟩)

theorem s_astr {P : Program} {op : BinOp} {a b : List UInt8} {r : A} {t : TypeId} (h : astr op a b = some r) (w : World) (F : Fz) (μ : Mu) :
    ∃ v, (∀ w', Cn w w' → (binOp op t (.string ⟨⟨a⟩⟩) (.string ⟨⟨b⟩⟩)).run P w' = .ok v w') ∧ Rep P w F μ r v := by
  have e1 : ByteArray.toList ⟨⟨a⟩⟩ = a := ByteArray.toList_mk a
  have e2 : ByteArray.toList ⟨⟨b⟩⟩ = b := ByteArray.toList_mk b
  have e3 : (a == b) = decide (a = b) := by rw [Bool.eq_iff_iff]; simp
  cases op <;> simp [astr] at h
  case add =>
    obtain ⟨h0, rfl⟩ := h
    refine ⟨.string ⟨⟨a ++ b⟩⟩, fun w' _ => ?_, .str _ _⟩
    have hs : (⟨⟨a⟩⟩ : ByteArray).size = a.length := rfl
    have hs2 : (⟨⟨b⟩⟩ : ByteArray).size = b.length := rfl
    have hm : IntKind.i64.max = 9223372036854775807 := by decide
    have hap : (⟨⟨a⟩⟩ : ByteArray) ++ (⟨⟨b⟩⟩ : ByteArray) = ⟨⟨a ++ b⟩⟩ := by
      apply ByteArray.ext; simp [ByteArray.data_append]
    simp only [binOp, Op.stringOp, hs, hs2, hm, hap]
    rw [if_neg (by omega)]; rfl
  all_goals (subst h; simp only [binOp, Op.stringOp, e1, e2, e3, Sem.run_pure]; exact ⟨_, fun w' _ => rfl, by first | exact .bool _ _ | (rw [Bool.not_or]; exact .bool _ _)⟩)

theorem s_abin {P : Program} {op : BinOp} {t : TypeId} {x y r : A} {vx vy : Value} {w : World} {F : Fz} {μ : Mu} (X Y : Operand) (hx : Rep P w F μ x vx) (hy : Rep P w F μ y vy) (h : abin P op t x y = some r) :
    ∃ v, (∀ w', Cn w w' → ((do eqGuard op t X Y vx vy; binOp op t vx vy) : Sem Value).run P w' = .ok v w') ∧ Rep P w F μ r v := by
  unfold abin at h
  split at h
  · rename_i k a k' b
    cases hx; cases hy
    split at h
    · rename_i hk; subst hk
      simp only [eqGuard_at_int]
      split at h
      · cases h
      · rename_i h1
        exact s_aint (by intro e; exact h1 e) h w F μ
    · cases h
  · cases hx; cases hy
    simp only [eqGuard_at_string]
    exact s_astr h w F μ
  · cases hx; cases hy
    simp only [eqGuard_at_bool]
    split at h
    · rename_i hu; cases h; exact ⟨_, fun w' _ => run_eql_bool hu _ _ w', .bool _ _⟩
    · rename_i hu; cases h; exact ⟨_, fun w' _ => run_neq_bool hu _ _ w', .bool _ _⟩
    · cases h
  · cases h

theorem s_acmpNil {P : Program} {op : BinOp} {t : TypeId} {x r : A} {vx : Value} {w : World} {F : Fz} {μ : Mu} (X Y : Operand) (hx : Rep P w F μ x vx) (h : acmpNil P op t x = some r) :
    ∃ v, (∀ w', Cn w w' → ((do eqGuard op t X Y vx (.slice none 0 0); binOp op t vx (.slice none 0 0)) : Sem Value).run P w' = .ok v w') ∧ Rep P w F μ r v := by
  obtain ⟨h1, h2⟩ := hx.nilB_some
  unfold acmpNil at h
  split at h
  · rename_i hu hb; cases h
    obtain ⟨a, n, c, rfl, rfl⟩ := h2 _ hb
    simp only [eqGuard_at_slice]
    exact ⟨_, fun w' _ => run_eql_slicenilR hu _ _ _ _ _ w', .bool _ _⟩
  · rename_i hu hb; cases h
    obtain ⟨a, n, c, rfl⟩ := h1 hb
    simp only [eqGuard_at_slice]
    exact ⟨_, fun w' _ => run_eql_slicenilR hu _ _ _ _ _ w', .ub _ _⟩
  · rename_i hu hb; cases h
    obtain ⟨a, n, c, rfl, rfl⟩ := h2 _ hb
    simp only [eqGuard_at_slice]
    exact ⟨_, fun w' _ => run_neq_slicenilR hu _ _ _ _ _ w', .bool _ _⟩
  · rename_i hu hb; cases h
    obtain ⟨a, n, c, rfl⟩ := h1 hb
    simp only [eqGuard_at_slice]
    exact ⟨_, fun w' _ => run_neq_slicenilR hu _ _ _ _ _ w', .ub _ _⟩
  · cases h

/-! Parts of structs and arrays. -/
def hasU (P : Program) (t : TypeId) : Bool := (P.underlying t).isSome

/-- A field's type, and its place. -/
def fld (P : Program) (t : TypeId) (f : Nat) : Option (TypeId × Nat) :=
  match P.underlying t with
  | some (.struct fs) => (fs[f]?).map fun fd => (fd.type, fd.offset)
  | _ => none

theorem fld_some {P : Program} {t : TypeId} {f ft off : Nat} (h : fld P t f = some (ft, off)) : ∃ fs fd, P.underlying t = some (.struct fs) ∧ fs[f]? = some fd ∧ fd.type = ft ∧ fd.offset = off := by
  unfold fld at h
  split at h
  · rename_i fs hu
    obtain ⟨fd, h1, h2⟩ := Option.map_eq_some_iff.1 h
    cases h2
    exact ⟨fs, fd, hu, h1, rfl, rfl⟩
  · cases h

def apart (P : Program) (t : TypeId) (cs : List A) (off : Nat) : Option A :=
  if hasU P t then if P.cellsOf t = 0 then none else if aggT P t then some (.agg ((cs.drop off).take (P.cellsOf t))) else cs[off]? else none

theorem run_isAgg {P : Program} {t : TypeId} {d : TypeDesc} (h : P.underlying t = some d) (w : World) : (isAgg t).run P w = .ok (aggT P t) w := by
  simp only [isAgg, Sem.run_bind, run_underlying h, Result.andThen, aggT, h]
  cases d <;> rfl

theorem run_sizeOf {P : Program} {t : TypeId} {i : TypeInfo} (h : P.info? t = some i) (w : World) : (sizeOf t).run P w = .ok i.size w := by
  simp [sizeOf, typeInfo, h]

theorem cellsOf_info {P : Program} {t : TypeId} {i : TypeInfo} (h : P.info? t = some i) : P.cellsOf t = i.size := by simp [Program.cellsOf, h]

theorem info_of_cells {P : Program} {t : TypeId} (h : P.cellsOf t ≠ 0) : ∃ i, P.info? t = some i ∧ P.cellsOf t = i.size := by
  cases hi : P.info? t with
  | none => simp [Program.cellsOf, hi] at h
  | some i => exact ⟨i, rfl, cellsOf_info hi⟩

theorem s_apart {P : Program} {t : TypeId} {cs : List A} {off : Nat} {r : A} {vs : List Value} {w : World} {F : Fz} {μ : Mu} (hl : vs.length = cs.length) (h1 : ∀ u ∈ vs, u.oneCell' = true)
    (h : ∀ (i : Nat) (c : A) (u : Value), cs[i]? = some c → vs[i]? = some u → Rep P w F μ c u) (hr : apart P t cs off = some r) :
    ∃ v, (∀ w', Cn w w' → (part t ⟨vs⟩ off).run P w' = .ok v w') ∧ Rep P w F μ r v ∧ (r.ncells ≠ 0 → ∀ j u, v.cells[j]? = some u → vs[off + j]? = some u) := by
  unfold apart at hr
  split at hr
  · rename_i hd
    obtain ⟨d, hd⟩ := Option.isSome_iff_exists.1 hd
    split at hr
    · cases hr
    rename_i hz0
    obtain ⟨i, hi, hsi⟩ := info_of_cells hz0
    rw [hsi] at hr
    split at hr
    · rename_i hagg; cases hr
      refine ⟨.agg ⟨(vs.drop off).take i.size⟩, fun w' _ => ?_, .agg _ _ _ (by simp [hl]) (fun u hu => h1 u (List.mem_of_mem_drop (List.mem_of_mem_take hu))) ?_, ?_⟩
      · simp only [part, Sem.run_bind, run_isAgg hd, Result.andThen, hagg, if_true, run_sizeOf hi, Sem.run_pure]
        congr 2
        apply Array.ext'; simp
      · intro k c u hc hu
        simp only [List.getElem?_take, List.getElem?_drop] at hc hu
        split at hc <;> rename_i hk
        · rw [if_pos hk] at hu; exact h _ c u hc hu
        · cases hc
      · intro _ j u hu
        simp only [Value.cells, List.getElem?_toArray, List.getElem?_take, List.getElem?_drop] at hu
        split at hu
        · exact hu
        · cases hu
    · rename_i hagg
      have hlt : off < vs.length := by rw [hl]; exact (List.getElem?_eq_some_iff.1 hr).1
      have hv : vs[off]? = some vs[off] := List.getElem?_eq_getElem hlt
      have hone := h1 _ (List.getElem_mem hlt)
      refine ⟨vs[off], fun w' _ => ?_, h off r _ hr hv, ?_⟩
      · simp only [part, Sem.run_bind, run_isAgg hd, Result.andThen, hagg, if_false, Bool.false_eq_true, List.getElem?_toArray, hv, Sem.run_pure]
      · intro _ j u hu
        have hc : vs[off].cells = #[vs[off]] := by cases hx : vs[off] <;> simp_all [Value.cells, Value.oneCell']
        rw [hc] at hu
        cases j with
        | zero => simpa using hu ▸ hv
        | succ j => simp at hu
  · cases hr

def afield (P : Program) (t : TypeId) (x : A) (f : Nat) : Option A :=
  match x with
  | .agg cs => (fld P t f).bind fun fd => apart P fd.1 cs fd.2
  | _ => none

theorem s_afield {P : Program} {t : TypeId} {x r : A} {f : Nat} {v : Value} {w : World} {F : Fz} {μ : Mu} (hx : Rep P w F μ x v) (h : afield P t x f = some r) :
    ∃ u, (∀ w', Cn w w' → (Instr.field t v f).run P w' = .ok u w') ∧ Rep P w F μ r u := by
  unfold afield at h
  split at h
  · rename_i cs
    cases hx with | agg _ _ vs hl h1 hh =>
    obtain ⟨⟨ft, fo⟩, hf, hp⟩ := Option.bind_eq_some_iff.1 h
    obtain ⟨fs, fd, hu, hfd, rfl, rfl⟩ := fld_some hf
    obtain ⟨u, h2, h3, _⟩ := s_apart hl h1 hh hp
    refine ⟨u, fun w' hw => ?_, h3⟩
    simp [Instr.field, run_underlying hu, hfd, asAgg, h2 w' hw]
  · cases h

def aextract (x : A) (i : Nat) : Option A :=
  match x with
  | .tup vs => vs[i]?
  | _ => none

theorem s_aextract {P : Program} {x r : A} {i : Nat} {v : Value} {w : World} {F : Fz} {μ : Mu} (hx : Rep P w F μ x v) (h : aextract x i = some r) :
    ∃ u, (∀ w', Cn w w' → (Instr.extract v i).run P w' = .ok u w') ∧ Rep P w F μ r u := by
  unfold aextract at h
  split at h
  · cases hx with | tup _ cs vs hl hh =>
    have hlt : i < vs.length := by rw [hl]; exact (List.getElem?_eq_some_iff.1 h).1
    have hv : vs[i]? = some vs[i] := List.getElem?_eq_getElem hlt
    exact ⟨vs[i], fun w' _ => by simp [Instr.extract, hv], hh i r _ h hv⟩
  · cases h

def aun (op : UnOp) (x : A) : Option A :=
  match op, x with
  | .neg, .int k n => some (.int k (k.wrap (0 - n)))
  | .not, .bool b => some (.bool (!b))
  | _, _ => none

theorem s_aun {P : Program} {op : UnOp} {x r : A} {v : Value} {w : World} {F : Fz} {μ : Mu} (hx : Rep P w F μ x v) (h : aun op x = some r) :
    ∃ u, (∀ w', Cn w w' → (Op.unary op v).run P w' = .ok u w') ∧ Rep P w F μ r u := by
  unfold aun at h
  split at h
  · cases hx; cases h; exact ⟨.int _ _, fun w' _ => by simp [Op.unary, Op.intArith], .int _ _ _⟩
  · cases hx; cases h; exact ⟨.bool _, fun w' _ => by simp [Op.unary], .bool _ _⟩
  · cases h

def aconv (P : Program) (src dst : TypeId) (x : A) : Option A :=
  match P.underlying src, P.underlying dst, x with
  | some _, some (.int k), .int _ n => some (.int k (k.wrap n))
  | some _, some .string, .str s => some (.str s)
  | _, _, _ => none

theorem s_aconv {P : Program} {s d : TypeId} {x r : A} {v : Value} {w : World} {F : Fz} {μ : Mu} (hx : Rep P w F μ x v) (h : aconv P s d x = some r) :
    ∃ u, (∀ w', Cn w w' → (convert s d v).run P w' = .ok u w') ∧ Rep P w F μ r u := by
  unfold aconv at h
  split at h
  · rename_i hs hd; cases hx; cases h; exact ⟨.int _ _, fun w' _ => by simp [convert, run_underlying hs, run_underlying hd, Conv.intToInt], .int _ _ _⟩
  · rename_i hs hd; cases hx; cases h; exact ⟨.string _, fun w' _ => by simp [convert, run_underlying hs, run_underlying hd], .str _ _⟩
  · cases h

/-! Reading memory. -/
def aidx (P : Program) (H : List Row) (t : TypeId) (x i : A) : Option A :=
  match P.underlying t, x, i with
  | some (.slice e), .sl _ es, .int _ n =>
    if 0 ≤ n ∧ n < es.length ∧ P.cellsOf e ≠ 0 then (es[n.toNat]?).bind fun d => if d.ncells = P.cellsOf e then some (.ptr d) else none else none
  | some (.slice e), .own id off len _ _, .int _ n =>
    (H[id]?).bind fun r => if r.live = true ∧ r.ty = e ∧ 0 ≤ n ∧ n < len then some (.pto id r.sz (off + n.toNat) 0) else none
  | some (.array k e), .pto id sz j co, .int _ n =>
    if P.cellsOf e ≠ 0 ∧ 0 ≤ n ∧ n < k then some (.pto id sz j (co + n.toNat * P.cellsOf e)) else none
  | some (.array k e), .ptr (.agg cs), .int _ n =>
    if 0 ≤ n ∧ n < k ∧ P.cellsOf e ≠ 0 then (apart P e cs (n.toNat * P.cellsOf e)).bind fun d => if d.ncells ≠ 0 then some (.ptr d) else none else none
  | _, _, _ => none

theorem run_indexAt_sl {P : Program} {t e : TypeId} (h : P.underlying t = some (.slice e)) {i : TypeInfo} (hi : P.info? e = some i) (a : Addr) (len cap : Nat) (k : IntKind) (n : Int) (h0 : 0 ≤ n) (h1 : n < len) (w : World) :
    (Instr.indexAt t (.slice (some a) len cap) (.int k n)).run P w = .ok (.pointer (some (a.add (n.toNat * i.size)))) w := by
  simp [Instr.indexAt, run_underlying h, asIntOf, h0, h1, run_sizeOf hi]

theorem run_indexAt_ar {P : Program} {t e : TypeId} {m : Nat} (h : P.underlying t = some (.array m e)) {i : TypeInfo} (hi : P.info? e = some i) (a : Addr) (k : IntKind) (n : Int) (h0 : 0 ≤ n) (h1 : n < m) (w : World) :
    (Instr.indexAt t (.pointer (some a)) (.int k n)).run P w = .ok (.pointer (some (a.add (n.toNat * i.size)))) w := by
  simp [Instr.indexAt, run_underlying h, asIntOf, Instr.sureAddr, h0, h1, run_sizeOf hi]

theorem s_aidx {P : Program} {H : List Row} {t : TypeId} {x i r : A} {vx vi : Value} {w : World} {F0 : Fz} {μ : Mu} (hs : HS P w F0 μ H) (hx : Rep P w (Ft F0 μ H) μ x vx) (hi : Rep P w (Ft F0 μ H) μ i vi) (h : aidx P H t x i = some r) :
    ∃ u, (∀ w', Cn w w' → (Instr.indexAt t vx vi).run P w' = .ok u w') ∧ Rep P w (Ft F0 μ H) μ r u := by
  unfold aidx at h
  split at h
  · rename_i e full es k n hu
    cases hi
    split at h
    · rename_i hb
      obtain ⟨d, hd, h⟩ := Option.bind_eq_some_iff.1 h
      cases hx with
      | slnil _ _ _ => simp at hd
      | sl _ _ _ b off m cap sz V hn hcap hmax hfull hsz hrep hcell =>
      split at h
      · rename_i hnc; cases h
        obtain ⟨inf, hinf, hsi⟩ := info_of_cells hb.2.2
        refine ⟨_, fun w' _ => run_indexAt_sl hu hinf _ _ _ _ _ hb.1 (by rw [hn]; exact hb.2.1) w', ?_⟩
        rw [Addr.add_lit]
        have hz : sz = inf.size := by rw [← hsz _ _ hd, hnc, hsi]
        refine .ptr _ d b _ (V n.toNat) (hrep _ _ hd) (by rw [hnc]; exact hb.2.2) ?_
        intro j u hju
        have := hcell _ _ hd j u hju
        rw [hz] at this
        exact this
      · cases h
    · cases h
  · rename_i e id off len cb ex k n hu
    cases hi
    obtain ⟨row, hrow, h⟩ := Option.bind_eq_some_iff.1 h
    split at h
    · rename_i hb; cases h
      obtain ⟨hl, hty, h0, h1⟩ := hb
      cases hx with | ownn _ _ _ a => omega | own _ _ _ _ _ _ b bs cap ty m hμ hsh hfit hlen hcb hmax hex ao hat =>
      obtain rfl := hat (by omega)
      obtain ⟨cur, hc, hrs, hrz, _⟩ := hs.cells hrow hl hμ hsh
      have : ty = e := by
        simp only [World.shape?, hc] at hsh
        simp at hsh; rw [← hsh.1, hty]
      subst this
      rw [hty] at hrs
      obtain ⟨inf, hinf, hsi⟩ := info_of_cells (P := P) (t := ty) (by omega)
      refine ⟨_, fun w' _ => run_indexAt_sl hu hinf _ _ _ _ _ h0 (by exact h1) w', ?_⟩
      rw [Addr.add_lit]
      have e : bs + off * P.cellsOf ty + n.toNat * inf.size = bs + (off + n.toNat) * row.sz + 0 := by rw [hrs, hsi, Nat.add_mul]; omega
      rw [e]
      exact .pto _ _ _ _ _ _ _ hμ
    · cases h
  · rename_i m e id sz j co k n hu
    cases hi
    split at h
    · rename_i hb; cases h
      cases hx with | pto _ _ _ _ _ b bs hμ =>
      obtain ⟨inf, hinf, _⟩ := info_of_cells hb.1
      refine ⟨_, fun w' _ => run_indexAt_ar hu hinf _ _ _ hb.2.1 hb.2.2 w', ?_⟩
      rw [Addr.add_lit, ← cellsOf_info hinf, Nat.add_assoc]
      exact .pto _ _ _ _ _ _ _ hμ
    · cases h
  · rename_i m e cs k n hu
    cases hi
    split at h
    · rename_i hb
      obtain ⟨d, hd, h⟩ := Option.bind_eq_some_iff.1 h
      split at h
      · rename_i hnc; cases h
        obtain ⟨inf, hinf, hsi⟩ := info_of_cells hb.2.2
        cases hx with | ptr _ _ b off v hrep hnc' hcell =>
        cases hrep with | agg _ _ vs hl h1 hh =>
        obtain ⟨u, _, h3, h4⟩ := s_apart hl h1 hh hd
        refine ⟨_, fun w' _ => run_indexAt_ar hu hinf _ _ _ hb.1 hb.2.1 w', ?_⟩
        rw [Addr.add_lit]
        refine .ptr _ d b _ u h3 hnc ?_
        intro j y hy
        have := hcell (n.toNat * P.cellsOf e + j) y (by simpa [Value.cells] using h4 hnc j y hy)
        rw [hsi] at this
        rw [Nat.add_assoc]; exact this
      · cases h
    · cases h
  · cases h

/-- The zero value of a type, and its bytes. -/
def zbox (P : Program) (t : TypeId) : Option (A × Nat) :=
  (P.info? t).bind fun inf => inf.zero.bind fun z => if z.cells.size = inf.size then some (ofV z, inf.bytes) else none

theorem zbox_some {P : Program} {t : TypeId} {z : A} {n : Nat} (h : zbox P t = some (z, n)) : ∃ inf zv, P.info? t = some inf ∧ inf.zero = some zv ∧ zv.cells.size = inf.size ∧ z = ofV zv ∧ n = inf.bytes := by
  obtain ⟨inf, h1, h⟩ := Option.bind_eq_some_iff.1 h
  obtain ⟨zv, h2, h⟩ := Option.bind_eq_some_iff.1 h
  split at h
  · rename_i h3; cases h; exact ⟨inf, zv, h1, h2, h3, rfl, rfl⟩
  · cases h
end Go.AL
