/- An abstract layer over the walk, 2: live rows, the state, and the rules of the code's own forms. No program in sight. -/
import Derived.Test.YtnahhdbheeinfaaAlCore
namespace Go.AL

/-- A live block: elements of type ty, sz cells each; those ahead of f are not written any more. -/
structure Row where
  ty : TypeId
  sz : Nat
  es : List A
  f : Nat
  live : Bool
  deriving Inhabited

def aggT (P : Program) (t : TypeId) : Bool :=
  match P.underlying t with
  | some (.struct _) | some (.array _ _) => true
  | _ => false

/-- Has the abstract value the form of a value of type t? -/
def shp (P : Program) (t : TypeId) (e : A) : Bool :=
  match e with
  | .agg cs => aggT P t && cs.length == P.cellsOf t
  | .any => false
  | .tup _ => false
  | _ => !aggT P t && P.cellsOf t == 1

theorem shp_ncells {P : Program} {t : TypeId} {e : A} (h : shp P t e = true) (_hz : P.cellsOf t ≠ 0) : e.ncells = P.cellsOf t := by
  cases e <;> simp_all [shp, A.ncells]

/-- The cells that may be written. -/
def Fof (μ : Mu) (H : List Row) : Fz := fun b o => ∃ (i : Nat) (r : Row) (bs : Nat), H[i]? = some r ∧ r.live = true ∧ μ[i]? = some (b, bs) ∧ bs + r.f * r.sz ≤ o
/-- The cells that what is read must not lie in: those, and the caller's own. -/
def Ft (F0 : Fz) (μ : Mu) (H : List Row) : Fz := fun b o => F0 b o ∨ Fof μ H b o
def NoF : Fz := fun _ _ => False

theorem Adv.join {w w' : World} {F F' : Fz} (F0 : Fz) (h : Adv w F w' F') : Adv w (fun b o => F0 b o ∨ F b o) w' (fun b o => F0 b o ∨ F' b o) where
  os := h.os
  tape := h.tape
  output := h.output
  size := h.size
  cell := fun b o u hc hf => h.cell b o u hc (fun hx => hf (.inr hx))
  mono := fun b o hb hf => hf.imp id (h.mono b o hb)
  shape := h.shape
  block := fun b hb hf => h.block b hb (fun o hx => hf o (.inr hx))

/-- Where nothing old was written at all. -/
theorem Adv.ofNo {w w' : World} (h : Adv w NoF w' NoF) (F : Fz) : Adv w F w' F where
  os := h.os
  tape := h.tape
  output := h.output
  size := h.size
  cell := fun b o u hc _ => h.cell b o u hc id
  mono := fun _ _ _ hf => hf
  shape := h.shape
  block := fun b hb _ => h.block b hb (fun _ => id)

/-- A row of cells in memory. -/
def CellsOK (P : Program) (w : World) (F : Fz) (μ : Mu) (r : Row) (b bs : Nat) : Prop :=
  ∃ cur, w.heap[b]? = some (.cells cur r.ty (0, 0)) ∧ r.sz = P.cellsOf r.ty ∧ r.sz ≠ 0 ∧ bs + r.es.length * r.sz ≤ cur.size ∧
    ∀ (k : Nat) (e : A), r.es[k]? = some e → shp P r.ty e = true ∧ ∃ V, Rep P w F μ e V ∧ ∀ (j : Nat) (u : Value), V.cells[j]? = some u → cur[bs + k * r.sz + j]? = some u
/-- A map's entries: pairs of a key and a value. -/
def MEnt (P : Program) (w : World) (F : Fz) (es : List A) (ms : List MapEntry) : Prop :=
  ms.length = es.length ∧ ∀ (k : Nat) (e : A) (m : MapEntry), es[k]? = some e → ms[k]? = some m → ∃ ka va, e = .tup [ka, va] ∧ Rep P w F [] ka m.key ∧ Rep P w F [] va m.val
/-- A map in memory: a row without cells. -/
def MapOK (P : Program) (w : World) (F : Fz) (r : Row) (b bs : Nat) : Prop :=
  P.cellsOf r.ty = 0 ∧ r.sz = 0 ∧ bs = 0 ∧ ∃ ms clock, w.heap[b]? = some (.map ms clock) ∧ MEnt P w F r.es ms.toList

theorem MEnt.adv {P : Program} {w w' : World} {F F' : Fz} {es : List A} {ms : List MapEntry} (h : MEnt P w F es ms) (hA : Adv w F w' F') : MEnt P w' F' es ms :=
  ⟨h.1, fun k e m he hm => let ⟨ka, va, h1, h2, h3⟩ := h.2 k e m he hm; ⟨ka, va, h1, h2.adv hA (List.prefix_refl _), h3.adv hA (List.prefix_refl _)⟩⟩
theorem MapOK.adv {P : Program} {w w' : World} {F F' : Fz} {r : Row} {b bs : Nat} (h : MapOK P w F r b bs) (hA : Adv w F w' F') (hh : w'.heap[b]? = w.heap[b]?) : MapOK P w' F' r b bs :=
  let ⟨h1, h2, h3, ms, clock, h4, h5⟩ := h; ⟨h1, h2, h3, ms, clock, by rw [hh]; exact h4, h5.adv hA⟩
theorem CellsOK.adv {P : Program} {w w' : World} {F F' : Fz} {μ μ' : Mu} {r : Row} {b bs : Nat} (h : CellsOK P w F μ r b bs) (hA : Adv w F w' F') (hp : μ <+: μ') (hh : w'.heap[b]? = w.heap[b]?) : CellsOK P w' F' μ' r b bs :=
  let ⟨cur, h1, h2, h3, h4, h5⟩ := h
  ⟨cur, by rw [hh]; exact h1, h2, h3, h4, fun k e he => let ⟨g1, V, g2, g3⟩ := h5 k e he; ⟨g1, V, g2.adv hA hp, g3⟩⟩

structure HS (P : Program) (w : World) (F0 : Fz) (μ : Mu) (H : List Row) : Prop where
  len : μ.length = H.length
  bound : ∀ b o, F0 b o → b < w.heap.size
  row : ∀ (i : Nat) (r : Row) (b bs : Nat), H[i]? = some r → r.live = true → μ[i]? = some (b, bs) → CellsOK P w (Ft F0 μ H) μ r b bs ∨ MapOK P w (Ft F0 μ H) r b bs
  inj : ∀ (i j : Nat) (r r' : Row) (b bs bs' : Nat), H[i]? = some r → r.live = true → H[j]? = some r' → r'.live = true → μ[i]? = some (b, bs) → μ[j]? = some (b, bs') → i = j
  sep : ∀ (i : Nat) (r : Row) (b bs o : Nat), H[i]? = some r → r.live = true → μ[i]? = some (b, bs) → ¬ F0 b o

theorem HS.lt {P : Program} {w : World} {F0 : Fz} {μ : Mu} {H : List Row} (h : HS P w F0 μ H) {b o : Nat} (hf : Ft F0 μ H b o) : b < w.heap.size := by
  rcases hf with hf | ⟨i, r, bs, hr, hl, hb, _⟩
  · exact h.bound b o hf
  · rcases h.row i r b bs hr hl hb with ⟨cur, hc, _⟩ | ⟨_, _, _, _, _, hc, _⟩
    · exact (Array.getElem?_eq_some_iff.1 hc).1
    · exact (Array.getElem?_eq_some_iff.1 hc).1
/-- Where there are cells, the row is one of cells. -/
theorem HS.cells {P : Program} {w : World} {F0 : Fz} {μ : Mu} {H : List Row} (hs : HS P w F0 μ H) {i : Nat} {r : Row} {b bs : Nat} {x : TypeId × Nat} (hr : H[i]? = some r) (hl : r.live = true) (hb : μ[i]? = some (b, bs)) (hsh : w.shape? b = some x) : CellsOK P w (Ft F0 μ H) μ r b bs := by
  rcases hs.row i r b bs hr hl hb with h | ⟨_, _, _, _, _, h, _⟩
  · exact h
  · simp [World.shape?, h] at hsh
theorem HS.cellsZ {P : Program} {w : World} {F0 : Fz} {μ : Mu} {H : List Row} (hs : HS P w F0 μ H) {i : Nat} {r : Row} {b bs : Nat} (hr : H[i]? = some r) (hl : r.live = true) (hb : μ[i]? = some (b, bs)) (hz : r.sz ≠ 0) : CellsOK P w (Ft F0 μ H) μ r b bs := by
  rcases hs.row i r b bs hr hl hb with h | ⟨_, h, _⟩
  · exact h
  · exact (hz h).elim

theorem HS.nil {P : Program} {w : World} {F0 : Fz} (hb : ∀ b o, F0 b o → b < w.heap.size) : HS P w F0 [] [] where
  len := rfl
  bound := hb
  row := by intro i r b bs h; simp at h
  inj := by intro i j r r' b bs bs' h; simp at h
  sep := by intro i r b bs o h; simp at h

/-- Where no row has turned. -/
theorem HS.keep {P : Program} {w w' : World} {F0 : Fz} {μ : Mu} {H : List Row} (h : HS P w F0 μ H) (hA : Adv w (Fof μ H) w' (Fof μ H)) (hrow : ∀ (i : Nat) (r : Row) (b bs : Nat), H[i]? = some r → r.live = true → μ[i]? = some (b, bs) → w'.heap[b]? = w.heap[b]?) : HS P w' F0 μ H where
  len := h.len
  bound := fun b o hf => Nat.lt_of_lt_of_le (h.bound b o hf) hA.size
  row := by
    intro i r b bs hr hl hb
    have hh := hrow i r b bs hr hl hb
    rcases h.row i r b bs hr hl hb with h1 | h1
    · exact .inl (h1.adv (hA.join F0) (List.prefix_refl _) hh)
    · exact .inr (h1.adv (hA.join F0) hh)
  inj := h.inj
  sep := h.sep

/-- Where nothing old was written. -/
theorem HS.ofNo {P : Program} {w w' : World} {F0 : Fz} {μ : Mu} {H : List Row} (h : HS P w F0 μ H) (hA : Adv w NoF w' NoF) : HS P w' F0 μ H :=
  h.keep (hA.ofNo _) fun i r b bs hr hl hb => hA.block b (h.lt (o := bs + r.f * r.sz) (.inr ⟨i, r, bs, hr, hl, hb, Nat.le_refl _⟩)) fun _ => id

structure Ctx where
  w : World
  μ : Mu
  F : Fz
  F0 : Fz

structure S where
  t : List A
  h : List Row

structure Sim (P : Program) (X : Ctx) (s : S) (a : Act) (w : World) (μ : Mu) : Prop where
  len : a.tmps.size = s.t.length
  rep : ∀ (i : Nat) (x : A), s.t[i]? = some x → Rep P w (Ft X.F0 μ s.h) μ x (a.tmps.getD i undef)
  hs : HS P w X.F0 μ s.h
  adv : Adv X.w X.F w (Fof μ s.h)
  pre : X.μ <+: μ
  defers : a.defers = []

def ofV1 : Value → A
  | .int k n => .int k n
  | .bool b => .bool b
  | .string s => .str s.data.toList
  | .slice none 0 0 => .sl true []
  | .pointer none => .nptr
  | .nilFunc => .nfn
  | _ => .any

def ofV : Value → A
  | .agg vs => if vs.toList.all (·.oneCell') then .agg (vs.toList.map ofV1) else .any
  | v => ofV1 v

theorem rep_ofV1 {P : Program} {w : World} {μ : Mu} {F : Fz} (v : Value) : Rep P w F μ (ofV1 v) v := by
  unfold ofV1
  split
  · exact .int _ _ _
  · exact .bool _ _
  · rename_i s; exact (by cases s with | mk d => cases d with | mk l => exact .str _ l)
  · exact .slnil _ _ _
  · exact .nptr _
  · exact .nfn _
  · exact .any _ _

theorem rep_ofV {P : Program} {w : World} {μ : Mu} {F : Fz} (v : Value) : Rep P w F μ (ofV v) v := by
  unfold ofV
  split
  · rename_i vs
    split
    · rename_i h
      cases vs with | mk l =>
      refine .agg _ _ l (by simp) (by simpa using h) ?_
      intro i c u hc hu
      simp at hc
      obtain ⟨x, hx, rfl⟩ := hc
      rw [hu] at hx; cases hx
      exact rep_ofV1 _
    · exact .any _ _
  · exact rep_ofV1 _

def ev (t : List A) : Operand → A
  | .tmp i => t.getD i .any
  | .const v => ofV v
  | .global _ => .any
  | .func f => .fn f []

theorem Sim.eval {P : Program} {X : Ctx} {s : S} {a : Act} {w : World} {μ : Mu} (h : Sim P X s a w μ) (x : Operand) : Rep P w (Ft X.F0 μ s.h) μ (ev s.t x) (a.eval x) := by
  cases x with
  | tmp i =>
    show Rep _ _ _ _ (s.t.getD i .any) (a.tmps.getD i undef)
    cases hx : s.t[i]? with
    | none => simp only [List.getD, hx, Option.getD]; exact .any _ _
    | some y => simp only [List.getD, hx, Option.getD]; exact h.rep i y hx
  | const v => exact rep_ofV v
  | global g => exact .any _ _
  | func f => exact .fn _ f [] [] rfl (by simp)

def put (t : List A) (d : Option Tmp) (r : A) : List A :=
  match d with
  | some i => t.set i r
  | none => t

/-- The state behind an operation that has yielded r. -/
theorem Sim.put {P : Program} {X : Ctx} {s : S} {a : Act} {w w' : World} {μ μ' : Mu} {H' : List Row} (h : Sim P X s a w μ) (d : Option Tmp) {r : A} {v : Value}
    (hs' : HS P w' X.F0 μ' H') (hA : Adv w (Fof μ s.h) w' (Fof μ' H')) (hp : μ <+: μ') (hr : Rep P w' (Ft X.F0 μ' H') μ' r v) :
    Sim P X ⟨AL.put s.t d r, H'⟩ (a.put d v) w' μ' where
  len := by
    cases d with
    | none => exact h.len
    | some i => simp [AL.put, Act.put, h.len]
  rep := by
    intro i x hx
    cases d with
    | none => exact (h.rep i x hx).adv (hA.join X.F0) hp
    | some j =>
      simp only [AL.put, List.getElem?_set] at hx
      have hg : (Act.put a (some j) v).tmps.getD i undef = if j = i ∧ i < a.tmps.size then v else a.tmps.getD i undef := by
        simp only [Act.put, Array.getD_eq_getD_getElem?, Array.getElem?_setIfInBounds]
        by_cases hji : j = i
        · subst hji
          by_cases hl : j < a.tmps.size <;> simp [hl]
        · simp [hji]
      rw [hg]
      by_cases hji : j = i
      · subst hji
        by_cases hl : j < s.t.length
        · simp [hl] at hx; subst hx; simp [h.len, hl]; exact hr
        · simp [hl] at hx
      · simp only [hji, if_false, false_and] at hx ⊢
        exact (h.rep i x hx).adv (hA.join X.F0) hp
  hs := hs'
  adv := h.adv.trans hA
  pre := h.pre.trans hp
  defers := by cases d <;> exact h.defers

inductive AX where
  | normal
  | exit (id : Nat)
  | ret

def AX.toExit : AX → Exit
  | .normal => .normal
  | .exit id => .exit id
  | .ret => .ret

def lift (P : Program) (X : Ctx) (Q : AX → S → Prop) : Exit → Act → World → Prop :=
  fun e a' w' => ∃ (x : AX) (s' : S) (μ' : Mu), e = x.toExit ∧ Q x s' ∧ Sim P X s' a' w' μ'

def awp (P : Program) (X : Ctx) (c : Code) (Q : AX → S → Prop) (s : S) : Prop :=
  ∀ a w μ, Sim P X s a w μ → c.wp P (lift P X Q) a w

theorem awp_mono {P : Program} {X : Ctx} {c : Code} {Q Q' : AX → S → Prop} {s : S} (h : awp P X c Q s) (hq : ∀ x s, Q x s → Q' x s) : awp P X c Q' s :=
  fun a w μ hs => Code.wp_mono (fun _ _ _ ⟨x, s', μ', he, hQ, hS⟩ => ⟨x, s', μ', he, hq _ _ hQ, hS⟩) (h a w μ hs)

def thenK (f : S → Prop) (Q : AX → S → Prop) : AX → S → Prop
  | .normal, s => f s
  | e, s => Q e s

theorem awp_seq {P : Program} {X : Ctx} {x y : Code} {Q : AX → S → Prop} {s : S} (h : awp P X x (thenK (awp P X y Q) Q) s) : awp P X (.seq x y) Q s := by
  intro a w μ hs
  refine wp_seq (Code.wp_mono ?_ (h a w μ hs))
  rintro e a' w' ⟨z, s', μ', rfl, hQ, hS⟩
  cases z with
  | normal => exact hQ a' w' μ' hS
  | exit id => exact ⟨.exit id, s', μ', rfl, hQ, hS⟩
  | ret => exact ⟨.ret, s', μ', rfl, hQ, hS⟩

theorem awp_skip {P : Program} {X : Ctx} {Q : AX → S → Prop} {s : S} (h : Q .normal s) : awp P X .skip Q s :=
  fun _ _ μ hs => wp_skip ⟨.normal, s, μ, rfl, h, hs⟩

theorem awp_exit {P : Program} {X : Ctx} {id : Nat} {Q : AX → S → Prop} {s : S} (h : Q (.exit id) s) : awp P X (.exit id) Q s :=
  fun _ _ μ hs => wp_exit ⟨.exit id, s, μ, rfl, h, hs⟩

theorem awp_ret {P : Program} {X : Ctx} {Q : AX → S → Prop} {s : S} (h : Q .ret s) : awp P X .ret Q s :=
  fun _ _ μ hs => wp_ret ⟨.ret, s, μ, rfl, h, hs⟩

def blockK (id : Nat) (Q : AX → S → Prop) : AX → S → Prop
  | .exit id', s => if id' = id then Q .normal s else Q (.exit id') s
  | e, s => Q e s

theorem awp_block {P : Program} {X : Ctx} {id : Nat} {c : Code} {Q : AX → S → Prop} {s : S} (h : awp P X c (blockK id Q) s) : awp P X (.block id c) Q s := by
  intro a w μ hs
  refine wp_block (Code.wp_mono ?_ (h a w μ hs))
  rintro e a' w' ⟨z, s', μ', rfl, hQ, hS⟩
  cases z with
  | normal => exact ⟨.normal, s', μ', rfl, hQ, hS⟩
  | ret => exact ⟨.ret, s', μ', rfl, hQ, hS⟩
  | exit id' =>
    simp only [blockK] at hQ
    simp only [AX.toExit, Exit.inBlock]
    split
    · rename_i h; rw [if_pos h] at hQ; exact ⟨.normal, s', μ', rfl, hQ, hS⟩
    · rename_i h; rw [if_neg h] at hQ; exact ⟨.exit id', s', μ', rfl, hQ, hS⟩

theorem Rep.bool_inv {P : Program} {w : World} {μ : Mu} {F : Fz} {b : Bool} {v : Value} (h : Rep P w F μ (.bool b) v) : v = .bool b := by cases h; rfl
theorem Rep.int_inv {P : Program} {w : World} {μ : Mu} {F : Fz} {k : IntKind} {n : Int} {v : Value} (h : Rep P w F μ (.int k n) v) : v = .int k n := by cases h; rfl
theorem Rep.str_inv {P : Program} {w : World} {μ : Mu} {F : Fz} {l : List UInt8} {v : Value} (h : Rep P w F μ (.str l) v) : v = .string ⟨⟨l⟩⟩ := by cases h; rfl

def condK (c : A) (p q : Prop) : Prop :=
  match c with
  | .bool b => (b = true → p) ∧ (b = false → q)
  | .ub => p ∧ q
  | _ => False

theorem awp_cond {P : Program} {X : Ctx} {c : Operand} {x y : Code} {Q : AX → S → Prop} {s : S} (h : condK (ev s.t c) (awp P X x Q s) (awp P X y Q s)) : awp P X (.cond c x y) Q s := by
  intro a w μ hs
  have hr := hs.eval c
  cases hc : ev s.t c with
  | bool b =>
    rw [hc] at hr h
    have hb := hr.bool_inv
    cases b with
    | true => exact wp_cond_true hb (h.1 rfl a w μ hs)
    | false => exact wp_cond_false hb (h.2 rfl a w μ hs)
  | ub =>
    rw [hc] at hr h
    generalize hv : a.eval c = v at hr
    cases hr with | ub _ b =>
    cases b with
    | true => exact wp_cond_true hv (h.1 a w μ hs)
    | false => exact wp_cond_false hv (h.2 a w μ hs)
  | _ => rw [hc] at h; exact h.elim

/-- What holds in s holds in s', which says less. -/
def Wk (P : Program) (X : Ctx) (s s' : S) : Prop := ∀ a w μ, Sim P X s a w μ → ∃ μ', Sim P X s' a w μ'

theorem Wk.refl {P : Program} {X : Ctx} (s : S) : Wk P X s s := fun _ _ μ h => ⟨μ, h⟩
theorem Wk.trans {P : Program} {X : Ctx} {s s1 s2 : S} (h : Wk P X s s1) (k : Wk P X s1 s2) : Wk P X s s2 := fun a w μ hs => let ⟨μ1, h1⟩ := h a w μ hs; k a w μ1 h1
theorem awp_weaken {P : Program} {X : Ctx} {c : Code} {Q : AX → S → Prop} {s s' : S} (hw : Wk P X s s') (h : awp P X c Q s') : awp P X c Q s :=
  fun a w μ hs => let ⟨μ1, h1⟩ := hw a w μ hs; h a w μ1 h1

/-- Slot by slot: the same, or forgotten. -/
def sle : List A → List A → Prop
  | [], [] => True
  | x :: xs, y :: ys => (y = .any ∨ x = y) ∧ sle xs ys
  | _, _ => False

theorem sle_len : ∀ {xs ys : List A}, sle xs ys → xs.length = ys.length
  | [], [], _ => rfl
  | _ :: _, _ :: _, h => by simpa using sle_len h.2
  | [], _ :: _, h => h.elim
  | _ :: _, [], h => h.elim

theorem sle_get : ∀ {xs ys : List A}, sle xs ys → ∀ (i : Nat) (y : A), ys[i]? = some y → y = .any ∨ xs[i]? = some y
  | [], [], _, i, y, h => by simp at h
  | x :: xs, y' :: ys, h, 0, y, hy => by simp at hy; subst hy; rcases h.1 with h1 | h1; exact .inl h1; exact .inr (by simp [h1])
  | x :: xs, y' :: ys, h, i + 1, y, hy => by simp at hy ⊢; exact sle_get h.2 i y hy
  | [], _ :: _, h, _, _, _ => h.elim
  | _ :: _, [], h, _, _, _ => h.elim

theorem Wk.slots {P : Program} {X : Ctx} {t t' : List A} {H : List Row} (h : sle t t') : Wk P X ⟨t, H⟩ ⟨t', H⟩ := by
  intro a w μ hs
  refine ⟨μ, ?_, ?_, hs.hs, hs.adv, hs.pre, hs.defers⟩
  · rw [hs.len]; exact sle_len h
  · intro i y hy
    rcases sle_get h i y hy with rfl | hx
    · exact .any _ _
    · exact hs.rep i y hx

/-- A loop: 'I' gives the state at the head of a round for each value of the loop's own variables. 'm' goes down. -/
theorem awp_loop {P : Program} {X : Ctx} {c : Code} {Q : AX → S → Prop} {s : S} {σ : Type} (I : σ → S) (inv : σ → Prop) (m : σ → Nat) (x0 : σ) (h0 : Wk P X s (I x0)) (hi : inv x0)
    (round : ∀ x, inv x → awp P X c (thenK (fun s' => ∃ y, Wk P X s' (I y) ∧ inv y ∧ m y < m x) Q) (I x)) : awp P X (.loop c) Q s := by
  intro a w μ hs b k cs
  obtain ⟨μ, hs⟩ := h0 a w μ hs
  have key : ∀ n, ∀ x a w μ, m x = n → inv x → Sim P X (I x) a w μ →
      ∃ e a' w', lift P X Q e a' w' ∧ Arrives P (lone (b.at a (.code c :: .inLoop c :: k)) cs w) b k cs e a' w' := by
    intro n
    induction n using Nat.strongRecOn with
    | _ n ih =>
      intro x a w μ hm hx hs
      obtain ⟨e, a1, w1, ⟨z, s1, μ1, rfl, hQ, hS⟩, harr⟩ := round x hx a w μ hs b (.inLoop c :: k) cs
      cases z with
      | normal =>
        obtain ⟨y, hwk, hy, hlt⟩ := hQ
        obtain ⟨μ1, hS⟩ := hwk a1 w1 μ1 hS
        obtain ⟨e2, a2, w2, hq2, harr2⟩ := ih (m y) (hm ▸ hlt) y a1 w1 μ1 rfl hy hS
        exact ⟨e2, a2, w2, hq2, .of_steps (Steps.trans harr (.one step_inLoop)) harr2⟩
      | exit id => exact ⟨_, a1, w1, ⟨.exit id, s1, μ1, rfl, hQ, hS⟩, .pass (x := .inLoop c) rfl (fun _ _ => .inl (by simp [AX.toExit])) harr⟩
      | ret => exact ⟨_, a1, w1, ⟨.ret, s1, μ1, rfl, hQ, hS⟩, .pass (x := .inLoop c) rfl (fun _ _ => .inl (by simp [AX.toExit])) harr⟩
  obtain ⟨e, a', w', hq, harr⟩ := key (m x0) x0 a w μ rfl hi hs
  exact ⟨e, a', w', hq, .of_steps (.one step_loop) harr⟩
end Go.AL
