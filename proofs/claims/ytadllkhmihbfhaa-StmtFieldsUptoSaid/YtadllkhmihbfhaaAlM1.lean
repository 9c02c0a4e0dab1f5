/- An abstract layer over the walk, part 1 of 4: Core, Sim, Pure, Load, Slice, Heap, Write, Make, Store. No program in sight. -/
import Derived.WalkKit
import Derived.WalkSpells
import Derived.WalkLawsBesides
import Derived.Lib.Strings
import Derived.Laws.CopyRow
/- An abstract layer over the walk: abstract values, what they stand for in memory, and how that stays. No program in sight. -/
namespace Go.AL

/-- An abstract value. 'ub': a truth value, which one is not known. 'sl': a slice whose cells are never written any more (full: its capacity is its length; an empty one may be nil). 'own': a slice over a live block (cb: its capacity is at least that; ex: it is just that; without room it may be nil). 'ptr': a pointer to a place that is never written any more, with what lies there. 'pto': a pointer into a live block. 'agg': the cells of a struct or an array. 'mp': a map, a live row of its own. 'any': nothing is known. -/
inductive A where
  | int (k : IntKind) (n : Int)
  | bool (b : Bool)
  | ub
  | str (l : List UInt8)
  | sl (full : Bool) (es : List A)
  | own (id off len cb : Nat) (ex : Bool)
  | ptr (d : A)
  | pto (id sz i co : Nat)
  | nptr
  | agg (cs : List A)
  | tup (vs : List A)
  | fn (f : FuncId) (cs : List A)
  | nfn
  | mp (id : Nat)
  | any
  deriving Inhabited

def A.ncells : A → Nat
  | .agg cs => cs.length
  | .any => 0
  | .tup _ => 0
  | _ => 1

def A.cells : A → List A
  | .agg cs => cs
  | a => [a]

abbrev Fz := Nat → Nat → Prop
/-- Where each live row lies: its block, and the place of its first cell in it. -/
abbrev Mu := List (Nat × Nat)

inductive Rep (P : Program) (w : World) (F : Fz) : Mu → A → Value → Prop
  | int (μ : Mu) (k : IntKind) (n : Int) : Rep P w F μ (.int k n) (.int k n)
  | bool (μ : Mu) (b : Bool) : Rep P w F μ (.bool b) (.bool b)
  | ub (μ : Mu) (b : Bool) : Rep P w F μ .ub (.bool b)
  | str (μ : Mu) (l : List UInt8) : Rep P w F μ (.str l) (.string ⟨⟨l⟩⟩)
  | slnil (μ : Mu) (full : Bool) (a : Option Addr) : Rep P w F μ (.sl full []) (.slice a 0 0)
  | sl (μ : Mu) (full : Bool) (es : List A) (b off n cap sz : Nat) (V : Nat → Value) (hn : n = es.length)
      (hcap : n ≤ cap) (hmax : cap ≤ maxLen) (hfull : full = true → cap = n)
      (hsz : ∀ (i : Nat) (e : A), es[i]? = some e → e.ncells = sz)
      (hrep : ∀ (i : Nat) (e : A), es[i]? = some e → Rep P w F [] e (V i))
      (hcell : ∀ (i : Nat) (e : A), es[i]? = some e → ∀ (j : Nat) (u : Value), (V i).cells[j]? = some u → u.oneCell' = true ∧ w.cell? ⟨b, off + i * sz + j, none⟩ = some u ∧ ¬ F b (off + i * sz + j)) :
      Rep P w F μ (.sl full es) (.slice (some ⟨b, off, none⟩) n cap)
  | own (μ : Mu) (id off len cb : Nat) (ex : Bool) (b bs cap ty n : Nat) (hμ : μ[id]? = some (b, bs)) (hs : w.shape? b = some (ty, n))
      (hfit : bs + (off + cap) * P.cellsOf ty ≤ n) (hlen : len ≤ cb) (hcb : cb ≤ cap) (hmax : cap ≤ maxLen) (hex : ex = true → cap = cb) (ao : Nat) (hat : cap ≠ 0 → ao = bs + off * P.cellsOf ty) :
      Rep P w F μ (.own id off len cb ex) (.slice (some ⟨b, ao, none⟩) len cap)
  | ownn (μ : Mu) (id off : Nat) (a : Option Addr) : Rep P w F μ (.own id off 0 0 true) (.slice a 0 0)
  | ptr (μ : Mu) (d : A) (b off : Nat) (v : Value) (hrep : Rep P w F [] d v) (hnc : d.ncells ≠ 0)
      (hcell : ∀ (j : Nat) (u : Value), v.cells[j]? = some u → u.oneCell' = true ∧ w.cell? ⟨b, off + j, none⟩ = some u ∧ ¬ F b (off + j)) :
      Rep P w F μ (.ptr d) (.pointer (some ⟨b, off, none⟩))
  | pto (μ : Mu) (id sz i co b bs : Nat) (hμ : μ[id]? = some (b, bs)) : Rep P w F μ (.pto id sz i co) (.pointer (some ⟨b, bs + i * sz + co, none⟩))
  | nptr (μ : Mu) : Rep P w F μ .nptr (.pointer none)
  | agg (μ : Mu) (cs : List A) (vs : List Value) (hl : vs.length = cs.length) (h1 : ∀ u ∈ vs, u.oneCell' = true)
      (h : ∀ (i : Nat) (c : A) (u : Value), cs[i]? = some c → vs[i]? = some u → Rep P w F μ c u) : Rep P w F μ (.agg cs) (.agg ⟨vs⟩)
  | tup (μ : Mu) (cs : List A) (vs : List Value) (hl : vs.length = cs.length)
      (h : ∀ (i : Nat) (c : A) (u : Value), cs[i]? = some c → vs[i]? = some u → Rep P w F μ c u) : Rep P w F μ (.tup cs) (.tuple ⟨vs⟩)
  | fn (μ : Mu) (f : FuncId) (cs : List A) (vs : List Value) (hl : vs.length = cs.length)
      (h : ∀ (i : Nat) (c : A) (u : Value), cs[i]? = some c → vs[i]? = some u → Rep P w F μ c u) : Rep P w F μ (.fn f cs) (.func (.func f) #[] ⟨vs⟩)
  | nfn (μ : Mu) : Rep P w F μ .nfn .nilFunc
  | mp (μ : Mu) (id b : Nat) (hμ : μ[id]? = some (b, 0)) : Rep P w F μ (.mp id) (.map (some b))
  | any (μ : Mu) (v : Value) : Rep P w F μ .any v

/-- From (w, F) to (w', F'): what was not to be written is as it was, and stays so. -/
structure Adv (w : World) (F : Fz) (w' : World) (F' : Fz) : Prop where
  os : w'.os = w.os
  tape : w'.tape = w.tape
  output : w'.output = w.output
  size : w.heap.size ≤ w'.heap.size
  cell : ∀ b o u, w.cell? ⟨b, o, none⟩ = some u → ¬ F b o → w'.cell? ⟨b, o, none⟩ = some u
  mono : ∀ b o, b < w.heap.size → F' b o → F b o
  shape : ∀ b t n, w.shape? b = some (t, n) → w'.shape? b = some (t, n)
  block : ∀ b, b < w.heap.size → (∀ o, ¬ F b o) → w'.heap[b]? = w.heap[b]?

/-- Whatever world. -/
def Cn (_ _ : World) : Prop := True

theorem Adv.refl (w : World) (F : Fz) : Adv w F w F := ⟨rfl, rfl, rfl, Nat.le_refl _, fun _ _ _ h _ => h, fun _ _ _ h => h, fun _ _ _ h => h, fun _ _ _ => rfl⟩

theorem lt_of_cell {w : World} {b o : Nat} {u : Value} (h : w.cell? ⟨b, o, none⟩ = some u) : b < w.heap.size := World.block_lt_of_cell? w ⟨b, o, none⟩ h

theorem Adv.trans {w w1 w2 : World} {F F1 F2 : Fz} (h : Adv w F w1 F1) (k : Adv w1 F1 w2 F2) : Adv w F w2 F2 where
  os := k.os.trans h.os
  tape := k.tape.trans h.tape
  output := k.output.trans h.output
  size := Nat.le_trans h.size k.size
  cell := fun b o u hc hf => k.cell b o u (h.cell b o u hc hf) (fun hf1 => hf (h.mono b o (lt_of_cell hc) hf1))
  mono := fun b o hb hf => h.mono b o hb (k.mono b o (Nat.lt_of_lt_of_le hb h.size) hf)
  shape := fun b t n hs => k.shape b t n (h.shape b t n hs)
  block := fun b hb hf => (k.block b (Nat.lt_of_lt_of_le hb h.size) (fun o hf1 => hf o (h.mono b o hb hf1))).trans (h.block b hb hf)

theorem get_prefix {μ μ' : Mu} (h : μ <+: μ') {i : Nat} {b : Nat × Nat} (hb : μ[i]? = some b) : μ'[i]? = some b := by
  obtain ⟨r, rfl⟩ := h
  rw [List.getElem?_append_left (List.getElem?_eq_some_iff.1 hb).1]; exact hb

theorem Rep.adv {P : Program} {w w' : World} {μ μ' : Mu} {F F' : Fz} (hA : Adv w F w' F') (hp : μ <+: μ') {a : A} {v : Value} (h : Rep P w F μ a v) : Rep P w' F' μ' a v := by
  induction h generalizing μ' with
  | int μ k n => exact .int _ k n
  | bool μ b => exact .bool _ b
  | ub μ b => exact .ub _ b
  | str μ l => exact .str _ l
  | slnil μ full a => exact .slnil _ full a
  | sl μ full es b off n cap sz V hn hcap hmax hfull hsz hrep hcell ih =>
    refine .sl _ full es b off n cap sz V hn hcap hmax hfull hsz (fun i e he => ih i e he (List.prefix_refl [])) ?_
    intro i e he j u hu
    obtain ⟨h1, h2, h3⟩ := hcell i e he j u hu
    exact ⟨h1, hA.cell _ _ _ h2 h3, fun hf => h3 (hA.mono _ _ (lt_of_cell h2) hf)⟩
  | own μ id off len cb ex b bs cap ty n hμ hs hfit hlen hcb hmax hex ao hat => exact .own _ id off len cb ex b bs cap ty n (get_prefix hp hμ) (hA.shape _ _ _ hs) hfit hlen hcb hmax hex ao hat
  | ownn μ id off a => exact .ownn _ id off a
  | ptr μ d b off v hrep hnc hcell ih =>
    refine .ptr _ d b off v (ih (List.prefix_refl [])) hnc ?_
    intro j u hu
    obtain ⟨h1, h2, h3⟩ := hcell j u hu
    exact ⟨h1, hA.cell _ _ _ h2 h3, fun hf => h3 (hA.mono _ _ (lt_of_cell h2) hf)⟩
  | pto μ id sz i co b bs hμ => exact .pto _ id sz i co b bs (get_prefix hp hμ)
  | nptr μ => exact .nptr _
  | agg μ cs vs hl h1 h ih => exact .agg _ cs vs hl h1 (fun i c u hc hu => ih i c u hc hu hp)
  | tup μ cs vs hl h ih => exact .tup _ cs vs hl (fun i c u hc hu => ih i c u hc hu hp)
  | fn μ f cs vs hl h ih => exact .fn _ f cs vs hl (fun i c u hc hu => ih i c u hc hu hp)
  | nfn μ => exact .nfn _
  | mp μ id b hμ => exact .mp _ id b (get_prefix hp hμ)
  | any μ v => exact .any _ v

/-- Less is to be written: what stood, stands. -/
theorem Rep.mono {P : Program} {w : World} {μ μ' : Mu} {F F' : Fz} (hF : ∀ b o, b < w.heap.size → F' b o → F b o) (hp : μ <+: μ') {a : A} {v : Value} (h : Rep P w F μ a v) : Rep P w F' μ' a v :=
  h.adv ⟨rfl, rfl, rfl, Nat.le_refl _, fun _ _ _ h _ => h, hF, fun _ _ _ h => h, fun _ _ _ => rfl⟩ hp

/-- Each cell of a value stands for the abstract cell. -/
theorem Rep.cells {P : Program} {w : World} {μ : Mu} {F : Fz} {a : A} {v : Value} (h : Rep P w F μ a v) (hn : a.ncells ≠ 0 ∨ a.cells = []) :
    v.cells.size = a.cells.length ∧ (∀ u ∈ v.cells.toList, u.oneCell' = true) ∧ ∀ (i : Nat) (c : A) (u : Value), a.cells[i]? = some c → v.cells[i]? = some u → Rep P w F μ c u := by
  cases h with
  | agg _ cs vs hl h1 h => exact ⟨by simpa [Value.cells, A.cells] using hl, by simpa [Value.cells] using h1, by simpa [Value.cells, A.cells] using h⟩
  | any _ v => simp [A.ncells, A.cells] at hn
  | tup _ cs vs hl h => simp [A.ncells, A.cells] at hn
  | _ =>
    refine ⟨by simp [Value.cells, A.cells], by simp [Value.cells, Value.oneCell'], ?_⟩
    intro i c u hc hu
    cases i with
    | zero =>
      simp [A.cells, Value.cells] at hc hu
      subst hc hu
      first | exact .int _ _ _ | exact .bool _ _ | exact .ub _ _ | exact .str _ _ | exact .slnil _ _ _ | (exact .sl _ _ _ _ _ _ _ _ _ ‹_› ‹_› ‹_› ‹_› ‹_› ‹_› ‹_›) | (exact .own _ _ _ _ _ _ _ _ _ _ _ ‹_› ‹_› ‹_› ‹_› ‹_› ‹_› ‹_› _ ‹_›) | exact .ownn _ _ _ _ | exact .ptr _ _ _ _ _ ‹_› ‹_› ‹_› | exact .pto _ _ _ _ _ _ _ ‹_› | exact .nptr _ | exact .fn _ _ _ _ ‹_› ‹_› | exact .nfn _ | exact .mp _ _ _ ‹_›
    | succ i => simp [A.cells] at hc

theorem A.ncells_eq {a : A} (h : a.ncells ≠ 0) : a.cells.length = a.ncells := by
  cases a <;> simp_all [A.ncells, A.cells]
end Go.AL
/- An abstract layer over the walk, 2: live rows, the state, and the rules of the code's own forms. No program in sight. -/
namespace Go.AL

/-- A live block: elements of type ty, sz cells each; those ahead of f are not written any more. -/
structure Row where
  ty : TypeId
  sz : Nat
  es : List A
  f : Nat
  live : Bool
  deriving Inhabited

def aggT (P : Program) (t : TypeId) : Bool :=
  match P.underlying t with
  | some (.struct _) | some (.array _ _) => true
  | _ => false

/-- Has the abstract value the form of a value of type t? -/
def shp (P : Program) (t : TypeId) (e : A) : Bool :=
  match e with
  | .agg cs => aggT P t && cs.length == P.cellsOf t
  | .any => false
  | .tup _ => false
  | _ => !aggT P t && P.cellsOf t == 1

theorem shp_ncells {P : Program} {t : TypeId} {e : A} (h : shp P t e = true) (_hz : P.cellsOf t ≠ 0) : e.ncells = P.cellsOf t := by
  cases e <;> simp_all [shp, A.ncells]

/-- The cells that may be written. -/
def Fof (μ : Mu) (H : List Row) : Fz := fun b o => ∃ (i : Nat) (r : Row) (bs : Nat), H[i]? = some r ∧ r.live = true ∧ μ[i]? = some (b, bs) ∧ bs + r.f * r.sz ≤ o
/-- The cells that what is read must not lie in: those, and the caller's own. -/
def Ft (F0 : Fz) (μ : Mu) (H : List Row) : Fz := fun b o => F0 b o ∨ Fof μ H b o
def NoF : Fz := fun _ _ => False

theorem Adv.join {w w' : World} {F F' : Fz} (F0 : Fz) (h : Adv w F w' F') : Adv w (fun b o => F0 b o ∨ F b o) w' (fun b o => F0 b o ∨ F' b o) where
  os := h.os
  tape := h.tape
  output := h.output
  size := h.size
  cell := fun b o u hc hf => h.cell b o u hc (fun hx => hf (.inr hx))
  mono := fun b o hb hf => hf.imp id (h.mono b o hb)
  shape := h.shape
  block := fun b hb hf => h.block b hb (fun o hx => hf o (.inr hx))

/-- Where nothing old was written at all. -/
theorem Adv.ofNo {w w' : World} (h : Adv w NoF w' NoF) (F : Fz) : Adv w F w' F where
  os := h.os
  tape := h.tape
  output := h.output
  size := h.size
  cell := fun b o u hc _ => h.cell b o u hc id
  mono := fun _ _ _ hf => hf
  shape := h.shape
  block := fun b hb _ => h.block b hb (fun _ => id)

/-- A row of cells in memory. -/
def CellsOK (P : Program) (w : World) (F : Fz) (μ : Mu) (r : Row) (b bs : Nat) : Prop :=
  ∃ cur, w.heap[b]? = some (.cells cur r.ty (0, 0)) ∧ r.sz = P.cellsOf r.ty ∧ r.sz ≠ 0 ∧ bs + r.es.length * r.sz ≤ cur.size ∧
    ∀ (k : Nat) (e : A), r.es[k]? = some e → shp P r.ty e = true ∧ ∃ V, Rep P w F μ e V ∧ ∀ (j : Nat) (u : Value), V.cells[j]? = some u → cur[bs + k * r.sz + j]? = some u
/-- A map's entries: pairs of a key and a value. -/
def MEnt (P : Program) (w : World) (F : Fz) (es : List A) (ms : List MapEntry) : Prop :=
  ms.length = es.length ∧ ∀ (k : Nat) (e : A) (m : MapEntry), es[k]? = some e → ms[k]? = some m → ∃ ka va, e = .tup [ka, va] ∧ Rep P w F [] ka m.key ∧ Rep P w F [] va m.val
/-- A map in memory: a row without cells. -/
def MapOK (P : Program) (w : World) (F : Fz) (r : Row) (b bs : Nat) : Prop :=
  P.cellsOf r.ty = 0 ∧ r.sz = 0 ∧ bs = 0 ∧ ∃ ms clock, w.heap[b]? = some (.map ms clock) ∧ MEnt P w F r.es ms.toList

theorem MEnt.adv {P : Program} {w w' : World} {F F' : Fz} {es : List A} {ms : List MapEntry} (h : MEnt P w F es ms) (hA : Adv w F w' F') : MEnt P w' F' es ms :=
  ⟨h.1, fun k e m he hm => let ⟨ka, va, h1, h2, h3⟩ := h.2 k e m he hm; ⟨ka, va, h1, h2.adv hA (List.prefix_refl _), h3.adv hA (List.prefix_refl _)⟩⟩
theorem MapOK.adv {P : Program} {w w' : World} {F F' : Fz} {r : Row} {b bs : Nat} (h : MapOK P w F r b bs) (hA : Adv w F w' F') (hh : w'.heap[b]? = w.heap[b]?) : MapOK P w' F' r b bs :=
  let ⟨h1, h2, h3, ms, clock, h4, h5⟩ := h; ⟨h1, h2, h3, ms, clock, by rw [hh]; exact h4, h5.adv hA⟩
theorem CellsOK.adv {P : Program} {w w' : World} {F F' : Fz} {μ μ' : Mu} {r : Row} {b bs : Nat} (h : CellsOK P w F μ r b bs) (hA : Adv w F w' F') (hp : μ <+: μ') (hh : w'.heap[b]? = w.heap[b]?) : CellsOK P w' F' μ' r b bs :=
  let ⟨cur, h1, h2, h3, h4, h5⟩ := h
  ⟨cur, by rw [hh]; exact h1, h2, h3, h4, fun k e he => let ⟨g1, V, g2, g3⟩ := h5 k e he; ⟨g1, V, g2.adv hA hp, g3⟩⟩

structure HS (P : Program) (w : World) (F0 : Fz) (μ : Mu) (H : List Row) : Prop where
  len : μ.length = H.length
  bound : ∀ b o, F0 b o → b < w.heap.size
  row : ∀ (i : Nat) (r : Row) (b bs : Nat), H[i]? = some r → r.live = true → μ[i]? = some (b, bs) → CellsOK P w (Ft F0 μ H) μ r b bs ∨ MapOK P w (Ft F0 μ H) r b bs
  inj : ∀ (i j : Nat) (r r' : Row) (b bs bs' : Nat), H[i]? = some r → r.live = true → H[j]? = some r' → r'.live = true → μ[i]? = some (b, bs) → μ[j]? = some (b, bs') → i = j
  sep : ∀ (i : Nat) (r : Row) (b bs o : Nat), H[i]? = some r → r.live = true → μ[i]? = some (b, bs) → ¬ F0 b o

theorem HS.lt {P : Program} {w : World} {F0 : Fz} {μ : Mu} {H : List Row} (h : HS P w F0 μ H) {b o : Nat} (hf : Ft F0 μ H b o) : b < w.heap.size := by
  rcases hf with hf | ⟨i, r, bs, hr, hl, hb, _⟩
  · exact h.bound b o hf
  · rcases h.row i r b bs hr hl hb with ⟨cur, hc, _⟩ | ⟨_, _, _, _, _, hc, _⟩
    · exact (Array.getElem?_eq_some_iff.1 hc).1
    · exact (Array.getElem?_eq_some_iff.1 hc).1
/-- Where there are cells, the row is one of cells. -/
theorem HS.cells {P : Program} {w : World} {F0 : Fz} {μ : Mu} {H : List Row} (hs : HS P w F0 μ H) {i : Nat} {r : Row} {b bs : Nat} {x : TypeId × Nat} (hr : H[i]? = some r) (hl : r.live = true) (hb : μ[i]? = some (b, bs)) (hsh : w.shape? b = some x) : CellsOK P w (Ft F0 μ H) μ r b bs := by
  rcases hs.row i r b bs hr hl hb with h | ⟨_, _, _, _, _, h, _⟩
  · exact h
  · simp [World.shape?, h] at hsh
theorem HS.cellsZ {P : Program} {w : World} {F0 : Fz} {μ : Mu} {H : List Row} (hs : HS P w F0 μ H) {i : Nat} {r : Row} {b bs : Nat} (hr : H[i]? = some r) (hl : r.live = true) (hb : μ[i]? = some (b, bs)) (hz : r.sz ≠ 0) : CellsOK P w (Ft F0 μ H) μ r b bs := by
  rcases hs.row i r b bs hr hl hb with h | ⟨_, h, _⟩
  · exact h
  · exact (hz h).elim

theorem HS.nil {P : Program} {w : World} {F0 : Fz} (hb : ∀ b o, F0 b o → b < w.heap.size) : HS P w F0 [] [] where
  len := rfl
  bound := hb
  row := by intro i r b bs h; simp at h
  inj := by intro i j r r' b bs bs' h; simp at h
  sep := by intro i r b bs o h; simp at h

/-- Where no row has turned. -/
theorem HS.keep {P : Program} {w w' : World} {F0 : Fz} {μ : Mu} {H : List Row} (h : HS P w F0 μ H) (hA : Adv w (Fof μ H) w' (Fof μ H)) (hrow : ∀ (i : Nat) (r : Row) (b bs : Nat), H[i]? = some r → r.live = true → μ[i]? = some (b, bs) → w'.heap[b]? = w.heap[b]?) : HS P w' F0 μ H where
  len := h.len
  bound := fun b o hf => Nat.lt_of_lt_of_le (h.bound b o hf) hA.size
  row := by
    intro i r b bs hr hl hb
    have hh := hrow i r b bs hr hl hb
    rcases h.row i r b bs hr hl hb with h1 | h1
    · exact .inl (h1.adv (hA.join F0) (List.prefix_refl _) hh)
    · exact .inr (h1.adv (hA.join F0) hh)
  inj := h.inj
  sep := h.sep

/-- Where nothing old was written. -/
theorem HS.ofNo {P : Program} {w w' : World} {F0 : Fz} {μ : Mu} {H : List Row} (h : HS P w F0 μ H) (hA : Adv w NoF w' NoF) : HS P w' F0 μ H :=
  h.keep (hA.ofNo _) fun i r b bs hr hl hb => hA.block b (h.lt (o := bs + r.f * r.sz) (.inr ⟨i, r, bs, hr, hl, hb, Nat.le_refl _⟩)) fun _ => id

structure Ctx where
  w : World
  μ : Mu
  F : Fz
  F0 : Fz

structure S where
  t : List A
  h : List Row

structure Sim (P : Program) (X : Ctx) (s : S) (a : Act) (w : World) (μ : Mu) : Prop where
  len : a.tmps.size = s.t.length
  rep : ∀ (i : Nat) (x : A), s.t[i]? = some x → Rep P w (Ft X.F0 μ s.h) μ x (a.tmps.getD i undef)
  hs : HS P w X.F0 μ s.h
  adv : Adv X.w X.F w (Fof μ s.h)
  pre : X.μ <+: μ
  defers : a.defers = []

def ofV1 : Value → A
  | .int k n => .int k n
  | .bool b => .bool b
  | .string s => .str s.data.toList
  | .slice none 0 0 => .sl true []
  | .pointer none => .nptr
  | .nilFunc => .nfn
  | _ => .any

def ofV : Value → A
  | .agg vs => if vs.toList.all (·.oneCell') then .agg (vs.toList.map ofV1) else .any
  | v => ofV1 v

theorem rep_ofV1 {P : Program} {w : World} {μ : Mu} {F : Fz} (v : Value) : Rep P w F μ (ofV1 v) v := by
  unfold ofV1
  split
  · exact .int _ _ _
  · exact .bool _ _
  · rename_i s; exact (by cases s with | mk d => cases d with | mk l => exact .str _ l)
  · exact .slnil _ _ _
  · exact .nptr _
  · exact .nfn _
  · exact .any _ _

theorem rep_ofV {P : Program} {w : World} {μ : Mu} {F : Fz} (v : Value) : Rep P w F μ (ofV v) v := by
  unfold ofV
  split
  · rename_i vs
    split
    · rename_i h
      cases vs with | mk l =>
      refine .agg _ _ l (by simp) (by simpa using h) ?_
      intro i c u hc hu
      simp at hc
      obtain ⟨x, hx, rfl⟩ := hc
      rw [hu] at hx; cases hx
      exact rep_ofV1 _
    · exact .any _ _
  · exact rep_ofV1 _

def ev (t : List A) : Operand → A
  | .tmp i => t.getD i .any
  | .const v => ofV v
  | .global _ => .any
  | .func f => .fn f []

theorem Sim.eval {P : Program} {X : Ctx} {s : S} {a : Act} {w : World} {μ : Mu} (h : Sim P X s a w μ) (x : Operand) : Rep P w (Ft X.F0 μ s.h) μ (ev s.t x) (a.eval x) := by
  cases x with
  | tmp i =>
    show Rep _ _ _ _ (s.t.getD i .any) (a.tmps.getD i undef)
    cases hx : s.t[i]? with
    | none => simp only [List.getD, hx, Option.getD]; exact .any _ _
    | some y => simp only [List.getD, hx, Option.getD]; exact h.rep i y hx
  | const v => exact rep_ofV v
  | global g => exact .any _ _
  | func f => exact .fn _ f [] [] rfl (by simp)

def put (t : List A) (d : Option Tmp) (r : A) : List A :=
  match d with
  | some i => t.set i r
  | none => t

/-- The state behind an operation that has yielded r. -/
theorem Sim.put {P : Program} {X : Ctx} {s : S} {a : Act} {w w' : World} {μ μ' : Mu} {H' : List Row} (h : Sim P X s a w μ) (d : Option Tmp) {r : A} {v : Value}
    (hs' : HS P w' X.F0 μ' H') (hA : Adv w (Fof μ s.h) w' (Fof μ' H')) (hp : μ <+: μ') (hr : Rep P w' (Ft X.F0 μ' H') μ' r v) :
    Sim P X ⟨AL.put s.t d r, H'⟩ (a.put d v) w' μ' where
  len := by
    cases d with
    | none => exact h.len
    | some i => simp [AL.put, Act.put, h.len]
  rep := by
    intro i x hx
    cases d with
    | none => exact (h.rep i x hx).adv (hA.join X.F0) hp
    | some j =>
      simp only [AL.put, List.getElem?_set] at hx
      have hg : (Act.put a (some j) v).tmps.getD i undef = if j = i ∧ i < a.tmps.size then v else a.tmps.getD i undef := by
        simp only [Act.put, Array.getD_eq_getD_getElem?, Array.getElem?_setIfInBounds]
        by_cases hji : j = i
        · subst hji
          by_cases hl : j < a.tmps.size <;> simp [hl]
        · simp [hji]
      rw [hg]
      by_cases hji : j = i
      · subst hji
        by_cases hl : j < s.t.length
        · simp [hl] at hx; subst hx; simp [h.len, hl]; exact hr
        · simp [hl] at hx
      · simp only [hji, if_false, false_and] at hx ⊢
        exact (h.rep i x hx).adv (hA.join X.F0) hp
  hs := hs'
  adv := h.adv.trans hA
  pre := h.pre.trans hp
  defers := by cases d <;> exact h.defers

inductive AX where
  | normal
  | exit (id : Nat)
  | ret

def AX.toExit : AX → Exit
  | .normal => .normal
  | .exit id => .exit id
  | .ret => .ret

def lift (P : Program) (X : Ctx) (Q : AX → S → Prop) : Exit → Act → World → Prop :=
  fun e a' w' => ∃ (x : AX) (s' : S) (μ' : Mu), e = x.toExit ∧ Q x s' ∧ Sim P X s' a' w' μ'

def awp (P : Program) (X : Ctx) (c : Code) (Q : AX → S → Prop) (s : S) : Prop :=
  ∀ a w μ, Sim P X s a w μ → c.wp P (lift P X Q) a w

theorem awp_mono {P : Program} {X : Ctx} {c : Code} {Q Q' : AX → S → Prop} {s : S} (h : awp P X c Q s) (hq : ∀ x s, Q x s → Q' x s) : awp P X c Q' s :=
  fun a w μ hs => Code.wp_mono (fun _ _ _ ⟨x, s', μ', he, hQ, hS⟩ => ⟨x, s', μ', he, hq _ _ hQ, hS⟩) (h a w μ hs)

def thenK (f : S → Prop) (Q : AX → S → Prop) : AX → S → Prop
  | .normal, s => f s
  | e, s => Q e s

theorem awp_seq {P : Program} {X : Ctx} {x y : Code} {Q : AX → S → Prop} {s : S} (h : awp P X x (thenK (awp P X y Q) Q) s) : awp P X (.seq x y) Q s := by
  intro a w μ hs
  refine wp_seq (Code.wp_mono ?_ (h a w μ hs))
  rintro e a' w' ⟨z, s', μ', rfl, hQ, hS⟩
  cases z with
  | normal => exact hQ a' w' μ' hS
  | exit id => exact ⟨.exit id, s', μ', rfl, hQ, hS⟩
  | ret => exact ⟨.ret, s', μ', rfl, hQ, hS⟩

theorem awp_skip {P : Program} {X : Ctx} {Q : AX → S → Prop} {s : S} (h : Q .normal s) : awp P X .skip Q s :=
  fun _ _ μ hs => wp_skip ⟨.normal, s, μ, rfl, h, hs⟩

theorem awp_exit {P : Program} {X : Ctx} {id : Nat} {Q : AX → S → Prop} {s : S} (h : Q (.exit id) s) : awp P X (.exit id) Q s :=
  fun _ _ μ hs => wp_exit ⟨.exit id, s, μ, rfl, h, hs⟩

theorem awp_ret {P : Program} {X : Ctx} {Q : AX → S → Prop} {s : S} (h : Q .ret s) : awp P X .ret Q s :=
  fun _ _ μ hs => wp_ret ⟨.ret, s, μ, rfl, h, hs⟩

def blockK (id : Nat) (Q : AX → S → Prop) : AX → S → Prop
  | .exit id', s => if id' = id then Q .normal s else Q (.exit id') s
  | e, s => Q e s

theorem awp_block {P : Program} {X : Ctx} {id : Nat} {c : Code} {Q : AX → S → Prop} {s : S} (h : awp P X c (blockK id Q) s) : awp P X (.block id c) Q s := by
  intro a w μ hs
  refine wp_block (Code.wp_mono ?_ (h a w μ hs))
  rintro e a' w' ⟨z, s', μ', rfl, hQ, hS⟩
  cases z with
  | normal => exact ⟨.normal, s', μ', rfl, hQ, hS⟩
  | ret => exact ⟨.ret, s', μ', rfl, hQ, hS⟩
  | exit id' =>
    simp only [blockK] at hQ
    simp only [AX.toExit, Exit.inBlock]
    split
    · rename_i h; rw [if_pos h] at hQ; exact ⟨.normal, s', μ', rfl, hQ, hS⟩
    · rename_i h; rw [if_neg h] at hQ; exact ⟨.exit id', s', μ', rfl, hQ, hS⟩

theorem Rep.bool_inv {P : Program} {w : World} {μ : Mu} {F : Fz} {b : Bool} {v : Value} (h : Rep P w F μ (.bool b) v) : v = .bool b := by cases h; rfl
theorem Rep.int_inv {P : Program} {w : World} {μ : Mu} {F : Fz} {k : IntKind} {n : Int} {v : Value} (h : Rep P w F μ (.int k n) v) : v = .int k n := by cases h; rfl
theorem Rep.str_inv {P : Program} {w : World} {μ : Mu} {F : Fz} {l : List UInt8} {v : Value} (h : Rep P w F μ (.str l) v) : v = .string ⟨⟨l⟩⟩ := by cases h; rfl

def condK (c : A) (p q : Prop) : Prop :=
  match c with
  | .bool b => (b = true → p) ∧ (b = false → q)
  | .ub => p ∧ q
  | _ => False

theorem awp_cond {P : Program} {X : Ctx} {c : Operand} {x y : Code} {Q : AX → S → Prop} {s : S} (h : condK (ev s.t c) (awp P X x Q s) (awp P X y Q s)) : awp P X (.cond c x y) Q s := by
  intro a w μ hs
  have hr := hs.eval c
  cases hc : ev s.t c with
  | bool b =>
    rw [hc] at hr h
    have hb := hr.bool_inv
    cases b with
    | true => exact wp_cond_true hb (h.1 rfl a w μ hs)
    | false => exact wp_cond_false hb (h.2 rfl a w μ hs)
  | ub =>
    rw [hc] at hr h
    generalize hv : a.eval c = v at hr
    cases hr with | ub _ b =>
    cases b with
    | true => exact wp_cond_true hv (h.1 a w μ hs)
    | false => exact wp_cond_false hv (h.2 a w μ hs)
  | _ => rw [hc] at h; exact h.elim

/-- What holds in s holds in s', which says less. -/
def Wk (P : Program) (X : Ctx) (s s' : S) : Prop := ∀ a w μ, Sim P X s a w μ → ∃ μ', Sim P X s' a w μ'

theorem Wk.refl {P : Program} {X : Ctx} (s : S) : Wk P X s s := fun _ _ μ h => ⟨μ, h⟩
theorem Wk.trans {P : Program} {X : Ctx} {s s1 s2 : S} (h : Wk P X s s1) (k : Wk P X s1 s2) : Wk P X s s2 := fun a w μ hs => let ⟨μ1, h1⟩ := h a w μ hs; k a w μ1 h1
theorem awp_weaken {P : Program} {X : Ctx} {c : Code} {Q : AX → S → Prop} {s s' : S} (hw : Wk P X s s') (h : awp P X c Q s') : awp P X c Q s :=
  fun a w μ hs => let ⟨μ1, h1⟩ := hw a w μ hs; h a w μ1 h1

/-- Slot by slot: the same, or forgotten. -/
def sle : List A → List A → Prop
  | [], [] => True
  | x :: xs, y :: ys => (y = .any ∨ x = y) ∧ sle xs ys
  | _, _ => False

theorem sle_len : ∀ {xs ys : List A}, sle xs ys → xs.length = ys.length
  | [], [], _ => rfl
  | _ :: _, _ :: _, h => by simpa using sle_len h.2
  | [], _ :: _, h => h.elim
  | _ :: _, [], h => h.elim

theorem sle_get : ∀ {xs ys : List A}, sle xs ys → ∀ (i : Nat) (y : A), ys[i]? = some y → y = .any ∨ xs[i]? = some y
  | [], [], _, i, y, h => by simp at h
  | x :: xs, y' :: ys, h, 0, y, hy => by simp at hy; subst hy; rcases h.1 with h1 | h1; exact .inl h1; exact .inr (by simp [h1])
  | x :: xs, y' :: ys, h, i + 1, y, hy => by simp at hy ⊢; exact sle_get h.2 i y hy
  | [], _ :: _, h, _, _, _ => h.elim
  | _ :: _, [], h, _, _, _ => h.elim

theorem Wk.slots {P : Program} {X : Ctx} {t t' : List A} {H : List Row} (h : sle t t') : Wk P X ⟨t, H⟩ ⟨t', H⟩ := by
  intro a w μ hs
  refine ⟨μ, ?_, ?_, hs.hs, hs.adv, hs.pre, hs.defers⟩
  · rw [hs.len]; exact sle_len h
  · intro i y hy
    rcases sle_get h i y hy with rfl | hx
    · exact .any _ _
    · exact hs.rep i y hx

/-- A loop: 'I' gives the state at the head of a round for each value of the loop's own variables. 'm' goes down. -/
theorem awp_loop {P : Program} {X : Ctx} {c : Code} {Q : AX → S → Prop} {s : S} {σ : Type} (I : σ → S) (inv : σ → Prop) (m : σ → Nat) (x0 : σ) (h0 : Wk P X s (I x0)) (hi : inv x0)
    (round : ∀ x, inv x → awp P X c (thenK (fun s' => ∃ y, Wk P X s' (I y) ∧ inv y ∧ m y < m x) Q) (I x)) : awp P X (.loop c) Q s := by
  intro a w μ hs b k cs
  obtain ⟨μ, hs⟩ := h0 a w μ hs
  have key : ∀ n, ∀ x a w μ, m x = n → inv x → Sim P X (I x) a w μ →
      ∃ e a' w', lift P X Q e a' w' ∧ Arrives P (lone (b.at a (.code c :: .inLoop c :: k)) cs w) b k cs e a' w' := by
    intro n
    induction n using Nat.strongRecOn with
    | _ n ih =>
      intro x a w μ hm hx hs
      obtain ⟨e, a1, w1, ⟨z, s1, μ1, rfl, hQ, hS⟩, harr⟩ := round x hx a w μ hs b (.inLoop c :: k) cs
      cases z with
      | normal =>
        obtain ⟨y, hwk, hy, hlt⟩ := hQ
        obtain ⟨μ1, hS⟩ := hwk a1 w1 μ1 hS
        obtain ⟨e2, a2, w2, hq2, harr2⟩ := ih (m y) (hm ▸ hlt) y a1 w1 μ1 rfl hy hS
        exact ⟨e2, a2, w2, hq2, .of_steps (Steps.trans harr (.one step_inLoop)) harr2⟩
      | exit id => exact ⟨_, a1, w1, ⟨.exit id, s1, μ1, rfl, hQ, hS⟩, .pass (x := .inLoop c) rfl (fun _ _ => .inl (by simp [AX.toExit])) harr⟩
      | ret => exact ⟨_, a1, w1, ⟨.ret, s1, μ1, rfl, hQ, hS⟩, .pass (x := .inLoop c) rfl (fun _ _ => .inl (by simp [AX.toExit])) harr⟩
  obtain ⟨e, a', w', hq, harr⟩ := key (m x0) x0 a w μ rfl hi hs
  exact ⟨e, a', w', hq, .of_steps (.one step_loop) harr⟩
end Go.AL
/- An abstract layer over the walk, 3: the operations that write nothing. No program in sight. -/
namespace Go.AL

theorem shp_cells {P : Program} {t : TypeId} {e : A} {w : World} {F : Fz} {μ : Mu} {V : Value} (h : shp P t e = true) (hr : Rep P w F μ e V) (hz : P.cellsOf t ≠ 0) :
    V.cells.size = P.cellsOf t ∧ ∀ u ∈ V.cells.toList, u.oneCell' = true := by
  have hn := shp_ncells h hz
  obtain ⟨h1, h2, _⟩ := hr.cells (.inl (by omega))
  exact ⟨by rw [h1, A.ncells_eq (by omega), hn], h2⟩

/-! Integers, strings, truth values. -/
def aint (op : BinOp) (k : IntKind) (a b : Int) : Option A :=
  match op with
  | .add => some (.int k (k.wrap (a + b)))
  | .sub => some (.int k (k.wrap (a - b)))
  | .mul => some (.int k (k.wrap (a * b)))
  | .quo => if b = 0 then none else some (.int k (k.wrap (a.tdiv b)))
  | .rem => if b = 0 then none else some (.int k (a.tmod b))
  | .eql => some (.bool (decide (a = b)))
  | .neq => some (.bool (!decide (a = b)))
  | .lss => some (.bool (decide (a < b)))
  | .leq => some (.bool (decide (a ≤ b)))
  | .gtr => some (.bool (decide (b < a)))
  | .geq => some (.bool (decide (b ≤ a)))
  | .and => if k = .u64 ∧ b = 4294967295 ∧ 0 ≤ a then some (.int k (a % 4294967296)) else none
  | .shr => if k = .u64 ∧ b = 32 then some (.int k (a / 4294967296)) else if k = .u64 ∧ b = 1 then some (.int k (a / 2)) else none
  | _ => none

theorem and_mask (a : Int) (h0 : 0 ≤ a) : IntKind.u64.wrap ((BitVec.ofInt 64 a &&& BitVec.ofInt 64 4294967295).toNat : Int) = a % 4294967296 := by
  obtain ⟨n, rfl⟩ := Int.eq_ofNat_of_zero_le h0
  have e1 : (BitVec.ofInt 64 (n : Int) &&& BitVec.ofInt 64 4294967295).toNat = n % 4294967296 := by
    rw [BitVec.toNat_and]
    have e2 : (BitVec.ofInt 64 4294967295).toNat = 2 ^ 32 - 1 := by decide
    rw [e2, Nat.and_two_pow_sub_one_eq_mod]
    have e3 : (BitVec.ofInt 64 (n : Int)).toNat = n % 18446744073709551616 := by rw [BitVec.ofInt_natCast, BitVec.toNat_ofNat]
    rw [e3]; omega
  rw [e1, IntKind.wrap_u64]
  omega

def astr (op : BinOp) (a b : List UInt8) : Option A :=
  match op with
  | .add => if a.length + b.length ≤ 9223372036854775807 then some (.str (a ++ b)) else none
  | .eql => some (.bool (decide (a = b)))
  | .neq => some (.bool (!decide (a = b)))
  | .lss => some (.bool (Op.bytesLess a b))
  | .leq => some (.bool (Op.bytesLess a b || decide (a = b)))
  | .gtr => some (.bool (!(Op.bytesLess a b || decide (a = b))))
  | .geq => some (.bool (!(Op.bytesLess a b)))
  | _ => none

/-- Is it the nil slice? -/
def A.nilB : A → A
  | .sl _ [] => .ub
  | .sl _ (_ :: _) => .bool false
  | .own _ _ len _ _ => if len = 0 then .ub else .bool false
  | _ => .any

def abin (P : Program) (op : BinOp) (t : TypeId) (x y : A) : Option A :=
  match x, y with
  | .int k a, .int k' b => if k = k' then (match op with | .shl => none | _ => aint op k a b) else none
  | .str a, .str b => astr op a b
  | .bool a, .bool b =>
    match P.underlying t, op with
    | some .bool, .eql => some (.bool (a == b))
    | some .bool, .neq => some (.bool (a != b))
    | _, _ => none
  | _, _ => none

/-- Held against the nil that the text names. -/
def acmpNil (P : Program) (op : BinOp) (t : TypeId) (x : A) : Option A :=
  match P.underlying t, op, x.nilB with
  | some (.slice _), .eql, .bool b => some (.bool b)
  | some (.slice _), .eql, .ub => some .ub
  | some (.slice _), .neq, .bool b => some (.bool !b)
  | some (.slice _), .neq, .ub => some .ub
  | _, _, _ => none

def nilOp : Operand → Bool
  | .const (.slice none 0 0) => true
  | _ => false

theorem Rep.nilB_some {P : Program} {w : World} {F : Fz} {μ : Mu} {x : A} {v : Value} (h : Rep P w F μ x v) : (x.nilB = .ub → ∃ a n c, v = .slice a n c) ∧ (∀ b, x.nilB = .bool b → ∃ a n c, v = .slice a n c ∧ a.isNone = b) := by
  cases h with
  | slnil _ _ _ => exact ⟨fun _ => ⟨_, _, _, rfl⟩, by simp [A.nilB]⟩
  | sl _ _ es => exact ⟨fun _ => ⟨_, _, _, rfl⟩, by cases es <;> simp [A.nilB]⟩
  | own => exact ⟨fun _ => ⟨_, _, _, rfl⟩, by intro b; simp only [A.nilB]; split <;> simp⟩
  | ownn => exact ⟨fun _ => ⟨_, _, _, rfl⟩, by simp [A.nilB]⟩
  | _ => simp [A.nilB]

theorem run_eqIn_bool {P : Program} {t : TypeId} (h : P.underlying t = some .bool) (d : Nat) (a b : Bool) (w : World) : (Op.equalIn (d + 1) t (.bool a) (.bool b)).run P w = .ok (a == b) w := by
  simp [Op.equalIn, run_underlying h]
theorem run_eqIn_sliceR {P : Program} {t e : TypeId} (h : P.underlying t = some (.slice e)) (d : Nat) (n c : Nat) (a : Option Addr) (n' c' : Nat) (w : World) : (Op.equalIn (d + 1) t (.slice a n' c') (.slice none n c)).run P w = .ok a.isNone w := by
  cases a <;> simp [Op.equalIn, run_underlying h]
theorem run_eql_bool {P : Program} {t : TypeId} (h : P.underlying t = some .bool) (a b : Bool) (w : World) : (binOp .eql t (.bool a) (.bool b)).run P w = .ok (.bool (a == b)) w := by
  simp only [binOp]; simp [Op.equal, Op.maxDepth, run_eqIn_bool h 9999]
theorem run_neq_bool {P : Program} {t : TypeId} (h : P.underlying t = some .bool) (a b : Bool) (w : World) : (binOp .neq t (.bool a) (.bool b)).run P w = .ok (.bool (a != b)) w := by
  simp only [binOp]; simp [Op.equal, Op.maxDepth, run_eqIn_bool h 9999]; cases a <;> cases b <;> rfl
theorem run_eql_slicenilR {P : Program} {t e : TypeId} (h : P.underlying t = some (.slice e)) (n c : Nat) (a : Option Addr) (n' c' : Nat) (w : World) : (binOp .eql t (.slice a n' c') (.slice none n c)).run P w = .ok (.bool a.isNone) w := by
  simp only [binOp]; simp [Op.equal, Op.maxDepth, run_eqIn_sliceR h 9999]
theorem run_neq_slicenilR {P : Program} {t e : TypeId} (h : P.underlying t = some (.slice e)) (n c : Nat) (a : Option Addr) (n' c' : Nat) (w : World) : (binOp .neq t (.slice a n' c') (.slice none n c)).run P w = .ok (.bool !a.isNone) w := by
  simp only [binOp]; simp [Op.equal, Op.maxDepth, run_eqIn_sliceR h 9999]

theorem s_aint {P : Program} {op : BinOp} {k : IntKind} {a b : Int} {r : A} {t : TypeId} (hs : op ≠ .shl) (h : aint op k a b = some r) (w : World) (F : Fz) (μ : Mu) :
    ∃ v, (∀ w', Cn w w' → (binOp op t (.int k a) (.int k b)).run P w' = .ok v w') ∧ Rep P w F μ r v := by
  cases op <;> simp [aint] at h
  case and =>
    obtain ⟨⟨rfl, rfl, h0⟩, rfl⟩ := h
    refine ⟨_, fun w' _ => ?_, .int _ _ _⟩
    have e : (binOp .and t (.int .u64 a) (.int .u64 4294967295)).run P w' = .ok (.int .u64 (IntKind.u64.wrap ((BitVec.ofInt 64 a &&& BitVec.ofInt 64 4294967295).toNat : Int))) w' := by
      simp only [binOp, Op.intBits]
      rfl
    rw [e, and_mask a h0]
  case shr =>
    by_cases q : k = .u64 ∧ b = 32
    · rw [if_pos q] at h
      obtain ⟨rfl, rfl⟩ := q
      cases h
      refine ⟨_, fun w' _ => ?_, .int _ _ _⟩
      have e : min (32 : Int).toNat IntKind.u64.bits = 32 := by decide
      simp only [binOp, Op.shift, e]
      rw [if_neg (by decide), Int.fdiv_eq_ediv_of_nonneg _ (by decide)]
      rfl
    rw [if_neg q] at h
    by_cases q : k = .u64 ∧ b = 1
    · rw [if_pos q] at h
      obtain ⟨rfl, rfl⟩ := q
      cases h
      refine ⟨_, fun w' _ => ?_, .int _ _ _⟩
      have e : min (1 : Int).toNat IntKind.u64.bits = 1 := by decide
      simp only [binOp, Op.shift, e]
      rw [if_neg (by decide), Int.fdiv_eq_ediv_of_nonneg _ (by decide)]
      rfl
    · rw [if_neg q] at h
      cases h
  all_goals try (subst h; refine ⟨_, fun w' _ => by (simp [go_sem, Op.intArith]; try rfl), ?_⟩; first | exact .int _ _ _ | exact .bool _ _)
  all_goals (obtain ⟨h0, rfl⟩ := h; refine ⟨_, fun w' _ => by (simp [go_sem, Op.intDiv, h0]; try rfl), .int _ _ _⟩)

theorem s_astr {P : Program} {op : BinOp} {a b : List UInt8} {r : A} {t : TypeId} (h : astr op a b = some r) (w : World) (F : Fz) (μ : Mu) :
    ∃ v, (∀ w', Cn w w' → (binOp op t (.string ⟨⟨a⟩⟩) (.string ⟨⟨b⟩⟩)).run P w' = .ok v w') ∧ Rep P w F μ r v := by
  have e1 : ByteArray.toList ⟨⟨a⟩⟩ = a := ByteArray.toList_mk a
  have e2 : ByteArray.toList ⟨⟨b⟩⟩ = b := ByteArray.toList_mk b
  have e3 : (a == b) = decide (a = b) := by rw [Bool.eq_iff_iff]; simp
  cases op <;> simp [astr] at h
  case add =>
    obtain ⟨h0, rfl⟩ := h
    refine ⟨.string ⟨⟨a ++ b⟩⟩, fun w' _ => ?_, .str _ _⟩
    have hs : (⟨⟨a⟩⟩ : ByteArray).size = a.length := rfl
    have hs2 : (⟨⟨b⟩⟩ : ByteArray).size = b.length := rfl
    have hm : IntKind.i64.max = 9223372036854775807 := by decide
    have hap : (⟨⟨a⟩⟩ : ByteArray) ++ (⟨⟨b⟩⟩ : ByteArray) = ⟨⟨a ++ b⟩⟩ := by
      apply ByteArray.ext; simp [ByteArray.data_append]
    simp only [binOp, Op.stringOp, hs, hs2, hm, hap]
    rw [if_neg (by omega)]; rfl
  all_goals (subst h; simp only [binOp, Op.stringOp, e1, e2, e3, Sem.run_pure]; exact ⟨_, fun w' _ => rfl, by first | exact .bool _ _ | (rw [Bool.not_or]; exact .bool _ _)⟩)

theorem s_abin {P : Program} {op : BinOp} {t : TypeId} {x y r : A} {vx vy : Value} {w : World} {F : Fz} {μ : Mu} (X Y : Operand) (hx : Rep P w F μ x vx) (hy : Rep P w F μ y vy) (h : abin P op t x y = some r) :
    ∃ v, (∀ w', Cn w w' → ((do eqGuard op t X Y vx vy; binOp op t vx vy) : Sem Value).run P w' = .ok v w') ∧ Rep P w F μ r v := by
  unfold abin at h
  split at h
  · rename_i k a k' b
    cases hx; cases hy
    split at h
    · rename_i hk; subst hk
      simp only [eqGuard_at_int]
      split at h
      · cases h
      · rename_i h1
        exact s_aint (by intro e; exact h1 e) h w F μ
    · cases h
  · cases hx; cases hy
    simp only [eqGuard_at_string]
    exact s_astr h w F μ
  · cases hx; cases hy
    simp only [eqGuard_at_bool]
    split at h
    · rename_i hu; cases h; exact ⟨_, fun w' _ => run_eql_bool hu _ _ w', .bool _ _⟩
    · rename_i hu; cases h; exact ⟨_, fun w' _ => run_neq_bool hu _ _ w', .bool _ _⟩
    · cases h
  · cases h

theorem s_acmpNil {P : Program} {op : BinOp} {t : TypeId} {x r : A} {vx : Value} {w : World} {F : Fz} {μ : Mu} (X Y : Operand) (hx : Rep P w F μ x vx) (h : acmpNil P op t x = some r) :
    ∃ v, (∀ w', Cn w w' → ((do eqGuard op t X Y vx (.slice none 0 0); binOp op t vx (.slice none 0 0)) : Sem Value).run P w' = .ok v w') ∧ Rep P w F μ r v := by
  obtain ⟨h1, h2⟩ := hx.nilB_some
  unfold acmpNil at h
  split at h
  · rename_i hu hb; cases h
    obtain ⟨a, n, c, rfl, rfl⟩ := h2 _ hb
    simp only [eqGuard_at_slice]
    exact ⟨_, fun w' _ => run_eql_slicenilR hu _ _ _ _ _ w', .bool _ _⟩
  · rename_i hu hb; cases h
    obtain ⟨a, n, c, rfl⟩ := h1 hb
    simp only [eqGuard_at_slice]
    exact ⟨_, fun w' _ => run_eql_slicenilR hu _ _ _ _ _ w', .ub _ _⟩
  · rename_i hu hb; cases h
    obtain ⟨a, n, c, rfl, rfl⟩ := h2 _ hb
    simp only [eqGuard_at_slice]
    exact ⟨_, fun w' _ => run_neq_slicenilR hu _ _ _ _ _ w', .bool _ _⟩
  · rename_i hu hb; cases h
    obtain ⟨a, n, c, rfl⟩ := h1 hb
    simp only [eqGuard_at_slice]
    exact ⟨_, fun w' _ => run_neq_slicenilR hu _ _ _ _ _ w', .ub _ _⟩
  · cases h

/-! Parts of structs and arrays. -/
def hasU (P : Program) (t : TypeId) : Bool := (P.underlying t).isSome

/-- A field's type, and its place. -/
def fld (P : Program) (t : TypeId) (f : Nat) : Option (TypeId × Nat) :=
  match P.underlying t with
  | some (.struct fs) => (fs[f]?).map fun fd => (fd.type, fd.offset)
  | _ => none

theorem fld_some {P : Program} {t : TypeId} {f ft off : Nat} (h : fld P t f = some (ft, off)) : ∃ fs fd, P.underlying t = some (.struct fs) ∧ fs[f]? = some fd ∧ fd.type = ft ∧ fd.offset = off := by
  unfold fld at h
  split at h
  · rename_i fs hu
    obtain ⟨fd, h1, h2⟩ := Option.map_eq_some_iff.1 h
    cases h2
    exact ⟨fs, fd, hu, h1, rfl, rfl⟩
  · cases h

def apart (P : Program) (t : TypeId) (cs : List A) (off : Nat) : Option A :=
  if hasU P t then if P.cellsOf t = 0 then none else if aggT P t then some (.agg ((cs.drop off).take (P.cellsOf t))) else cs[off]? else none

theorem run_isAgg {P : Program} {t : TypeId} {d : TypeDesc} (h : P.underlying t = some d) (w : World) : (isAgg t).run P w = .ok (aggT P t) w := by
  simp only [isAgg, Sem.run_bind, run_underlying h, Result.andThen, aggT, h]
  cases d <;> rfl

theorem run_sizeOf {P : Program} {t : TypeId} {i : TypeInfo} (h : P.info? t = some i) (w : World) : (sizeOf t).run P w = .ok i.size w := by
  simp [sizeOf, typeInfo, h]

theorem cellsOf_info {P : Program} {t : TypeId} {i : TypeInfo} (h : P.info? t = some i) : P.cellsOf t = i.size := by simp [Program.cellsOf, h]

theorem info_of_cells {P : Program} {t : TypeId} (h : P.cellsOf t ≠ 0) : ∃ i, P.info? t = some i ∧ P.cellsOf t = i.size := by
  cases hi : P.info? t with
  | none => simp [Program.cellsOf, hi] at h
  | some i => exact ⟨i, rfl, cellsOf_info hi⟩

theorem s_apart {P : Program} {t : TypeId} {cs : List A} {off : Nat} {r : A} {vs : List Value} {w : World} {F : Fz} {μ : Mu} (hl : vs.length = cs.length) (h1 : ∀ u ∈ vs, u.oneCell' = true)
    (h : ∀ (i : Nat) (c : A) (u : Value), cs[i]? = some c → vs[i]? = some u → Rep P w F μ c u) (hr : apart P t cs off = some r) :
    ∃ v, (∀ w', Cn w w' → (part t ⟨vs⟩ off).run P w' = .ok v w') ∧ Rep P w F μ r v ∧ (r.ncells ≠ 0 → ∀ j u, v.cells[j]? = some u → vs[off + j]? = some u) := by
  unfold apart at hr
  split at hr
  · rename_i hd
    obtain ⟨d, hd⟩ := Option.isSome_iff_exists.1 hd
    split at hr
    · cases hr
    rename_i hz0
    obtain ⟨i, hi, hsi⟩ := info_of_cells hz0
    rw [hsi] at hr
    split at hr
    · rename_i hagg; cases hr
      refine ⟨.agg ⟨(vs.drop off).take i.size⟩, fun w' _ => ?_, .agg _ _ _ (by simp [hl]) (fun u hu => h1 u (List.mem_of_mem_drop (List.mem_of_mem_take hu))) ?_, ?_⟩
      · simp only [part, Sem.run_bind, run_isAgg hd, Result.andThen, hagg, if_true, run_sizeOf hi, Sem.run_pure]
        congr 2
        apply Array.ext'; simp
      · intro k c u hc hu
        simp only [List.getElem?_take, List.getElem?_drop] at hc hu
        split at hc <;> rename_i hk
        · rw [if_pos hk] at hu; exact h _ c u hc hu
        · cases hc
      · intro _ j u hu
        simp only [Value.cells, List.getElem?_toArray, List.getElem?_take, List.getElem?_drop] at hu
        split at hu
        · exact hu
        · cases hu
    · rename_i hagg
      have hlt : off < vs.length := by rw [hl]; exact (List.getElem?_eq_some_iff.1 hr).1
      have hv : vs[off]? = some vs[off] := List.getElem?_eq_getElem hlt
      have hone := h1 _ (List.getElem_mem hlt)
      refine ⟨vs[off], fun w' _ => ?_, h off r _ hr hv, ?_⟩
      · simp only [part, Sem.run_bind, run_isAgg hd, Result.andThen, hagg, if_false, Bool.false_eq_true, List.getElem?_toArray, hv, Sem.run_pure]
      · intro _ j u hu
        have hc : vs[off].cells = #[vs[off]] := by cases hx : vs[off] <;> simp_all [Value.cells, Value.oneCell']
        rw [hc] at hu
        cases j with
        | zero => simpa using hu ▸ hv
        | succ j => simp at hu
  · cases hr

def afield (P : Program) (t : TypeId) (x : A) (f : Nat) : Option A :=
  match x with
  | .agg cs => (fld P t f).bind fun fd => apart P fd.1 cs fd.2
  | _ => none

theorem s_afield {P : Program} {t : TypeId} {x r : A} {f : Nat} {v : Value} {w : World} {F : Fz} {μ : Mu} (hx : Rep P w F μ x v) (h : afield P t x f = some r) :
    ∃ u, (∀ w', Cn w w' → (Instr.field t v f).run P w' = .ok u w') ∧ Rep P w F μ r u := by
  unfold afield at h
  split at h
  · rename_i cs
    cases hx with | agg _ _ vs hl h1 hh =>
    obtain ⟨⟨ft, fo⟩, hf, hp⟩ := Option.bind_eq_some_iff.1 h
    obtain ⟨fs, fd, hu, hfd, rfl, rfl⟩ := fld_some hf
    obtain ⟨u, h2, h3, _⟩ := s_apart hl h1 hh hp
    refine ⟨u, fun w' hw => ?_, h3⟩
    simp [Instr.field, run_underlying hu, hfd, asAgg, h2 w' hw]
  · cases h

def aextract (x : A) (i : Nat) : Option A :=
  match x with
  | .tup vs => vs[i]?
  | _ => none

theorem s_aextract {P : Program} {x r : A} {i : Nat} {v : Value} {w : World} {F : Fz} {μ : Mu} (hx : Rep P w F μ x v) (h : aextract x i = some r) :
    ∃ u, (∀ w', Cn w w' → (Instr.extract v i).run P w' = .ok u w') ∧ Rep P w F μ r u := by
  unfold aextract at h
  split at h
  · cases hx with | tup _ cs vs hl hh =>
    have hlt : i < vs.length := by rw [hl]; exact (List.getElem?_eq_some_iff.1 h).1
    have hv : vs[i]? = some vs[i] := List.getElem?_eq_getElem hlt
    exact ⟨vs[i], fun w' _ => by simp [Instr.extract, hv], hh i r _ h hv⟩
  · cases h

def aun (op : UnOp) (x : A) : Option A :=
  match op, x with
  | .neg, .int k n => some (.int k (k.wrap (0 - n)))
  | .not, .bool b => some (.bool (!b))
  | _, _ => none

theorem s_aun {P : Program} {op : UnOp} {x r : A} {v : Value} {w : World} {F : Fz} {μ : Mu} (hx : Rep P w F μ x v) (h : aun op x = some r) :
    ∃ u, (∀ w', Cn w w' → (Op.unary op v).run P w' = .ok u w') ∧ Rep P w F μ r u := by
  unfold aun at h
  split at h
  · cases hx; cases h; exact ⟨.int _ _, fun w' _ => by simp [Op.unary, Op.intArith], .int _ _ _⟩
  · cases hx; cases h; exact ⟨.bool _, fun w' _ => by simp [Op.unary], .bool _ _⟩
  · cases h

def aconv (P : Program) (src dst : TypeId) (x : A) : Option A :=
  match P.underlying src, P.underlying dst, x with
  | some _, some (.int k), .int _ n => some (.int k (k.wrap n))
  | some _, some .string, .str s => some (.str s)
  | _, _, _ => none

theorem s_aconv {P : Program} {s d : TypeId} {x r : A} {v : Value} {w : World} {F : Fz} {μ : Mu} (hx : Rep P w F μ x v) (h : aconv P s d x = some r) :
    ∃ u, (∀ w', Cn w w' → (convert s d v).run P w' = .ok u w') ∧ Rep P w F μ r u := by
  unfold aconv at h
  split at h
  · rename_i hs hd; cases hx; cases h; exact ⟨.int _ _, fun w' _ => by simp [convert, run_underlying hs, run_underlying hd, Conv.intToInt], .int _ _ _⟩
  · rename_i hs hd; cases hx; cases h; exact ⟨.string _, fun w' _ => by simp [convert, run_underlying hs, run_underlying hd], .str _ _⟩
  · cases h

/-! Reading memory. -/
def aidx (P : Program) (H : List Row) (t : TypeId) (x i : A) : Option A :=
  match P.underlying t, x, i with
  | some (.slice e), .sl _ es, .int _ n =>
    if 0 ≤ n ∧ n < es.length ∧ P.cellsOf e ≠ 0 then (es[n.toNat]?).bind fun d => if d.ncells = P.cellsOf e then some (.ptr d) else none else none
  | some (.slice e), .own id off len _ _, .int _ n =>
    (H[id]?).bind fun r => if r.live = true ∧ r.ty = e ∧ 0 ≤ n ∧ n < len then some (.pto id r.sz (off + n.toNat) 0) else none
  | some (.array k e), .pto id sz j co, .int _ n =>
    if P.cellsOf e ≠ 0 ∧ 0 ≤ n ∧ n < k then some (.pto id sz j (co + n.toNat * P.cellsOf e)) else none
  | some (.array k e), .ptr (.agg cs), .int _ n =>
    if 0 ≤ n ∧ n < k ∧ P.cellsOf e ≠ 0 then (apart P e cs (n.toNat * P.cellsOf e)).bind fun d => if d.ncells ≠ 0 then some (.ptr d) else none else none
  | _, _, _ => none

theorem run_indexAt_sl {P : Program} {t e : TypeId} (h : P.underlying t = some (.slice e)) {i : TypeInfo} (hi : P.info? e = some i) (a : Addr) (len cap : Nat) (k : IntKind) (n : Int) (h0 : 0 ≤ n) (h1 : n < len) (w : World) :
    (Instr.indexAt t (.slice (some a) len cap) (.int k n)).run P w = .ok (.pointer (some (a.add (n.toNat * i.size)))) w := by
  simp [Instr.indexAt, run_underlying h, asIntOf, h0, h1, run_sizeOf hi]

theorem run_indexAt_ar {P : Program} {t e : TypeId} {m : Nat} (h : P.underlying t = some (.array m e)) {i : TypeInfo} (hi : P.info? e = some i) (a : Addr) (k : IntKind) (n : Int) (h0 : 0 ≤ n) (h1 : n < m) (w : World) :
    (Instr.indexAt t (.pointer (some a)) (.int k n)).run P w = .ok (.pointer (some (a.add (n.toNat * i.size)))) w := by
  simp [Instr.indexAt, run_underlying h, asIntOf, Instr.sureAddr, h0, h1, run_sizeOf hi]

theorem s_aidx {P : Program} {H : List Row} {t : TypeId} {x i r : A} {vx vi : Value} {w : World} {F0 : Fz} {μ : Mu} (hs : HS P w F0 μ H) (hx : Rep P w (Ft F0 μ H) μ x vx) (hi : Rep P w (Ft F0 μ H) μ i vi) (h : aidx P H t x i = some r) :
    ∃ u, (∀ w', Cn w w' → (Instr.indexAt t vx vi).run P w' = .ok u w') ∧ Rep P w (Ft F0 μ H) μ r u := by
  unfold aidx at h
  split at h
  · rename_i e full es k n hu
    cases hi
    split at h
    · rename_i hb
      obtain ⟨d, hd, h⟩ := Option.bind_eq_some_iff.1 h
      cases hx with
      | slnil _ _ _ => simp at hd
      | sl _ _ _ b off m cap sz V hn hcap hmax hfull hsz hrep hcell =>
      split at h
      · rename_i hnc; cases h
        obtain ⟨inf, hinf, hsi⟩ := info_of_cells hb.2.2
        refine ⟨_, fun w' _ => run_indexAt_sl hu hinf _ _ _ _ _ hb.1 (by rw [hn]; exact hb.2.1) w', ?_⟩
        rw [Addr.add_lit]
        have hz : sz = inf.size := by rw [← hsz _ _ hd, hnc, hsi]
        refine .ptr _ d b _ (V n.toNat) (hrep _ _ hd) (by rw [hnc]; exact hb.2.2) ?_
        intro j u hju
        have := hcell _ _ hd j u hju
        rw [hz] at this
        exact this
      · cases h
    · cases h
  · rename_i e id off len cb ex k n hu
    cases hi
    obtain ⟨row, hrow, h⟩ := Option.bind_eq_some_iff.1 h
    split at h
    · rename_i hb; cases h
      obtain ⟨hl, hty, h0, h1⟩ := hb
      cases hx with | ownn _ _ _ a => omega | own _ _ _ _ _ _ b bs cap ty m hμ hsh hfit hlen hcb hmax hex ao hat =>
      obtain rfl := hat (by omega)
      obtain ⟨cur, hc, hrs, hrz, _⟩ := hs.cells hrow hl hμ hsh
      have : ty = e := by
        simp only [World.shape?, hc] at hsh
        simp at hsh; rw [← hsh.1, hty]
      subst this
      rw [hty] at hrs
      obtain ⟨inf, hinf, hsi⟩ := info_of_cells (P := P) (t := ty) (by omega)
      refine ⟨_, fun w' _ => run_indexAt_sl hu hinf _ _ _ _ _ h0 (by exact h1) w', ?_⟩
      rw [Addr.add_lit]
      have e : bs + off * P.cellsOf ty + n.toNat * inf.size = bs + (off + n.toNat) * row.sz + 0 := by rw [hrs, hsi, Nat.add_mul]; omega
      rw [e]
      exact .pto _ _ _ _ _ _ _ hμ
    · cases h
  · rename_i m e id sz j co k n hu
    cases hi
    split at h
    · rename_i hb; cases h
      cases hx with | pto _ _ _ _ _ b bs hμ =>
      obtain ⟨inf, hinf, _⟩ := info_of_cells hb.1
      refine ⟨_, fun w' _ => run_indexAt_ar hu hinf _ _ _ hb.2.1 hb.2.2 w', ?_⟩
      rw [Addr.add_lit, ← cellsOf_info hinf, Nat.add_assoc]
      exact .pto _ _ _ _ _ _ _ hμ
    · cases h
  · rename_i m e cs k n hu
    cases hi
    split at h
    · rename_i hb
      obtain ⟨d, hd, h⟩ := Option.bind_eq_some_iff.1 h
      split at h
      · rename_i hnc; cases h
        obtain ⟨inf, hinf, hsi⟩ := info_of_cells hb.2.2
        cases hx with | ptr _ _ b off v hrep hnc' hcell =>
        cases hrep with | agg _ _ vs hl h1 hh =>
        obtain ⟨u, _, h3, h4⟩ := s_apart hl h1 hh hd
        refine ⟨_, fun w' _ => run_indexAt_ar hu hinf _ _ _ hb.1 hb.2.1 w', ?_⟩
        rw [Addr.add_lit]
        refine .ptr _ d b _ u h3 hnc ?_
        intro j y hy
        have := hcell (n.toNat * P.cellsOf e + j) y (by simpa [Value.cells] using h4 hnc j y hy)
        rw [hsi] at this
        rw [Nat.add_assoc]; exact this
      · cases h
    · cases h
  · cases h

/-- The zero value of a type, and its bytes. -/
def zbox (P : Program) (t : TypeId) : Option (A × Nat) :=
  (P.info? t).bind fun inf => inf.zero.bind fun z => if z.cells.size = inf.size then some (ofV z, inf.bytes) else none

theorem zbox_some {P : Program} {t : TypeId} {z : A} {n : Nat} (h : zbox P t = some (z, n)) : ∃ inf zv, P.info? t = some inf ∧ inf.zero = some zv ∧ zv.cells.size = inf.size ∧ z = ofV zv ∧ n = inf.bytes := by
  obtain ⟨inf, h1, h⟩ := Option.bind_eq_some_iff.1 h
  obtain ⟨zv, h2, h⟩ := Option.bind_eq_some_iff.1 h
  split at h
  · rename_i h3; cases h; exact ⟨inf, zv, h1, h2, h3, rfl, rfl⟩
  · cases h
end Go.AL
/- An abstract layer over the walk, 4: loads, fields' addresses, slices of slices, lengths. No program in sight. -/
namespace Go.AL

theorem underlying_of_shp {P : Program} {t : TypeId} (hz : P.cellsOf t ≠ 0) : ∃ i, P.info? t = some i ∧ P.cellsOf t = i.size := info_of_cells hz

/-- The value of an abstract value of the form of type t, read off its cells. -/
theorem run_loadVar_val {P : Program} {t : TypeId} {e : A} {V : Value} {w : World} {F : Fz} {μ : Mu} {b o : Nat} (hs : shp P t e = true) (hz : P.cellsOf t ≠ 0) (hu : (P.underlying t).isSome = true) (hr : Rep P w F μ e V)
    (hc : ∀ (j : Nat) (u : Value), V.cells[j]? = some u → w.cell? ⟨b, o + j, none⟩ = some u) : (loadVar t ⟨b, o, none⟩).run P w = .ok V w := by
  obtain ⟨d, hd⟩ := Option.isSome_iff_exists.1 hu
  obtain ⟨inf, hinf, hsi⟩ := info_of_cells hz
  have hsz := (shp_cells hs hr hz).1
  cases hag : aggT P t with
  | true =>
    cases hr with
    | agg _ cs vs hl h1 hh =>
      have := run_loadCells_list (P := P) w ⟨b, o, none⟩ vs (by intro j v hv; rw [Addr.add_lit]; exact hc j v (by simpa [Value.cells] using hv))
      have hl2 : vs.length = inf.size := by rw [← hsi, ← hsz]; rfl
      rw [hl2] at this
      simp only [loadVar, Sem.run_bind, run_isAgg hd, Result.andThen, hag, if_true, run_sizeOf hinf, this, Sem.run_pure]
    | _ => simp [shp, hag] at hs
  | false =>
    have hV : V.cells = #[V] := by
      cases hr <;> first | rfl | (simp [shp, hag] at hs; done)
    have h0 := hc 0 V (by rw [hV]; rfl)
    simp only [loadVar, Sem.run_bind, run_isAgg hd, Result.andThen, hag, Bool.false_eq_true, if_false, run_load]
    simp only [Nat.add_zero] at h0
    rw [h0]

def aload (P : Program) (H : List Row) (t : TypeId) (x : A) : Option A :=
  if P.cellsOf t ≠ 0 ∧ hasU P t = true then
    match x with
    | .ptr d => if shp P t d then some d else none
    | .pto id sz j co => (H[id]?).bind fun r => if r.live ∧ r.sz = sz then (r.es[j]?).bind fun e =>
        if co = 0 ∧ shp P t e then some e else (match e with | .agg cs => (apart P t cs co).bind fun d => if shp P t d then some d else none | _ => none)
      else none
    | _ => none
  else none

theorem s_aload {P : Program} {H : List Row} {t : TypeId} {x r : A} {vx : Value} {w : World} {F0 : Fz} {μ : Mu} (hs : HS P w F0 μ H) (hx : Rep P w (Ft F0 μ H) μ x vx) (h : aload P H t x = some r) :
    ∃ u, (∀ w', Adv w NoF w' NoF → (Instr.loadAt t vx).run P w' = .ok u w') ∧ Rep P w (Ft F0 μ H) μ r u := by
  unfold aload at h
  split at h
  · rename_i hz
    split at h
    · rename_i d
      split at h
      · rename_i hsh; cases h
        cases hx with | ptr _ _ b off v hrep hnc hcell =>
        refine ⟨v, fun w' hw => ?_, hrep.mono (fun _ _ _ h => h) List.nil_prefix⟩
        simp only [Instr.loadAt, Instr.sureAddr, Sem.run_bind, Sem.run_pure, Result.andThen]
        exact run_loadVar_val hsh hz.1 hz.2 (hrep.adv (hw.ofNo _) (List.prefix_refl _)) (fun j u hu => hw.cell _ _ _ (hcell j u hu).2.1 id)
      · cases h
    · rename_i id sz j co
      obtain ⟨row, hrow, h⟩ := Option.bind_eq_some_iff.1 h
      split at h
      · rename_i hl
        obtain ⟨e, he, h⟩ := Option.bind_eq_some_iff.1 h
        cases hx with | pto _ _ _ _ _ b bs hμ =>
        rcases hs.row _ _ _ _ hrow hl.1 hμ with hco | ⟨_, _, _, ms, _, _, hm1, hm2⟩
        case inr =>
          obtain ⟨m, hm⟩ : ∃ m, ms.toList[j]? = some m := ⟨_, List.getElem?_eq_getElem (by rw [hm1]; exact (List.getElem?_eq_some_iff.1 he).1)⟩
          obtain ⟨ka, va, rfl, _⟩ := hm2 j e m he hm
          simp [shp] at h
        obtain ⟨cur, hc, hrs, hrz, hfit, hel⟩ := hco
        obtain ⟨hshp, V, hV, hcells⟩ := hel j e he
        have hcell : ∀ o u, cur[o]? = some u → w.cell? ⟨b, o, none⟩ = some u := fun o u hu => by rw [cell_of_row w b o cur row.ty (0, 0) hc]; exact hu
        split at h
        · rename_i hco; cases h
          refine ⟨V, fun w' hw => ?_, hV⟩
          simp only [Instr.loadAt, Instr.sureAddr, Sem.run_bind, Sem.run_pure, Result.andThen]
          refine run_loadVar_val hco.2 hz.1 hz.2 (hV.adv (hw.ofNo _) (List.prefix_refl _)) (fun i u hu => hw.cell _ _ _ (hcell _ _ ?_) (fun hf => hf))
          rw [hco.1, Nat.add_zero, ← hl.2]; exact hcells i u hu
        · split at h
          · rename_i cs
            obtain ⟨d, hd, h⟩ := Option.bind_eq_some_iff.1 h
            split at h
            · rename_i hsd; cases h
              cases hV with | agg _ _ vs hlen h1 hh =>
              obtain ⟨u, _, h3, h4⟩ := s_apart hlen h1 hh hd
              have hnc : r.ncells ≠ 0 := by rw [shp_ncells hsd hz.1]; exact hz.1
              refine ⟨u, fun w' hw => ?_, h3⟩
              simp only [Instr.loadAt, Instr.sureAddr, Sem.run_bind, Sem.run_pure, Result.andThen]
              refine run_loadVar_val hsd hz.1 hz.2 (h3.adv (hw.ofNo _) (List.prefix_refl _)) (fun i y hy => hw.cell _ _ _ (hcell _ _ ?_) (fun hf => hf))
              have := hcells (co + i) y (by simpa [Value.cells] using h4 hnc i y hy)
              rw [← hl.2, Nat.add_assoc]; exact this
            · cases h
          · cases h
      · cases h
    · cases h
  · cases h

def afieldAddr (P : Program) (t : TypeId) (x : A) (f : Nat) : Option A :=
  (fld P t f).bind fun fd =>
    if P.cellsOf fd.1 = 0 then none else
    match x with
    | .ptr (.agg cs) => (apart P fd.1 cs fd.2).bind fun d => if d.ncells ≠ 0 then some (.ptr d) else none
    | .pto id sz j co => some (.pto id sz j (co + fd.2))
    | _ => none

theorem run_fieldAt {P : Program} {t : TypeId} {fs : Array Field} (h : P.underlying t = some (.struct fs)) {f : Nat} {fd : Field} (hf : fs[f]? = some fd) (hz : P.cellsOf fd.type ≠ 0) (a : Addr) (w : World) :
    (Instr.fieldAt t (.pointer (some a)) f).run P w = .ok (.pointer (some (a.add fd.offset))) w := by
  obtain ⟨inf, hinf, hsi⟩ := info_of_cells hz
  simp [Instr.fieldAt, run_underlying h, hf, Instr.sureAddr, fieldPlace, run_sizeOf hinf, show inf.size ≠ 0 by omega]

theorem s_afieldAddr {P : Program} {H : List Row} {t : TypeId} {x r : A} {f : Nat} {vx : Value} {w : World} {F0 : Fz} {μ : Mu} (hx : Rep P w (Ft F0 μ H) μ x vx) (h : afieldAddr P t x f = some r) :
    ∃ u, (∀ w', Cn w w' → (Instr.fieldAt t vx f).run P w' = .ok u w') ∧ Rep P w (Ft F0 μ H) μ r u := by
  unfold afieldAddr at h
  · obtain ⟨⟨ft, fo⟩, hf, h⟩ := Option.bind_eq_some_iff.1 h
    obtain ⟨fs, fd, hu, hf2, rfl, rfl⟩ := fld_some hf
    split at h
    · cases h
    · rename_i hz
      split at h
      · rename_i cs
        obtain ⟨d, hd, h⟩ := Option.bind_eq_some_iff.1 h
        split at h
        · rename_i hnc; cases h
          cases hx with | ptr _ _ b off v hrep hnc' hcell =>
          cases hrep with | agg _ _ vs hl h1 hh =>
          obtain ⟨u, _, h3, h4⟩ := s_apart hl h1 hh hd
          refine ⟨_, fun w' _ => run_fieldAt hu hf2 hz _ w', ?_⟩
          rw [Addr.add_lit]
          refine .ptr _ d b _ u h3 hnc ?_
          intro j y hy
          have := hcell (fd.offset + j) y (by simpa [Value.cells] using h4 hnc j y hy)
          rw [Nat.add_assoc]; exact this
        · cases h
      · rename_i id sz j co; cases h
        cases hx with | pto _ _ _ _ _ b bs hμ =>
        refine ⟨_, fun w' _ => run_fieldAt hu hf2 hz _ w', ?_⟩
        rw [Addr.add_lit, Nat.add_assoc]
        exact .pto _ _ _ _ _ _ _ hμ
      · cases h

def anilCheck (x : A) : Option A :=
  match x with
  | .ptr _ | .pto .. | .fn .. => some x
  | _ => none

theorem s_anilCheck {P : Program} {x r : A} {w : World} {F : Fz} {μ : Mu} {a : Act} {X : Operand} (hx : Rep P w F μ x (a.eval X)) (h : anilCheck x = some r) (dst : Option Tmp) (ty : TypeId) (pos : String) (aft : Array Edge) (g : Option (Nat × Bool)) :
    (∀ w', (execOp a.eval ⟨dst, .nilCheck X, ty, pos, aft, g⟩).run P w' = .ok (.value (a.eval X)) w') ∧ r = x := by
  unfold anilCheck at h
  generalize hv : a.eval X = v at hx
  split at h
  · cases h; refine ⟨fun w' => ?_, rfl⟩; cases hx; simp only [execOp, hv]; rfl
  · cases h; refine ⟨fun w' => ?_, rfl⟩; cases hx; simp only [execOp, hv]; rfl
  · cases h; refine ⟨fun w' => ?_, rfl⟩; cases hx; simp only [execOp, hv]; rfl
  · cases h

def alen (P : Program) (t : TypeId) (x : A) : Option A :=
  match P.underlying t, x with
  | some (.slice _), .sl _ es => some (.int .i64 es.length)
  | some (.slice _), .own _ _ len _ _ => some (.int .i64 len)
  | some .string, .str l => some (.int .i64 l.length)
  | some (.array n _), _ => some (.int .i64 n)
  | _, _ => none

theorem s_alen {P : Program} {t : TypeId} {x r : A} {ts : Array TypeId} {ty : TypeId} {v : Value} {w : World} {F : Fz} {μ : Mu} (h0 : ts[0]? = some t) (hx : Rep P w F μ x v) (h : alen P t x = some r) :
    ∃ u, (∀ w', Cn w w' → (Builtin.len_ ts ty #[v]).run P w' = .ok u w') ∧ Rep P w F μ r u := by
  unfold alen at h
  split at h
  · rename_i hu; cases h; cases hx with
    | slnil _ _ _ => exact ⟨.int .i64 0, fun w' _ => by simp [Builtin.len_, h0, run_underlying hu, goInt], .int _ _ _⟩
    | sl _ _ _ _ _ n _ _ _ hn => exact ⟨.int .i64 n, fun w' _ => by simp [Builtin.len_, h0, run_underlying hu, goInt], by rw [hn]; exact .int _ _ _⟩
  · rename_i hu; cases h; cases hx <;> (refine ⟨_, fun w' _ => ?_, .int _ _ _⟩; simp [Builtin.len_, h0, run_underlying hu, goInt])
  · rename_i hu; cases h; cases hx; refine ⟨_, fun w' _ => ?_, .int _ _ _⟩; simp [Builtin.len_, h0, run_underlying hu, goInt]; rfl
  · rename_i hu; cases h; refine ⟨_, fun w' _ => ?_, .int _ _ _⟩; cases v <;> simp [Builtin.len_, h0, run_underlying hu, goInt]
  · cases h

def amax2 (x y : A) : Option A := match x, y with | .int k a, .int _ b => some (.int k (max a b)) | _, _ => none
def amin2 (x y : A) : Option A := match x, y with | .int k a, .int _ b => some (.int k (min a b)) | _, _ => none
def afold (f : A → A → Option A) : A → List A → Option A
  | x, [] => some x
  | x, y :: ys => (f x y).bind fun z => afold f z ys
def amaxmin (f : A → A → Option A) : List A → Option A
  | [] => none
  | x :: xs => afold f x xs

theorem s_amax2 {P : Program} {x y r : A} {vx vy : Value} {w : World} {F : Fz} {μ : Mu} (hx : Rep P w F μ x vx) (hy : Rep P w F μ y vy) (h : amax2 x y = some r) : ∃ u, (∀ w', Cn w w' → (Builtin.max2 vx vy).run P w' = .ok u w') ∧ Rep P w F μ r u := by
  unfold amax2 at h
  split at h
  · cases hx; cases hy; cases h
    rename_i k a k' b
    refine ⟨.int k (max a b), fun w' _ => ?_, .int _ _ _⟩
    simp only [Builtin.max2, Sem.run_pure]; congr 2; split <;> omega
  · cases h
theorem s_amin2 {P : Program} {x y r : A} {vx vy : Value} {w : World} {F : Fz} {μ : Mu} (hx : Rep P w F μ x vx) (hy : Rep P w F μ y vy) (h : amin2 x y = some r) : ∃ u, (∀ w', Cn w w' → (Builtin.min2 vx vy).run P w' = .ok u w') ∧ Rep P w F μ r u := by
  unfold amin2 at h
  split at h
  · cases hx; cases hy; cases h
    rename_i k a k' b
    refine ⟨.int k (min a b), fun w' _ => ?_, .int _ _ _⟩
    simp only [Builtin.min2, Sem.run_pure]; congr 2; split <;> omega
  · cases h

/-- Pointwise. -/
def RepL (P : Program) (w : World) (F : Fz) (μ : Mu) : List A → List Value → Prop
  | [], [] => True
  | x :: xs, v :: vs => Rep P w F μ x v ∧ RepL P w F μ xs vs
  | _, _ => False

theorem s_afold {P : Program} {f : A → A → Option A} {g : Value → Value → Sem Value} {w : World} {F : Fz} {μ : Mu} (hfg : ∀ x y r vx vy, Rep P w F μ x vx → Rep P w F μ y vy → f x y = some r → ∃ u, (∀ w', Cn w w' → (g vx vy).run P w' = .ok u w') ∧ Rep P w F μ r u) :
    ∀ (xs : List A) (vs : List Value) (x r : A) (v : Value), Rep P w F μ x v → RepL P w F μ xs vs → afold f x xs = some r → ∃ u, (∀ w', Cn w w' → (vs.foldlM g v).run P w' = .ok u w') ∧ Rep P w F μ r u
  | [], [], x, r, v, hx, _, h => by cases h; exact ⟨v, fun w' _ => by simp, hx⟩
  | y :: ys, u :: us, x, r, v, hx, hl, h => by
    obtain ⟨z, hz, h⟩ := Option.bind_eq_some_iff.1 h
    obtain ⟨q, hq, hq2⟩ := hfg _ _ _ _ _ hx hl.1 hz
    obtain ⟨q', hq', hq2'⟩ := s_afold hfg ys us z r q hq2 hl.2 h
    exact ⟨q', fun w' hw => by simp only [List.foldlM_cons, Sem.run_bind, hq w' hw, Result.andThen, hq' w' hw], hq2'⟩
  | [], _ :: _, _, _, _, _, h, _ => h.elim
  | _ :: _, [], _, _, _, _, h, _ => h.elim

def aindex (P : Program) (t : TypeId) (x i : A) : Option A :=
  match P.underlying t, x, i with
  | some .string, .str l, .int _ n => if 0 ≤ n then (l[n.toNat]?).map fun c => .int .u8 c.toNat else none
  | some (.array m e), .agg cs, .int _ n => if 0 ≤ n ∧ n < m ∧ P.cellsOf e ≠ 0 then apart P e cs (n.toNat * P.cellsOf e) else none
  | _, _, _ => none

theorem s_aindex {P : Program} {t : TypeId} {x i r : A} {vx vi : Value} {w : World} {F : Fz} {μ : Mu} (hx : Rep P w F μ x vx) (hi : Rep P w F μ i vi) (h : aindex P t x i = some r) :
    ∃ u, (∀ w', Cn w w' → (Instr.index t vx vi).run P w' = .ok u w') ∧ Rep P w F μ r u := by
  unfold aindex at h
  split at h
  · rename_i l k n hu
    cases hx; cases hi
    split at h
    · rename_i h0
      obtain ⟨c, hc, rfl⟩ := Option.map_eq_some_iff.1 h
      refine ⟨.int .u8 c.toNat, fun w' _ => ?_, .int _ _ _⟩
      have hb : (⟨⟨l⟩⟩ : ByteArray)[n.toNat]? = some c := by
        have hlt := (List.getElem?_eq_some_iff.1 hc)
        obtain ⟨hlt, hce⟩ := hlt
        have hs : n.toNat < (⟨⟨l⟩⟩ : ByteArray).size := hlt
        rw [ByteArray.getElem?_lt' _ _ hs]
        exact congrArg some hce
      simp [Instr.index, asIntOf, run_underlying hu, h0, hb]
    · cases h
  · rename_i m e cs k n hu
    cases hi
    cases hx with | agg _ _ vs hl h1 hh =>
    split at h
    · rename_i hb
      obtain ⟨inf, hinf, hsi⟩ := info_of_cells hb.2.2
      obtain ⟨u, h2, h3, _⟩ := s_apart hl h1 hh h
      refine ⟨u, fun w' hw => ?_, h3⟩
      have h2 := h2 w' hw
      rw [hsi] at h2
      simp [Instr.index, asIntOf, run_underlying hu, hb.1, hb.2.1, run_sizeOf hinf, h2]
    · cases h
  · cases h
end Go.AL
/- An abstract layer over the walk, 5: slices of slices and of strings; structs that are built; function values. No program in sight. -/
namespace Go.AL

def abnd (x : Option A) (d : Nat) : Option Nat :=
  match x with
  | none => some d
  | some (.int _ n) => if 0 ≤ n then some n.toNat else none
  | _ => none

/-- The bound that an operand gives. -/
def Bnd (v : Option Value) (d n : Nat) : Prop := (v = none ∧ n = d) ∨ ∃ k i, v = some (.int k i) ∧ 0 ≤ i ∧ i.toNat = n

def RepO (P : Program) (w : World) (F : Fz) (μ : Mu) : Option A → Option Value → Prop
  | none, none => True
  | some x, some v => Rep P w F μ x v
  | _, _ => False

theorem s_abnd {P : Program} {w : World} {F : Fz} {μ : Mu} {x : Option A} {v : Option Value} {d n : Nat} (hr : RepO P w F μ x v) (h : abnd x d = some n) : Bnd v d n := by
  cases x with
  | none =>
    cases v with
    | none => simp [abnd] at h; exact .inl ⟨rfl, h.symm⟩
    | some v => exact hr.elim
  | some x =>
    cases v with
    | none => exact hr.elim
    | some v =>
      unfold abnd at h
      split at h
      · rename_i h1; cases h1
      · rename_i k i h1
        cases h1
        cases hr
        split at h
        · rename_i h0; cases h; exact .inr ⟨_, _, rfl, h0, rfl⟩
        · cases h
      · cases h

theorem run_sliceBound {P : Program} {k : IntKind} {i : Int} {y n : Nat} {code : BoundsCode} (h0 : 0 ≤ i) (hn : i.toNat = n) (h : n ≤ y) (w : World) : (Instr.sliceBound (.int k i) y code).run P w = .ok n w := by
  have h1 : i ≤ y := by omega
  simp [Instr.sliceBound, asIntOf, h0, h1, hn]

theorem run_bounds_plain {P : Program} {b : Bool} {len cap l h : Nat} {lo hi : Option Value} (hl : Bnd lo 0 l) (hh : Bnd hi len h) (h1 : l ≤ h) (h2 : h ≤ cap) (w : World) :
    (Instr.sliceBounds b len cap lo hi none).run P w = .ok (l, h, cap) w := by
  rcases hl with ⟨rfl, rfl⟩ | ⟨k, i, rfl, h3, h4⟩ <;> rcases hh with ⟨rfl, rfl⟩ | ⟨k', i', rfl, h5, h6⟩
  · simp [Instr.sliceBounds]
  · simp [Instr.sliceBounds, run_sliceBound h5 h6 h2]
  · simp [Instr.sliceBounds, run_sliceBound h3 h4 h1]
  · simp [Instr.sliceBounds, run_sliceBound h5 h6 h2, run_sliceBound h3 h4 h1]

theorem run_bounds_max {P : Program} {b : Bool} {len cap l h m d : Nat} {lo hi mx : Option Value} (hl : Bnd lo 0 l) (hh : Bnd hi len h) (hhi : hi ≠ none) (hm : Bnd mx d m) (hmx : mx ≠ none) (h1 : l ≤ h) (h2 : h ≤ m) (h3 : m ≤ cap) (w : World) :
    (Instr.sliceBounds b len cap lo hi mx).run P w = .ok (l, h, m) w := by
  rcases hh with ⟨rfl, _⟩ | ⟨k', i', rfl, h5, h6⟩
  · exact (hhi rfl).elim
  rcases hm with ⟨rfl, _⟩ | ⟨k3, i3, rfl, h7, h8⟩
  · exact (hmx rfl).elim
  rcases hl with ⟨rfl, rfl⟩ | ⟨k, i, rfl, h9, h4⟩
  · simp [Instr.sliceBounds, run_sliceBound h5 h6 h2, run_sliceBound h7 h8 h3]
  · simp [Instr.sliceBounds, run_sliceBound h5 h6 h2, run_sliceBound h7 h8 h3, run_sliceBound h9 h4 h1]

def aslice (P : Program) (t : TypeId) (x : A) (lo hi mx : Option A) : Option A :=
  match P.underlying t, x with
  | some .string, .str s =>
    (abnd lo 0).bind fun l => (abnd hi s.length).bind fun h => if mx.isNone ∧ l ≤ h ∧ h ≤ s.length then some (.str ((s.drop l).take (h - l))) else none
  | some (.slice e), .sl full es =>
    (abnd lo 0).bind fun l => (abnd hi es.length).bind fun h => (abnd mx es.length).bind fun m =>
      if P.cellsOf e ≠ 0 ∧ l ≤ h ∧ h ≤ m ∧ m ≤ es.length ∧ (mx.isSome → hi.isSome) ∧ (l = 0 ∨ es.all (fun x => x.ncells == P.cellsOf e)) then
        some (.sl (if mx.isSome then m == h else full && h == es.length) ((es.drop l).take (h - l)))
      else none
  | some (.slice e), .own id off len cb ex =>
    (abnd lo 0).bind fun l => (abnd hi len).bind fun h => (abnd mx cb).bind fun m =>
      if P.cellsOf e ≠ 0 ∧ l ≤ h ∧ h ≤ m ∧ m ≤ cb ∧ (mx.isSome → hi.isSome) then
        some (if cb = 0 ∧ ex = true then .own id off 0 0 true else .own id (off + l) (h - l) (m - l) (ex || mx.isSome))
      else none
  | _, _ => none

theorem run_slice_sl {P : Program} {t e : TypeId} (hu : P.underlying t = some (.slice e)) {inf : TypeInfo} (hi : P.info? e = some inf) {a : Option Addr} {len cap l h m : Nat} {lo hi' mx : Option Value} {w : World}
    (hb : (Instr.sliceBounds true len cap lo hi' mx).run P w = .ok (l, h, m) w) :
    (Instr.sliceAt t (.slice a len cap) lo hi' mx).run P w = .ok (.slice (if m = l then a else a.map (·.add (l * inf.size))) (h - l) (m - l)) w := by
  simp [Instr.sliceAt, Instr.slice, run_underlying hu, hb, run_sizeOf hi]

theorem s_aslice {P : Program} {H : List Row} {t : TypeId} {x r : A} {lo hi mx : Option A} {v : Value} {vl vh vm : Option Value} {w : World} {F0 : Fz} {μ : Mu} (hs : HS P w F0 μ H)
    (hty : ∀ e, P.underlying t = some (.slice e) → ∀ id off len cb ex, x = .own id off len cb ex → ¬ (cb = 0 ∧ ex = true) → ∃ r, H[id]? = some r ∧ r.live = true ∧ r.ty = e)
    (hx : Rep P w (Ft F0 μ H) μ x v) (hl : RepO P w (Ft F0 μ H) μ lo vl) (hh : RepO P w (Ft F0 μ H) μ hi vh) (hm : RepO P w (Ft F0 μ H) μ mx vm) (h : aslice P t x lo hi mx = some r) :
    ∃ u, (∀ w', Cn w w' → (Instr.sliceAt t v vl vh vm).run P w' = .ok u w') ∧ Rep P w (Ft F0 μ H) μ r u := by
  have hvm : mx.isSome = vm.isSome := by cases mx <;> cases vm <;> first | rfl | exact hm.elim
  have hvh : hi.isSome = vh.isSome := by cases hi <;> cases vh <;> first | rfl | exact hh.elim
  unfold aslice at h
  split at h
  · rename_i s hu
    obtain ⟨l, hl1, h⟩ := Option.bind_eq_some_iff.1 h
    obtain ⟨hh', hh1, h⟩ := Option.bind_eq_some_iff.1 h
    split at h
    · rename_i hc; cases h; cases hx
      have hvn : vm = none := by have := hc.1; cases mx <;> cases vm <;> simp_all
      subst hvn
      have hb := run_bounds_plain (P := P) (b := false) (len := s.length) (cap := s.length) (s_abnd hl hl1) (s_abnd hh hh1) hc.2.1 hc.2.2
      refine ⟨.string ⟨⟨(s.drop l).take (hh' - l)⟩⟩, fun w' _ => ?_, .str _ _⟩
      have hsz : (⟨⟨s⟩⟩ : ByteArray).size = s.length := rfl
      have he : (⟨⟨s⟩⟩ : ByteArray).extract l hh' = ⟨⟨(s.drop l).take (hh' - l)⟩⟩ := by rw [Lib.extract_eq]
      simp only [Instr.sliceAt, Instr.slice, Sem.run_bind, run_underlying hu, Result.andThen, hsz]
      simp
      rw [hb w']
      simp only [Result.andThen, he]
    · cases h
  · rename_i e full es hu
    obtain ⟨l, hl1, h⟩ := Option.bind_eq_some_iff.1 h
    obtain ⟨hh', hh1, h⟩ := Option.bind_eq_some_iff.1 h
    obtain ⟨m, hm1, h⟩ := Option.bind_eq_some_iff.1 h
    split at h
    · rename_i hc
      obtain ⟨hinf, c1, c2, c3, c4, c5⟩ := hc
      obtain ⟨inf, hinf, _⟩ := info_of_cells hinf
      cases h
      have key : ∀ (n cap : Nat) (a : Option Addr), v = .slice a n cap → n = es.length → n ≤ cap → ∃ m', (∀ w', (Instr.sliceAt t v vl vh vm).run P w' = .ok (.slice (if m' = l then a else a.map (·.add (l * inf.size))) (hh' - l) (m' - l)) w') ∧ (vm = none → m' = cap) ∧ (vm ≠ none → m' = m) ∧ hh' ≤ m' ∧ m' ≤ cap := by
        intro n cap a hv hn hcap
        subst hv
        by_cases hvn : vm = none
        · subst hvn
          have hb := run_bounds_plain (P := P) (b := true) (len := n) (cap := cap) (s_abnd hl hl1) (by rw [hn]; exact s_abnd hh hh1) c1 (by omega)
          exact ⟨cap, fun w' => run_slice_sl hu hinf (hb w'), fun _ => rfl, fun h => (h rfl).elim, by omega, Nat.le_refl _⟩
        · have hs1 : mx.isSome = true := by rw [hvm]; cases vm <;> simp_all
          have hh2 : vh ≠ none := by have := c4 hs1; rw [hvh] at this; intro e; rw [e] at this; simp at this
          have hb := run_bounds_max (P := P) (b := true) (len := n) (cap := cap) (s_abnd hl hl1) (by rw [hn]; exact s_abnd hh hh1) hh2 (s_abnd hm hm1) hvn c1 c2 (by omega)
          exact ⟨m, fun w' => run_slice_sl hu hinf (hb w'), fun h => (hvn h).elim, fun _ => rfl, c2, by omega⟩
      cases hx with
      | slnil _ _ a =>
        obtain ⟨m', h1, h2, h3, h4, h5⟩ := key 0 0 a rfl rfl (Nat.le_refl _)
        have hm0 : m' = 0 := by omega
        have hh0 : hh' = 0 := by omega
        have hl0 : l = 0 := by omega
        subst hm0 hh0 hl0
        refine ⟨_, fun w' _ => h1 w', ?_⟩
        simp
        exact .slnil _ _ _
      | sl _ _ _ b off n cap sz V hn hcap hmax hfull hsz hrep hcell =>
        obtain ⟨m', h1, h2, h3, h4, h5⟩ := key n cap _ rfl hn hcap
        refine ⟨_, fun w' _ => h1 w', ?_⟩
        have haddr : ∃ off', (if m' = l then some (⟨b, off, none⟩ : Addr) else (some (⟨b, off, none⟩ : Addr)).map (·.add (l * inf.size))) = some ⟨b, off', none⟩ ∧ (l < hh' → off' = off + l * inf.size) := by
          split
          · exact ⟨off, rfl, fun h => by omega⟩
          · exact ⟨off + l * inf.size, by simp [Addr.add_lit], fun _ => rfl⟩
        obtain ⟨off', ho, ho'⟩ := haddr
        rw [ho]
        have hget : ∀ (i : Nat) (e' : A), ((es.drop l).take (hh' - l))[i]? = some e' → es[l + i]? = some e' ∧ i < hh' - l := by
          intro i e' he
          simp only [List.getElem?_take, List.getElem?_drop] at he
          split at he
          · exact ⟨he, by assumption⟩
          · cases he
        have hszl : ∀ (i : Nat) (e' : A), es[l + i]? = some e' → l = 0 ∨ sz = inf.size := by
          intro i e' he
          rcases c5 with c5 | c5
          · exact .inl c5
          · right
            have := hsz _ _ he
            rw [List.all_eq_true] at c5
            have := c5 e' (List.mem_of_getElem? he)
            simp at this
            rw [cellsOf_info hinf] at this
            omega
        refine .sl _ _ _ b off' (hh' - l) (m' - l) sz (fun i => V (l + i)) (by simp; omega) (by omega) (by omega) ?_ (fun i e' he => hsz _ _ (hget i e' he).1) (fun i e' he => hrep _ _ (hget i e' he).1) ?_
        · intro hf
          by_cases hvn : vm = none
          · have : mx.isSome = false := by rw [hvm, hvn]; rfl
            simp [this] at hf
            have := hfull hf.1
            have := h2 hvn
            omega
          · have : mx.isSome = true := by rw [hvm]; cases vm <;> simp_all
            simp [this] at hf
            have := h3 hvn
            omega
        · intro i e' he j u hu'
          obtain ⟨he2, hi2⟩ := hget i e' he
          have := hcell _ _ he2 j u hu'
          rw [ho' (by omega)]
          rcases hszl i e' he2 with hl0 | hzz
          · subst hl0; simpa using this
          · rw [hzz] at this ⊢
            rw [show off + l * inf.size + i * inf.size + j = off + (l + i) * inf.size + j by rw [Nat.add_mul]; omega]
            exact this
    · cases h
  · rename_i e id off len cb ex hu
    obtain ⟨l, hl1, h⟩ := Option.bind_eq_some_iff.1 h
    obtain ⟨hh', hh1, h⟩ := Option.bind_eq_some_iff.1 h
    obtain ⟨m, hm1, h⟩ := Option.bind_eq_some_iff.1 h
    split at h
    · rename_i hc
      obtain ⟨hinf, c1, c2, c3, c4⟩ := hc
      obtain ⟨inf, hinf, _⟩ := info_of_cells hinf
      by_cases hroom : cb = 0 ∧ ex = true
      · rw [if_pos hroom] at h
        cases h
        obtain ⟨rfl, rfl⟩ := hroom
        have hm0 : m = 0 := by omega
        subst hm0
        have hh0 : hh' = 0 := by omega
        subst hh0
        have hl0 : l = 0 := by omega
        subst hl0
        have hv : ∃ a : Option Addr, v = .slice a 0 0 := by
          cases hx with
          | own _ _ _ _ _ _ b bs cap ty n hμ hsh hfit hlen hcb hmax hex ao hat =>
            have := hex rfl
            subst this
            have : len = 0 := by omega
            subst this
            exact ⟨_, rfl⟩
          | ownn _ _ _ a => exact ⟨a, rfl⟩
        obtain ⟨a, rfl⟩ := hv
        have hlen0 : len = 0 := by cases hx <;> omega
        subst hlen0
        have hrun : ∀ w', (Instr.sliceAt t (.slice a 0 0) vl vh vm).run P w' = .ok (.slice a 0 0) w' := by
          intro w'
          by_cases hvn : vm = none
          · subst hvn
            have hb := run_bounds_plain (P := P) (b := true) (len := 0) (cap := 0) (s_abnd hl hl1) (s_abnd hh hh1) (Nat.le_refl _) (Nat.le_refl _) w'
            simpa using run_slice_sl (a := a) hu hinf hb
          · have hs1 : mx.isSome = true := by rw [hvm]; cases vm <;> simp_all
            have hh2 : vh ≠ none := by have := c4 hs1; rw [hvh] at this; intro e; rw [e] at this; simp at this
            have hb := run_bounds_max (P := P) (b := true) (len := 0) (cap := 0) (s_abnd hl hl1) (s_abnd hh hh1) hh2 (s_abnd hm hm1) hvn (Nat.le_refl _) (Nat.le_refl _) (Nat.le_refl _) w'
            simpa using run_slice_sl (a := a) hu hinf hb
        exact ⟨_, fun w' _ => hrun w', .ownn _ _ _ a⟩
      rw [if_neg hroom] at h
      cases h
      obtain ⟨row, hrow, hlive, hrty⟩ := hty e hu _ _ _ _ _ rfl hroom
      cases hx with | ownn _ _ _ a => exact (hroom ⟨rfl, rfl⟩).elim | own _ _ _ _ _ _ b bs cap ty n hμ hsh hfit hlen hcb hmax hex ao hat =>
      have htye : ty = e := by
        obtain ⟨cur, hc, _⟩ := hs.cells hrow hlive hμ hsh
        simp only [World.shape?, hc] at hsh
        simp at hsh; rw [← hsh.1, hrty]
      subst htye
      have key : ∃ m', (∀ w', (Instr.sliceAt t (.slice (some ⟨b, ao, none⟩) len cap) vl vh vm).run P w' = .ok (.slice (if m' = l then some ⟨b, ao, none⟩ else (some (⟨b, ao, none⟩ : Addr)).map (·.add (l * inf.size))) (hh' - l) (m' - l)) w') ∧ m ≤ m' ∧ m' ≤ cap ∧ (vm = none → m' = cap ∧ m = cb) ∧ (vm ≠ none → m' = m) := by
        by_cases hvn : vm = none
        · have hmn : mx = none := by cases mx <;> simp_all
          subst hmn; subst hvn
          simp [abnd] at hm1; subst hm1
          have hb := run_bounds_plain (P := P) (b := true) (len := len) (cap := cap) (s_abnd hl hl1) (s_abnd hh hh1) c1 (by omega)
          exact ⟨cap, fun w' => run_slice_sl hu hinf (hb w'), hcb, Nat.le_refl _, fun _ => ⟨rfl, rfl⟩, fun h => (h rfl).elim⟩
        · have hs1 : mx.isSome = true := by rw [hvm]; cases vm <;> simp_all
          have hh2 : vh ≠ none := by have := c4 hs1; rw [hvh] at this; intro e; rw [e] at this; simp at this
          have hb := run_bounds_max (P := P) (b := true) (len := len) (cap := cap) (s_abnd hl hl1) (s_abnd hh hh1) hh2 (s_abnd hm hm1) hvn c1 c2 (by omega)
          exact ⟨m, fun w' => run_slice_sl hu hinf (hb w'), Nat.le_refl _, by omega, fun h => (hvn h).elim, fun _ => rfl⟩
      obtain ⟨m', h1, h2, h3, h4, h5⟩ := key
      refine ⟨_, fun w' _ => h1 w', ?_⟩
      have hci := cellsOf_info hinf
      have ha : (if m' = l then some (⟨b, ao, none⟩ : Addr) else (some (⟨b, ao, none⟩ : Addr)).map (·.add (l * inf.size))) = some ⟨b, if m' = l then ao else ao + l * inf.size, none⟩ := by
        split
        · rfl
        · simp only [Option.map_some, Addr.add_lit]
      rw [ha]
      refine .own _ _ _ _ _ _ b bs (m' - l) ty n hμ hsh ?_ (by omega) (by omega) (by omega) ?_ _ ?_
      · have : (off + l + (m' - l)) * P.cellsOf ty ≤ (off + cap) * P.cellsOf ty := Nat.mul_le_mul_right _ (by omega)
        omega
      · intro hex'
        by_cases hvn : vm = none
        · have hmn : mx.isSome = false := by rw [hvm, hvn]; rfl
          simp [hmn] at hex'
          have := hex hex'
          obtain ⟨h41, h42⟩ := h4 hvn
          omega
        · rw [h5 hvn]
      · intro hne
        rw [if_neg (by omega), hat (by omega), hci, Nat.add_mul]
        omega
    · cases h
  · cases h

/-! A struct or an array that is built of its parts. -/
def PR (P : Program) (w : World) (F : Fz) (μ : Mu) (cs : List A) (vs : List Value) : Prop :=
  vs.length = cs.length ∧ (∀ u ∈ vs, u.oneCell' = true) ∧ ∀ (i : Nat) (c : A) (u : Value), cs[i]? = some c → vs[i]? = some u → Rep P w F μ c u

theorem PR.agg {P : Program} {w : World} {F : Fz} {μ : Mu} {cs : List A} {vs : List Value} (h : PR P w F μ cs vs) : Rep P w F μ (.agg cs) (.agg ⟨vs⟩) := .agg _ _ _ h.1 h.2.1 h.2.2

theorem PR.cells {P : Program} {w : World} {F : Fz} {μ : Mu} {a : A} {v : Value} (h : Rep P w F μ a v) (hn : a.ncells ≠ 0) : PR P w F μ a.cells v.cells.toList := by
  obtain ⟨h1, h2, h3⟩ := h.cells (.inl hn)
  exact ⟨by simpa using h1, h2, fun i c u hc hu => h3 i c u hc (by simpa using hu)⟩

theorem PR.app {P : Program} {w : World} {F : Fz} {μ : Mu} {cs ds : List A} {vs us : List Value} (h : PR P w F μ cs vs) (k : PR P w F μ ds us) : PR P w F μ (cs ++ ds) (vs ++ us) := by
  refine ⟨by simp [h.1, k.1], ?_, ?_⟩
  · intro u hu
    rcases List.mem_append.1 hu with hu | hu
    · exact h.2.1 u hu
    · exact k.2.1 u hu
  · intro i c u hc hu
    by_cases hi : i < cs.length
    · rw [List.getElem?_append_left hi] at hc
      rw [List.getElem?_append_left (by rw [h.1]; exact hi)] at hu
      exact h.2.2 i c u hc hu
    · rw [List.getElem?_append_right (by omega)] at hc
      rw [List.getElem?_append_right (by rw [h.1]; omega), h.1] at hu
      exact k.2.2 _ c u hc hu

theorem PR.take {P : Program} {w : World} {F : Fz} {μ : Mu} {cs : List A} {vs : List Value} (h : PR P w F μ cs vs) (n : Nat) : PR P w F μ (cs.take n) (vs.take n) := by
  refine ⟨by simp [h.1], fun u hu => h.2.1 u (List.mem_of_mem_take hu), ?_⟩
  intro i c u hc hu
  simp only [List.getElem?_take] at hc hu
  split at hc
  · rename_i hi; rw [if_pos hi] at hu; exact h.2.2 i c u hc hu
  · cases hc

theorem PR.drop {P : Program} {w : World} {F : Fz} {μ : Mu} {cs : List A} {vs : List Value} (h : PR P w F μ cs vs) (n : Nat) : PR P w F μ (cs.drop n) (vs.drop n) := by
  refine ⟨by simp [h.1], fun u hu => h.2.1 u (List.mem_of_mem_drop hu), ?_⟩
  intro i c u hc hu
  simp only [List.getElem?_drop] at hc hu
  exact h.2.2 _ c u hc hu

theorem foldl_cells : ∀ (vs : List Value) (k off : Nat) (cs : Array Value), off + k + vs.length ≤ cs.size →
    ((vs.zipIdx k).foldl (fun cs (c, j) => cs.setIfInBounds (off + j) c) cs).toList = cs.toList.take (off + k) ++ vs ++ cs.toList.drop (off + k + vs.length)
  | [], k, off, cs, _ => by simp
  | v :: vs, k, off, cs, h => by
    simp only [List.length_cons] at h
    have ih := foldl_cells vs (k + 1) off (cs.setIfInBounds (off + k) v) (by simp; omega)
    simp only [List.zipIdx_cons, List.foldl_cons]
    rw [ih]
    simp only [Array.toList_setIfInBounds, List.length_cons]
    have hlt : off + k < cs.toList.length := by simp; omega
    rw [List.set_eq_take_append_cons_drop, if_pos hlt]
    have e1 : (List.take (off + k) cs.toList ++ v :: List.drop (off + k + 1) cs.toList).take (off + (k + 1)) = List.take (off + k) cs.toList ++ [v] := by
      rw [List.take_append, List.take_of_length_le (by simp; omega)]
      have : off + (k + 1) - (List.take (off + k) cs.toList).length = 1 := by simp; omega
      rw [this]; simp
    have e2 : (List.take (off + k) cs.toList ++ v :: List.drop (off + k + 1) cs.toList).drop (off + (k + 1) + vs.length) = List.drop (off + k + (vs.length + 1)) cs.toList := by
      rw [List.drop_append, List.drop_of_length_le (by simp; omega)]
      have : off + (k + 1) + vs.length - (List.take (off + k) cs.toList).length = vs.length + 1 := by simp; omega
      rw [this]
      simp [List.drop_drop]
      congr 1; omega
    rw [e1, e2]; simp

def afill (place : Nat → Option (Nat × Nat)) (cells : List A) : List (Nat × A) → Option (List A)
  | [] => some cells
  | (i, v) :: rest =>
    match place i with
    | none => none
    | some (off, size) =>
      if v.ncells ≠ size ∨ size = 0 ∨ off + size > cells.length then none
      else afill place (cells.take off ++ v.cells ++ cells.drop (off + size)) rest

def RepPs (P : Program) (w : World) (F : Fz) (μ : Mu) : List (Nat × A) → List (Nat × Value) → Prop
  | [], [] => True
  | x :: xs, v :: vs => x.1 = v.1 ∧ Rep P w F μ x.2 v.2 ∧ RepPs P w F μ xs vs
  | _, _ => False

theorem s_afill {P : Program} {w : World} {F : Fz} {μ : Mu} {place : Nat → Option (Nat × Nat)} : ∀ {parts : List (Nat × A)} {vparts : List (Nat × Value)} {cs cs' : List A} {vs : Array Value},
    PR P w F μ cs vs.toList → RepPs P w F μ parts vparts → afill place cs parts = some cs' → ∃ vs', Instr.fill place vs vparts = some vs' ∧ PR P w F μ cs' vs'.toList
  | [], [], cs, cs', vs, h, _, hf => by cases hf; exact ⟨vs, rfl, h⟩
  | (i, x) :: rest, (i', v) :: vrest, cs, cs', vs, h, hp, hf => by
    obtain ⟨rfl, hx, hrest⟩ := hp
    simp only [afill] at hf
    simp only [Instr.fill]
    cases hpl : place i with
    | none => simp [hpl] at hf
    | some os =>
      obtain ⟨off, size⟩ := os
      simp only [hpl] at hf ⊢
      split at hf
      · cases hf
      · rename_i hc
        have hc1 : x.ncells = size := by omega
        have hc2 : x.ncells ≠ 0 := by omega
        have hc3 : off + size ≤ cs.length := by omega
        have hpc := PR.cells hx hc2
        have hsz : v.cells.size = size := by have := hpc.1; rw [A.ncells_eq hc2, hc1] at this; simpa using this
        have hvl : vs.size = cs.length := by have := h.1; simpa using this
        rw [if_neg (by rw [hsz, hvl]; simp; omega)]
        refine s_afill ?_ hrest hf
        have hz : (v.cells.zipIdx.foldl (fun cs (c, j) => cs.setIfInBounds (off + j) c) vs).toList = vs.toList.take off ++ v.cells.toList ++ vs.toList.drop (off + size) := by
          have := foldl_cells v.cells.toList 0 off vs (by simp; omega)
          rw [← Array.foldl_toList, Array.toList_zipIdx, this]
          simp [hsz]
        rw [hz]
        exact ((h.take off).app hpc).app (h.drop (off + size))
  | [], _ :: _, _, _, _, _, hp, _ => hp.elim
  | _ :: _, [], _, _, _, _, hp, _ => hp.elim

def zcells (z : Value) : Option (List A) := if z.cells.toList.all (·.oneCell') then some (z.cells.toList.map ofV1) else none

theorem zcells_PR {P : Program} {w : World} {F : Fz} {μ : Mu} {z : Value} {zc : List A} (h : zcells z = some zc) : PR P w F μ zc z.cells.toList := by
  unfold zcells at h
  split at h
  · rename_i ha; cases h
    refine ⟨by simp, List.all_eq_true.1 ha, ?_⟩
    intro i c u hc hu
    simp at hc
    obtain ⟨y, hy, rfl⟩ := hc
    simp at hu
    rw [hu] at hy; cases hy
    exact rep_ofV1 _
  · cases h

/-- What a struct is built of: its zero cells, where its fields lie. -/
def bplan (P : Program) (t : TypeId) : Option (List A × List (Nat × Nat)) :=
  match P.info? t, P.underlying t with
  | some it, some (.struct fields) =>
    match it.zero, fields.toList.mapM (fun f => (P.info? f.type).map fun i => (f.offset, i.size)) with
    | some z, some places => (zcells z).map fun zc => (zc, places)
    | _, _ => none
  | _, _ => none

def aplan (P : Program) (t : TypeId) : Option (List A × Nat) :=
  match P.info? t, P.underlying t with
  | some it, some (.array _ e) =>
    match it.zero, P.info? e with
    | some z, some ie => (zcells z).map fun zc => (zc, ie.size)
    | _, _ => none
  | _, _ => none

def abuilt (P : Program) (t : TypeId) (parts : List (Nat × A)) : Option A :=
  match bplan P t with
  | some p => (afill (p.2[·]?) p.1 parts).map .agg
  | none => (aplan P t).bind fun p => (afill (fun i => some (i * p.2, p.2)) p.1 parts).map .agg

theorem s_abuilt {P : Program} {w : World} {F : Fz} {μ : Mu} {t : TypeId} {parts : List (Nat × A)} {vparts : Array (Nat × Value)} {r : A} (hp : RepPs P w F μ parts vparts.toList) (h : abuilt P t parts = some r) :
    ∃ u, (∀ w', Cn w w' → (Instr.build t vparts).run P w' = .ok u w') ∧ Rep P w F μ r u := by
  unfold abuilt at h
  split at h
  · rename_i p hpl
    unfold bplan at hpl
    split at hpl
    · rename_i it fields hit hu'
      split at hpl
      · rename_i z places hz hpl2
        obtain ⟨zc, hzc, rfl⟩ := Option.map_eq_some_iff.1 hpl
        obtain ⟨cs, hcs, rfl⟩ := Option.map_eq_some_iff.1 h
        obtain ⟨vs, h1, h2⟩ := s_afill (zcells_PR hzc) hp hcs
        refine ⟨.agg vs, fun w' _ => run_build w' t vparts vs ?_, h2.agg⟩
        simp only [Program.built, hit, hu', hz, hpl2, List.getElem?_toArray, h1]
      · cases hpl
    · cases hpl
  · obtain ⟨p, hpl, h⟩ := Option.bind_eq_some_iff.1 h
    unfold aplan at hpl
    split at hpl
    · rename_i it n' e' hit hu'
      split at hpl
      · rename_i z ie hz hie
        obtain ⟨zc, hzc, rfl⟩ := Option.map_eq_some_iff.1 hpl
        obtain ⟨cs, hcs, rfl⟩ := Option.map_eq_some_iff.1 h
        obtain ⟨vs, h1, h2⟩ := s_afill (zcells_PR hzc) hp hcs
        exact ⟨.agg vs, fun w' _ => run_build w' t vparts vs (by simp [Program.built, hit, hu', hz, hie, h1]), h2.agg⟩
      · cases hpl
    · cases hpl
end Go.AL
/- An abstract layer over the walk, 6: new rows, rows that are written, rows that end. No program in sight. -/
namespace Go.AL

/-- w' is w with one block more. -/
structure Pushed (w w' : World) (o : Obj) : Prop where
  heap : w'.heap = w.heap.push o
  os : w'.os = w.os
  tape : w'.tape = w.tape
  output : w'.output = w.output

theorem Pushed.old {w w' : World} {o : Obj} (h : Pushed w w' o) {b : Nat} (hb : b < w.heap.size) : w'.heap[b]? = w.heap[b]? := by
  rw [h.heap, Array.getElem?_push, if_neg (by omega)]
theorem Pushed.new {w w' : World} {o : Obj} (h : Pushed w w' o) : w'.heap[w.heap.size]? = some o := by
  rw [h.heap, Array.getElem?_push, if_pos rfl]
theorem Pushed.size {w w' : World} {o : Obj} (h : Pushed w w' o) : w'.heap.size = w.heap.size + 1 := by rw [h.heap]; simp

theorem cell_eq {w w' : World} {b : Nat} (h : w'.heap[b]? = w.heap[b]?) (o : Nat) : w'.cell? ⟨b, o, none⟩ = w.cell? ⟨b, o, none⟩ := by simp [World.cell?, h]
theorem shape_eq {w w' : World} {b : Nat} (h : w'.heap[b]? = w.heap[b]?) : w'.shape? b = w.shape? b := by simp [World.shape?, h]
theorem lt_of_shape {w : World} {b t n : Nat} (h : w.shape? b = some (t, n)) : b < w.heap.size := by
  unfold World.shape? at h
  cases hb : w.heap[b]? with
  | none => simp [hb] at h
  | some o => exact (Array.getElem?_eq_some_iff.1 hb).1

theorem Pushed.adv {w w' : World} {o : Obj} (h : Pushed w w' o) (F : Fz) {F' : Fz} (hF : ∀ b x, b < w.heap.size → F' b x → F b x) : Adv w F w' F' where
  os := h.os
  tape := h.tape
  output := h.output
  size := by rw [h.size]; omega
  cell := fun b x u hc _ => by rw [cell_eq (h.old (lt_of_cell hc))]; exact hc
  mono := hF
  shape := fun b t n hs => by rw [shape_eq (h.old (lt_of_shape hs))]; exact hs
  block := fun b hb _ => h.old hb

/-- The elements es, laid into the cells cs from bs on. -/
def Laid (P : Program) (w : World) (F : Fz) (μ : Mu) (ty sz : Nat) (es : List A) (cur : Array Value) (bs : Nat) : Prop :=
  ∀ (k : Nat) (e : A), es[k]? = some e → shp P ty e = true ∧ ∃ V, Rep P w F μ e V ∧ ∀ (j : Nat) (u : Value), V.cells[j]? = some u → cur[bs + k * sz + j]? = some u

theorem Laid.adv {P : Program} {w w' : World} {F F' : Fz} {μ μ' : Mu} {ty sz : Nat} {es : List A} {cur : Array Value} {bs : Nat} (h : Laid P w F μ ty sz es cur bs) (hA : Adv w F w' F') (hp : μ <+: μ') : Laid P w' F' μ' ty sz es cur bs := by
  intro k e he
  obtain ⟨h1, V, h2, h3⟩ := h k e he
  exact ⟨h1, V, h2.adv hA hp, h3⟩

theorem Fof_app {μ : Mu} {H : List Row} (hl : μ.length = H.length) {b bs : Nat} {r : Row} {b' o : Nat} (h : Fof (μ ++ [(b, bs)]) (H ++ [r]) b' o) : Fof μ H b' o ∨ (b' = b ∧ r.live = true ∧ bs + r.f * r.sz ≤ o) := by
  obtain ⟨i, r', bs', h1, h2, h3, h4⟩ := h
  by_cases hi : i < H.length
  · rw [List.getElem?_append_left hi] at h1
    rw [List.getElem?_append_left (by omega)] at h3
    exact .inl ⟨i, r', bs', h1, h2, h3, h4⟩
  · rw [List.getElem?_append_right (by omega)] at h1 h3
    have : i - H.length = 0 := by
      rcases Nat.eq_zero_or_pos (i - H.length) with h0 | h0
      · exact h0
      · rw [List.getElem?_eq_none (by simp; omega)] at h1; cases h1
    rw [this] at h1
    rw [hl, this] at h3
    simp at h1 h3
    obtain ⟨rfl, rfl⟩ := h3
    subst h1
    exact .inr ⟨rfl, h2, h4⟩

theorem HS.newRow {P : Program} {w w' : World} {F0 : Fz} {μ : Mu} {H : List Row} (hs : HS P w F0 μ H) {cells : Array Value} {ty sz : Nat} {es : List A} (f : Nat) (hp : Pushed w w' (.cells cells ty))
    (hsz : sz = P.cellsOf ty) (hz : sz ≠ 0) (hfit : es.length * sz ≤ cells.size) (hl : Laid P w (Ft F0 μ H) μ ty sz es cells 0) :
    HS P w' F0 (μ ++ [(w.heap.size, 0)]) (H ++ [⟨ty, sz, es, f, true⟩]) ∧ Adv w (Fof μ H) w' (Fof (μ ++ [(w.heap.size, 0)]) (H ++ [⟨ty, sz, es, f, true⟩])) := by
  have hmono : ∀ b x, b < w.heap.size → Fof (μ ++ [(w.heap.size, 0)]) (H ++ [⟨ty, sz, es, f, true⟩]) b x → Fof μ H b x := by
    intro b x hb hf
    rcases Fof_app hs.len hf with h | ⟨rfl, _, _⟩
    · exact h
    · omega
  have hA := hp.adv (Fof μ H) hmono
  have hpre : μ <+: μ ++ [(w.heap.size, 0)] := List.prefix_append _ _
  refine ⟨⟨by simp [hs.len], fun b o h => by rw [hp.size]; have := hs.bound b o h; omega, ?_, ?_, ?_⟩, hA⟩
  · intro i r b bs hr hlive hb
    by_cases hi : i < H.length
    · rw [List.getElem?_append_left hi] at hr
      rw [List.getElem?_append_left (by rw [hs.len]; exact hi)] at hb
      have hlt : b < w.heap.size := hs.lt (o := bs + r.f * r.sz) (.inr ⟨i, r, bs, hr, hlive, hb, Nat.le_refl _⟩)
      rcases hs.row i r b bs hr hlive hb with h1 | h1
      · exact .inl (h1.adv (hA.join F0) hpre (hp.old hlt))
      · exact .inr (h1.adv (hA.join F0) (hp.old hlt))
    · rw [List.getElem?_append_right (by omega)] at hr
      rw [List.getElem?_append_right (by rw [hs.len]; omega), hs.len] at hb
      have : i - H.length = 0 := by
        rcases Nat.eq_zero_or_pos (i - H.length) with h0 | h0
        · exact h0
        · rw [List.getElem?_eq_none (by simp; omega)] at hr; cases hr
      rw [this] at hr hb
      simp at hr hb
      obtain ⟨rfl, rfl⟩ := hb
      subst hr
      exact .inl ⟨cells, hp.new, hsz, hz, by simpa using hfit, Laid.adv hl (hA.join F0) hpre⟩
  · intro i j r r' b bs bs' hr hlr hr' hlr' hb hb'
    have old : ∀ (i : Nat) (r : Row) (b bs : Nat), (H ++ [⟨ty, sz, es, f, true⟩])[i]? = some r → r.live = true → (μ ++ [(w.heap.size, 0)])[i]? = some (b, bs) → (i < H.length ∧ H[i]? = some r ∧ μ[i]? = some (b, bs) ∧ b < w.heap.size) ∨ (i = H.length ∧ b = w.heap.size) := by
      intro i r b bs hr hlive hb
      by_cases hi : i < H.length
      · rw [List.getElem?_append_left hi] at hr
        rw [List.getElem?_append_left (by rw [hs.len]; exact hi)] at hb
        exact .inl ⟨hi, hr, hb, hs.lt (o := bs + r.f * r.sz) (.inr ⟨i, r, bs, hr, hlive, hb, Nat.le_refl _⟩)⟩
      · rw [List.getElem?_append_right (by omega)] at hr
        rw [List.getElem?_append_right (by rw [hs.len]; omega), hs.len] at hb
        have : i - H.length = 0 := by
          rcases Nat.eq_zero_or_pos (i - H.length) with h0 | h0
          · exact h0
          · rw [List.getElem?_eq_none (by simp; omega)] at hr; cases hr
        rw [this] at hb
        simp at hb
        exact .inr ⟨by omega, hb.1.symm⟩
    rcases old i r b bs hr hlr hb with ⟨h1, h2, h3, h4⟩ | ⟨h1, h2⟩ <;> rcases old j r' b bs' hr' hlr' hb' with ⟨k1, k2, k3, k4⟩ | ⟨k1, k2⟩
    · exact hs.inj i j r r' b bs bs' h2 hlr k2 hlr' h3 k3
    · omega
    · omega
    · omega
  · intro i r b bs o hr hlive hb hf
    have hlt := hs.bound b o hf
    by_cases hi : i < H.length
    · rw [List.getElem?_append_left hi] at hr
      rw [List.getElem?_append_left (by rw [hs.len]; exact hi)] at hb
      exact hs.sep i r b bs o hr hlive hb hf
    · rw [List.getElem?_append_right (by rw [hs.len]; omega), hs.len] at hb
      have : i - H.length = 0 := by
        rcases Nat.eq_zero_or_pos (i - H.length) with h0 | h0
        · exact h0
        · rw [List.getElem?_eq_none (by simp; omega)] at hb; cases hb
      rw [this] at hb
      simp at hb
      omega

theorem Fof_set {μ : Mu} {H : List Row} {id : Nat} {r r' : Row} (hr : H[id]? = some r) (hf : r.live = true ∧ r.f * r.sz ≤ r'.f * r'.sz) {b o : Nat} (h : Fof μ (H.set id r') b o) : Fof μ H b o := by
  obtain ⟨i, x, bs, h1, h2, h3, h4⟩ := h
  rw [List.getElem?_set] at h1
  split at h1
  · rename_i hi
    subst hi
    split at h1
    · cases h1
      exact ⟨id, r, bs, hr, hf.1, h3, by omega⟩
    · cases h1
  · exact ⟨i, x, bs, h1, h2, h3, h4⟩

/-- A row ends (or is frozen further). -/
theorem HS.less {P : Program} {w : World} {F0 : Fz} {μ : Mu} {H : List Row} (hs : HS P w F0 μ H) {id : Nat} {r r' : Row} (hr : H[id]? = some r) (hlive : r.live = true) (hty : r'.ty = r.ty) (hsz : r'.sz = r.sz) (hes : r'.es = r.es) (hf : r.f ≤ r'.f) :
    HS P w F0 μ (H.set id r') ∧ Adv w (Fof μ H) w (Fof μ (H.set id r')) := by
  have hm : ∀ b o, Fof μ (H.set id r') b o → Fof μ H b o := fun b o h => Fof_set hr ⟨hlive, by rw [hsz]; exact Nat.mul_le_mul_right _ hf⟩ h
  have hA : Adv w (Fof μ H) w (Fof μ (H.set id r')) := ⟨rfl, rfl, rfl, Nat.le_refl _, fun _ _ _ h _ => h, fun b o _ h => hm b o h, fun _ _ _ h => h, fun _ _ _ => rfl⟩
  have get : ∀ (i : Nat) (x : Row), (H.set id r')[i]? = some x → x.live = true → ∃ y, H[i]? = some y ∧ y.live = true ∧ x.ty = y.ty ∧ x.sz = y.sz ∧ x.es = y.es := by
    intro i x hx hl
    rw [List.getElem?_set] at hx
    split at hx
    · rename_i hi; subst hi
      split at hx
      · cases hx; exact ⟨r, hr, hlive, hty, hsz, hes⟩
      · cases hx
    · exact ⟨x, hx, hl, rfl, rfl, rfl⟩
  refine ⟨⟨by simp [hs.len], hs.bound, ?_, ?_, ?_⟩, hA⟩
  · intro i x b bs hx hl hb
    obtain ⟨y, hy, hyl, e1, e2, e3⟩ := get i x hx hl
    rcases hs.row i y b bs hy hyl hb with ⟨cur, h1, h2, h3, h4, h5⟩ | ⟨h1, h2, h3, ms, clock, h4, h5⟩
    · refine .inl ?_
      unfold CellsOK
      rw [e1, e2, e3]
      exact ⟨cur, h1, h2, h3, h4, Laid.adv h5 (hA.join F0) (List.prefix_refl _)⟩
    · refine .inr ?_
      unfold MapOK
      rw [e1, e2, e3]
      exact ⟨h1, h2, h3, ms, clock, h4, h5.adv (hA.join F0)⟩
  · intro i j x x' b bs bs' hx hl hx' hl' hb hb'
    obtain ⟨y, hy, hyl, _⟩ := get i x hx hl
    obtain ⟨y', hy', hyl', _⟩ := get j x' hx' hl'
    exact hs.inj i j y y' b bs bs' hy hyl hy' hyl' hb hb'
  · intro i x b bs o hx hl hb
    obtain ⟨y, hy, hyl, _⟩ := get i x hx hl
    exact hs.sep i y b bs o hy hyl hb

/-- A row is written, from its place f on. -/
theorem HS.write {P : Program} {w w' : World} {F0 : Fz} {μ : Mu} {H : List Row} (hs : HS P w F0 μ H) {id b bs : Nat} {r : Row} {cur cur' : Array Value} {es' : List A} (hr : H[id]? = some r) (hlive : r.live = true) (hb : μ[id]? = some (b, bs))
    (hc : w.heap[b]? = some (.cells cur r.ty (0, 0))) (hw : w' = w.setRow b cur') (hcs : cur'.size = cur.size) (hold : ∀ o, o < bs + r.f * r.sz → cur'[o]? = cur[o]?) (hfit : bs + es'.length * r.sz ≤ cur.size)
    (hl : Laid P w (Ft F0 μ H) μ r.ty r.sz es' cur' bs) :
    HS P w' F0 μ (H.set id { r with es := es' }) ∧ Adv w (Fof μ H) w' (Fof μ (H.set id { r with es := es' })) := by
  subst hw
  have hm : ∀ b o, Fof μ (H.set id { r with es := es' }) b o → Fof μ H b o := fun b o h => Fof_set (r' := { r with es := es' }) hr ⟨hlive, Nat.le_refl _⟩ h
  have hA : Adv w (Fof μ H) (w.setRow b cur') (Fof μ (H.set id { r with es := es' })) := by
    refine ⟨rfl, rfl, rfl, by simp, ?_, fun b o _ h => hm b o h, ?_, ?_⟩
    · intro b' o u hu hf
      by_cases hbb : b' = b
      · subst hbb
        rw [cell_setRow_same w b' o cur cur' r.ty (0, 0) hc]
        have h1 : cur[o]? = some u := by rw [← cell_of_row w b' o cur r.ty (0, 0) hc]; exact hu
        rw [hold o ?_, h1]
        apply Nat.lt_of_not_le
        intro hle
        exact hf ⟨id, r, bs, hr, hlive, hb, hle⟩
      · rw [cell_setRow_other w b cur' _ hbb]; exact hu
    · intro b' t n hsh
      by_cases hbb : b' = b
      · subst hbb
        simp only [World.shape?, hc] at hsh
        simp only [World.shape?, setRow_heap w b' cur cur' r.ty (0, 0) hc, hcs]; exact hsh
      · rw [shape_eq (setRow_other w b b' cur' hbb)]; exact hsh
    · intro b' hlt hf
      refine setRow_other w b b' cur' ?_
      rintro rfl
      exact hf _ ⟨id, r, bs, hr, hlive, hb, Nat.le_refl _⟩
  refine ⟨⟨by simp [hs.len], fun b o h => by simp; exact hs.bound b o h, ?_, ?_, ?_⟩, hA⟩
  · intro i x b' bs' hx hl' hb'
    rw [List.getElem?_set] at hx
    split at hx
    · rename_i hi; subst hi
      split at hx
      · cases hx
        rw [hb] at hb'; cases hb'
        obtain ⟨_, _, h2, h3, _⟩ := hs.cells hr hlive hb (x := (r.ty, cur.size)) (by simp [World.shape?, hc])
        exact .inl ⟨cur', setRow_heap w b cur cur' r.ty (0, 0) hc, h2, h3, by rw [hcs]; exact hfit, Laid.adv hl (hA.join F0) (List.prefix_refl _)⟩
      · cases hx
    · rename_i hi
      have hne : b' ≠ b := by
        rintro rfl
        exact hi (hs.inj id i r x b' bs bs' hr hlive hx hl' hb hb')
      rcases hs.row i x b' bs' hx hl' hb' with h1 | h1
      · exact .inl (h1.adv (hA.join F0) (List.prefix_refl _) (setRow_other w b b' cur' hne))
      · exact .inr (h1.adv (hA.join F0) (setRow_other w b b' cur' hne))
  · intro i j x x' b1 bs1 bs2 hx hl1 hx' hl2 hb1 hb2
    have get : ∀ (i : Nat) (x : Row), (H.set id { r with es := es' })[i]? = some x → x.live = true → ∃ y, H[i]? = some y ∧ y.live = true := by
      intro i x hx hl
      rw [List.getElem?_set] at hx
      split at hx
      · rename_i hi; subst hi; exact ⟨r, hr, hlive⟩
      · exact ⟨x, hx, hl⟩
    obtain ⟨y, hy, hyl⟩ := get i x hx hl1
    obtain ⟨y', hy', hyl'⟩ := get j x' hx' hl2
    exact hs.inj i j y y' b1 bs1 bs2 hy hyl hy' hyl' hb1 hb2
  · intro i x b1 bs1 o hx hl1 hb1
    rw [List.getElem?_set] at hx
    split at hx
    · rename_i hi; subst hi; exact hs.sep id r b1 bs1 o hr hlive hb1
    · exact hs.sep i x b1 bs1 o hx hl1 hb1

theorem Fof_dead {μ : Mu} {H : List Row} {id : Nat} {d : Row} (hd : d.live = false) {b o : Nat} (h : Fof μ (H.set id d) b o) : Fof μ H b o := by
  obtain ⟨i, x, bs, h1, h2, h3, h4⟩ := h
  rw [List.getElem?_set] at h1
  split at h1
  · split at h1
    · cases h1; rw [hd] at h2; cases h2
    · cases h1
  · exact ⟨i, x, bs, h1, h2, h3, h4⟩

/-- A row ends. -/
theorem HS.kill {P : Program} {w : World} {F0 : Fz} {μ : Mu} {H : List Row} (hs : HS P w F0 μ H) {id : Nat} {d : Row} (hd : d.live = false) :
    HS P w F0 μ (H.set id d) ∧ Adv w (Fof μ H) w (Fof μ (H.set id d)) := by
  have hA : Adv w (Fof μ H) w (Fof μ (H.set id d)) := ⟨rfl, rfl, rfl, Nat.le_refl _, fun _ _ _ h _ => h, fun b o _ h => Fof_dead hd h, fun _ _ _ h => h, fun _ _ _ => rfl⟩
  have get : ∀ (i : Nat) (x : Row), (H.set id d)[i]? = some x → x.live = true → H[i]? = some x := by
    intro i x hx hl
    rw [List.getElem?_set] at hx
    split at hx
    · split at hx
      · cases hx; rw [hd] at hl; cases hl
      · cases hx
    · exact hx
  refine ⟨⟨by simp [hs.len], hs.bound, ?_, ?_, ?_⟩, hA⟩
  · intro i x b bs hx hl hb
    rcases hs.row i x b bs (get i x hx hl) hl hb with h1 | h1
    · exact .inl (h1.adv (hA.join F0) (List.prefix_refl _) rfl)
    · exact .inr (h1.adv (hA.join F0) rfl)
  · intro i j x x' b bs bs' hx hl hx' hl' hb hb'
    exact hs.inj i j x x' b bs bs' (get i x hx hl) hl (get j x' hx' hl') hl' hb hb'
  · intro i x b bs o hx hl hb
    exact hs.sep i x b bs o (get i x hx hl) hl hb

/-- A row goes on under a new number, from its element off on. -/
theorem HS.rebase {P : Program} {w : World} {F0 : Fz} {μ : Mu} {H : List Row} (hs : HS P w F0 μ H) {id b bs off f' : Nat} {r d : Row} (hd : d.live = false) (hr : H[id]? = some r) (hlive : r.live = true) (hb : μ[id]? = some (b, bs)) (ho : off ≤ r.es.length) (hf : r.f ≤ off + f') {xsh : TypeId × Nat} (hsh : w.shape? b = some xsh) :
    HS P w F0 (μ ++ [(b, bs + off * r.sz)]) (H.set id d ++ [⟨r.ty, r.sz, r.es.drop off, f', true⟩]) ∧
    Adv w (Fof μ H) w (Fof (μ ++ [(b, bs + off * r.sz)]) (H.set id d ++ [⟨r.ty, r.sz, r.es.drop off, f', true⟩])) := by
  have hm : ∀ b' o, Fof (μ ++ [(b, bs + off * r.sz)]) (H.set id d ++ [⟨r.ty, r.sz, r.es.drop off, f', true⟩]) b' o → Fof μ H b' o := by
    intro b' o h
    rcases Fof_app (by simp [hs.len]) h with h | ⟨rfl, _, h⟩
    · exact Fof_dead hd h
    · refine ⟨id, r, bs, hr, hlive, hb, ?_⟩
      have := Nat.mul_le_mul_right r.sz hf
      rw [Nat.add_mul] at this
      simp only at h
      omega
  have hA : Adv w (Fof μ H) w (Fof (μ ++ [(b, bs + off * r.sz)]) (H.set id d ++ [⟨r.ty, r.sz, r.es.drop off, f', true⟩])) := ⟨rfl, rfl, rfl, Nat.le_refl _, fun _ _ _ h _ => h, fun b o _ h => hm b o h, fun _ _ _ h => h, fun _ _ _ => rfl⟩
  have hpre : μ <+: μ ++ [(b, bs + off * r.sz)] := List.prefix_append _ _
  have get : ∀ (i : Nat) (x : Row) (b1 bs1 : Nat), (H.set id d ++ [⟨r.ty, r.sz, r.es.drop off, f', true⟩])[i]? = some x → x.live = true → (μ ++ [(b, bs + off * r.sz)])[i]? = some (b1, bs1) →
      (i ≠ id ∧ i < H.length ∧ H[i]? = some x ∧ μ[i]? = some (b1, bs1)) ∨ (i = H.length ∧ x = ⟨r.ty, r.sz, r.es.drop off, f', true⟩ ∧ b1 = b ∧ bs1 = bs + off * r.sz) := by
    intro i x b1 bs1 hx hl hb1
    by_cases hi : i < H.length
    · rw [List.getElem?_append_left (by simpa using hi)] at hx
      rw [List.getElem?_append_left (by rw [hs.len]; exact hi)] at hb1
      rw [List.getElem?_set] at hx
      split at hx
      · split at hx
        · cases hx; rw [hd] at hl; cases hl
        · cases hx
      · rename_i hne; exact .inl ⟨fun h => hne h.symm, hi, hx, hb1⟩
    · rw [List.getElem?_append_right (by simp; omega)] at hx
      rw [List.getElem?_append_right (by rw [hs.len]; omega), hs.len] at hb1
      simp only [List.length_set] at hx
      have : i - H.length = 0 := by
        rcases Nat.eq_zero_or_pos (i - H.length) with h0 | h0
        · exact h0
        · rw [List.getElem?_eq_none (by simp; omega)] at hx; cases hx
      rw [this] at hx hb1
      simp at hx hb1
      exact .inr ⟨by omega, hx.symm, hb1.1.symm, hb1.2.symm⟩
  obtain ⟨cur, h1, h2, h3, h4, h5⟩ := hs.cells hr hlive hb hsh
  refine ⟨⟨by simp [hs.len], hs.bound, ?_, ?_, ?_⟩, hA⟩
  · intro i x b1 bs1 hx hl hb1
    rcases get i x b1 bs1 hx hl hb1 with ⟨_, _, g1, g2⟩ | ⟨_, rfl, rfl, rfl⟩
    · rcases hs.row i x b1 bs1 g1 hl g2 with k1 | k1
      · exact .inl (k1.adv (hA.join F0) hpre rfl)
      · exact .inr (k1.adv (hA.join F0) rfl)
    · refine .inl ⟨cur, h1, h2, h3, ?_, ?_⟩
      · simp only [List.length_drop]
        have : off * r.sz + (r.es.length - off) * r.sz = r.es.length * r.sz := by rw [← Nat.add_mul]; congr 1; omega
        omega
      · refine Laid.adv ?_ (hA.join F0) hpre
        intro k e he
        simp only [List.getElem?_drop] at he
        obtain ⟨g1, V, g2, g3⟩ := h5 _ e he
        refine ⟨g1, V, g2, fun j u hu => ?_⟩
        have := g3 j u hu
        rw [show bs + off * r.sz + k * r.sz + j = bs + (off + k) * r.sz + j by rw [Nat.add_mul]; omega]
        exact this
  · intro i j x x' b1 bs1 bs2 hx hl1 hx' hl2 hb1 hb2
    rcases get i x b1 bs1 hx hl1 hb1 with ⟨g0, g1, g2, g3⟩ | ⟨g1, _, g2, _⟩ <;> rcases get j x' b1 bs2 hx' hl2 hb2 with ⟨k0, k1, k2, k3⟩ | ⟨k1, _, k2, _⟩
    · exact hs.inj i j x x' b1 bs1 bs2 g2 hl1 k2 hl2 g3 k3
    · subst k2; exact (g0 (hs.inj i id x r b1 bs1 bs g2 hl1 hr hlive g3 hb)).elim
    · subst g2; exact (k0 (hs.inj j id x' r b1 bs2 bs k2 hl2 hr hlive k3 hb)).elim
    · omega
  · intro i x b1 bs1 o hx hl hb1
    rcases get i x b1 bs1 hx hl hb1 with ⟨_, _, g1, g2⟩ | ⟨_, _, rfl, _⟩
    · exact hs.sep i x b1 bs1 o g1 hl g2
    · exact hs.sep id r b1 bs o hr hlive hb
end Go.AL
/- An abstract layer over the walk, 7: append. No program in sight. -/
namespace Go.AL

/-- The elements' cells, one element behind the other. -/
def Flat (P : Program) (w : World) (F : Fz) (μ : Mu) (ty sz : Nat) : List A → List Value → Prop
  | [], news => news = []
  | x :: es, news => ∃ V rest, news = V.cells.toList ++ rest ∧ shp P ty x = true ∧ Rep P w F μ x V ∧ V.cells.size = sz ∧ (∀ u ∈ V.cells.toList, u.oneCell' = true) ∧ Flat P w F μ ty sz es rest

section
variable {P : Program} {w : World} {F : Fz} {μ : Mu} {ty sz : Nat}

theorem Flat.len : ∀ {es : List A} {news : List Value}, Flat P w F μ ty sz es news → news.length = es.length * sz
  | [], _, h => by simp [Flat] at h; subst h; simp
  | x :: es, news, ⟨V, rest, h1, _, _, h4, _, h6⟩ => by
    subst h1
    simp only [List.length_append, List.length_cons, Array.length_toList, h4, h6.len, Nat.add_mul]
    omega

theorem Flat.one : ∀ {es : List A} {news : List Value}, Flat P w F μ ty sz es news → ∀ u ∈ news, u.oneCell' = true
  | [], _, h => by simp [Flat] at h; subst h; simp
  | x :: es, news, ⟨V, rest, h1, _, _, _, h5, h6⟩ => by
    subst h1
    intro u hu
    rcases List.mem_append.1 hu with hu | hu
    · exact h5 u hu
    · exact h6.one u hu

theorem Flat.app : ∀ {es es2 : List A} {news news2 : List Value}, Flat P w F μ ty sz es news → Flat P w F μ ty sz es2 news2 → Flat P w F μ ty sz (es ++ es2) (news ++ news2)
  | [], _, _, _, h, k => by simp [Flat] at h; subst h; simpa using k
  | x :: es, es2, news, news2, ⟨V, rest, h1, h2, h3, h4, h5, h6⟩, k => ⟨V, rest ++ news2, by rw [h1, List.append_assoc], h2, h3, h4, h5, h6.app k⟩

theorem Flat.at : ∀ {es : List A} {news : List Value}, Flat P w F μ ty sz es news → ∀ (k : Nat) (e : A), es[k]? = some e → shp P ty e = true ∧ ∃ V, Rep P w F μ e V ∧ ∀ (j : Nat) (u : Value), V.cells[j]? = some u → news[k * sz + j]? = some u
  | [], _, _, k, e, he => by simp at he
  | x :: es, news, ⟨V, rest, h1, h2, h3, h4, h5, h6⟩, 0, e, he => by
    simp at he; subst he; subst h1
    refine ⟨h2, V, h3, fun j u hu => ?_⟩
    have hj := (Array.getElem?_eq_some_iff.1 hu).1
    rw [Nat.zero_mul, Nat.zero_add, List.getElem?_append_left (by simpa using hj)]
    simpa using hu
  | x :: es, news, ⟨V, rest, h1, h2, h3, h4, h5, h6⟩, k + 1, e, he => by
    simp at he; subst h1
    obtain ⟨g1, V', g2, g3⟩ := h6.at k e he
    refine ⟨g1, V', g2, fun j u hu => ?_⟩
    have := g3 j u hu
    have hl : V.cells.toList.length = sz := by simpa using h4
    rw [List.getElem?_append_right (by rw [hl, Nat.add_mul]; omega), hl]
    rw [show (k + 1) * sz + j - sz = k * sz + j by rw [Nat.add_mul]; omega]
    exact this

theorem Flat.laid {es : List A} {news : List Value} (h : Flat P w F μ ty sz es news) {cur : Array Value} {bs : Nat} (hc : ∀ (k : Nat) (u : Value), news[k]? = some u → cur[bs + k]? = some u) : Laid P w F μ ty sz es cur bs := by
  intro k e he
  obtain ⟨g1, V, g2, g3⟩ := h.at k e he
  exact ⟨g1, V, g2, fun j u hu => by rw [Nat.add_assoc]; exact hc _ u (g3 j u hu)⟩

theorem flat_of (hz : sz = P.cellsOf ty) (hz0 : sz ≠ 0) (get : Nat → Option Value) : ∀ (es : List A) (o : Nat), (∀ (k : Nat) (e : A), es[k]? = some e → shp P ty e = true ∧ ∃ V, Rep P w F μ e V ∧ ∀ (j : Nat) (u : Value), V.cells[j]? = some u → get (o + k * sz + j) = some u) →
    ∃ news, Flat P w F μ ty sz es news ∧ ∀ (k : Nat) (u : Value), news[k]? = some u → get (o + k) = some u
  | [], _, _ => ⟨[], rfl, by simp⟩
  | x :: es, o, h => by
    obtain ⟨h1, V, h2, h3⟩ := h 0 x (by simp)
    obtain ⟨hs, h1c⟩ := shp_cells h1 h2 (by omega)
    obtain ⟨rest, g1, g2⟩ := flat_of hz hz0 get es (o + sz) (fun k e he => by
      obtain ⟨k1, V', k2, k3⟩ := h (k + 1) e (by simpa using he)
      exact ⟨k1, V', k2, fun j u hu => by have := k3 j u hu; rw [show o + sz + k * sz + j = o + (k + 1) * sz + j by rw [Nat.add_mul]; omega]; exact this⟩)
    refine ⟨V.cells.toList ++ rest, ⟨V, rest, rfl, h1, h2, by omega, h1c, g1⟩, ?_⟩
    intro k u hu
    have hl : V.cells.toList.length = sz := by simp; omega
    by_cases hk : k < sz
    · rw [List.getElem?_append_left (by omega)] at hu
      have := h3 k u (by simpa using hu)
      simpa using this
    · rw [List.getElem?_append_right (by omega), hl] at hu
      have := g2 _ u hu
      rw [show o + sz + (k - sz) = o + k by omega] at this
      exact this
end

/-- The elements of a slice that is read. -/
def asrc (P : Program) (H : List Row) (e : TypeId) (x : A) : Option (List A) :=
  match x with
  | .sl _ es => if es.all (fun x => shp P e x) then some es else none
  | .own id off len _ _ => if len = 0 then some [] else (H[id]?).bind fun r => if r.live = true ∧ r.ty = e ∧ off + len ≤ r.es.length then some ((r.es.drop off).take len) else none
  | _ => none

theorem s_asrc {P : Program} {H : List Row} {e : TypeId} {x : A} {es : List A} {v : Value} {w : World} {F0 : Fz} {μ : Mu} (hs : HS P w F0 μ H) (hx : Rep P w (Ft F0 μ H) μ x v) (hz : P.cellsOf e ≠ 0) (h : asrc P H e x = some es) :
    ∃ a c news, v = .slice a es.length c ∧ Flat P w (Ft F0 μ H) μ e (P.cellsOf e) es news ∧ (a = none → es = []) ∧ es.length ≤ c ∧
      (es = [] ∨ ∀ ad, a = some ad → ∃ b o, ad = ⟨b, o, none⟩ ∧ ∀ (k : Nat) (u : Value), news[k]? = some u → w.cell? ⟨b, o + k, none⟩ = some u) := by
  unfold asrc at h
  split at h
  · rename_i full es'
    split at h
    · rename_i ha; cases h
      cases hx with
      | slnil _ _ a => exact ⟨a, 0, [], rfl, rfl, fun _ => rfl, Nat.le_refl _, .inl rfl⟩
      | sl _ _ _ b off n cap sz V hn hcap hmax hfull hsz hrep hcell =>
        obtain ⟨news, h1, h2⟩ := flat_of (P := P) (w := w) (F := Ft F0 μ H) (μ := μ) (ty := e) rfl hz (fun o => w.cell? ⟨b, o, none⟩) es off (fun k x hx => by
          have hsh := List.all_eq_true.1 ha x (List.mem_of_getElem? hx)
          refine ⟨hsh, V k, (hrep k x hx).mono (fun _ _ _ h => h) List.nil_prefix, fun j u hu => ?_⟩
          have := (hcell k x hx j u hu).2.1
          have hss := hsz k x hx
          rw [shp_ncells hsh hz] at hss
          rw [hss]; exact this)
        exact ⟨_, cap, news, by rw [hn], h1, (by intro h; cases h), by omega, .inr fun ad had => by cases had; exact ⟨b, off, rfl, h2⟩⟩
    · cases h
  · rename_i id off len cb ex
    by_cases hl0 : len = 0
    · subst hl0
      simp at h; subst h
      cases hx with
      | own _ _ _ _ _ _ b bs cap ty n hμ hsh hfit hlen hcb hmax hex ao hat => exact ⟨_, cap, [], rfl, rfl, fun _ => rfl, Nat.zero_le _, .inl rfl⟩
      | ownn _ _ _ a => exact ⟨a, 0, [], rfl, rfl, fun _ => rfl, Nat.zero_le _, .inl rfl⟩
    rw [if_neg hl0] at h
    obtain ⟨r, hr, h⟩ := Option.bind_eq_some_iff.1 h
    split at h
    · rename_i hc; cases h
      obtain ⟨hl, hty, hle⟩ := hc
      cases hx with | ownn _ _ _ a => exact (hl0 rfl).elim | own _ _ _ _ _ _ b bs cap ty n hμ hsh hfit hlen hcb hmax hex ao hat =>
      obtain rfl := hat (by omega)
      obtain ⟨cur, h1, h2, h3, h4, h5⟩ := hs.cells hr hl hμ hsh
      have hte : ty = e := by
        simp only [World.shape?, h1] at hsh
        simp at hsh; rw [← hsh.1, hty]
      subst hte
      rw [hty] at h2
      obtain ⟨news, g1, g2⟩ := flat_of (P := P) (w := w) (F := Ft F0 μ H) (μ := μ) (ty := ty) rfl hz (fun o => w.cell? ⟨b, o, none⟩) ((r.es.drop off).take len) (bs + off * P.cellsOf ty) (fun k x hx => by
        simp only [List.getElem?_take, List.getElem?_drop] at hx
        split at hx
        · obtain ⟨k1, V, k2, k3⟩ := h5 _ x hx
          rw [hty] at k1
          refine ⟨k1, V, k2, fun j u hu => ?_⟩
          have := k3 j u hu
          show w.cell? _ = _
          rw [cell_of_row w b _ cur r.ty (0, 0) h1]
          rw [h2] at this
          rw [show bs + off * P.cellsOf ty + k * P.cellsOf ty + j = bs + (off + k) * P.cellsOf ty + j by rw [Nat.add_mul]; omega]
          exact this
        · cases hx)
      have hlen' : ((r.es.drop off).take len).length = len := by simp; omega
      exact ⟨_, cap, news, by rw [hlen'], g1, (by intro h; cases h), by omega, .inr fun ad had => by cases had; exact ⟨b, _, rfl, g2⟩⟩
    · cases h
  · cases h

section
variable {P : Program}

theorem run_first {w : World} {size n : Nat} {a : Option Addr} {m c : Nat} {news : List Value} (hl : news.length = n * size) (hn : a = none → n = 0)
    (hc : n = 0 ∨ ∀ ad, a = some ad → ∃ b o, ad = ⟨b, o, none⟩ ∧ ∀ (k : Nat) (u : Value), news[k]? = some u → w.cell? ⟨b, o + k, none⟩ = some u) (w' : World) (hw : w'.heap = w.heap) :
    (Builtin.firstCells size n (.slice a m c)).run P w' = .ok news.toArray w' := by
  cases a with
  | none =>
    have : n = 0 := hn rfl
    subst this
    have : news = [] := by simpa using hl
    subst this
    simp [Builtin.firstCells]
  | some ad =>
    refine run_firstCells_some w' size n _ m c news hl ?_
    rcases hc with rfl | hc
    · have : news = [] := by simpa using hl
      subst this
      intro j v hv
      simp at hv
    obtain ⟨b, o, rfl, hc2⟩ := hc ad rfl
    intro j v hv
    rw [Addr.add_lit]
    have := hc2 j v hv
    simpa [World.cell?, hw] using this

theorem run_appendGrow (w : World) (t ty e : TypeId) (ts : Array TypeId) (i : TypeInfo) (z : Value) (h0 : ts[0]? = some t) (h1 : ∃ t', ts[1]? = some t' ∧ ∃ e', P.underlying t' = some (.slice e')) (ht : P.underlying t = some (.slice e)) (hi : P.info? e = some i) (hz : i.zero = some z)
    (sa xa : Option Addr) (sLen sCap n c : Nat) (olds news : List Value)
    (hfo : ∀ w', w'.heap = w.heap → (Builtin.firstCells i.size sLen (.slice sa sLen sCap)).run P w' = .ok olds.toArray w')
    (hf : ∀ w', w'.heap = w.heap → (Builtin.firstCells i.size n (.slice xa n c)).run P w' = .ok news.toArray w')
    (hg : sCap < sLen + n) (h63 : sLen + n ≤ 9223372036854775807) (hfit : (sLen + n) * i.bytes ≤ 140737488355328) :
    (Builtin.append_ ts ty #[.slice sa sLen sCap, .slice xa n c]).run P w =
      .ok (.slice (some ⟨w.heap.size, 0, none⟩) (sLen + n) (grownCap w (sLen + n) sCap e))
        (w.drew.alloc (.cells (olds.toArray ++ news.toArray ++ Builtin.zeroCells z.cells (grownCap w (sLen + n) sCap e - (sLen + n))) e)) := by
  obtain ⟨t', h1, e', hu'⟩ := h1
  have hn : ¬ (sLen + n ≤ sCap) := by omega
  have h63' : ¬ (9223372036854775807 < ((sLen : Int) + (n : Int))) := by omega
  have hng := growslice_fits (bytes := i.bytes) hg hfit
  have h48' : ¬ (281474976710656 < Builtin.nextslicecap (sLen + n) sCap * i.bytes) := by omega
  have a1 := hfo w.drew rfl
  have a2 := hf w.drew rfl
  simp [Builtin.append_, h0, h1, run_underlying ht, run_underlying hu', sizeOf, typeInfo, zeroValue, hi, hz, Builtin.lenOf, hn, h63', h48', Question.forced, a1, a2, newRow, grownCap]
  congr 2
  apply Array.ext'
  simp

theorem run_appendRoom (w : World) (t ty e : TypeId) (ts : Array TypeId) (i : TypeInfo) (h0 : ts[0]? = some t) (h1 : ∃ t', ts[1]? = some t' ∧ ∃ e', P.underlying t' = some (.slice e')) (ht : P.underlying t = some (.slice e)) (hi : P.info? e = some i)
    (xa : Option Addr) (b o sLen sCap n c : Nat) (news : List Value) (cur : Array Value) (cty : TypeId)
    (hf : (Builtin.firstCells i.size n (.slice xa n c)).run P w = .ok news.toArray w)
    (hc : w.heap[b]? = some (.cells cur cty (0, 0))) (hroom : sLen + n ≤ sCap) (hfit : o + sLen * i.size + news.length ≤ cur.size) (hone : ∀ u ∈ news, u.oneCell' = true) :
    (Builtin.append_ ts ty #[.slice (some ⟨b, o, none⟩) sLen sCap, .slice xa n c]).run P w =
      .ok (.slice (some ⟨b, o, none⟩) (sLen + n) sCap) (w.setRow b (cur.toList.take (o + sLen * i.size) ++ news ++ cur.toList.drop (o + sLen * i.size + news.length)).toArray) := by
  obtain ⟨t', h1, e', hu'⟩ := h1
  have hst := run_storeCells_at P b (o + sLen * i.size) cty news 0 cur w hc (by omega) hone
  simp only [Nat.add_zero] at hst
  simp [Builtin.append_, h0, h1, run_underlying ht, run_underlying hu', sizeOf, typeInfo, hi, Builtin.lenOf, hroom, hf, Addr.add_lit, hst]

theorem run_appendNone (w : World) (t ty e : TypeId) (ts : Array TypeId) (i : TypeInfo) (h0 : ts[0]? = some t) (h1 : ∃ t', ts[1]? = some t' ∧ ∃ e', P.underlying t' = some (.slice e')) (ht : P.underlying t = some (.slice e)) (hi : P.info? e = some i)
    (sa xa : Option Addr) (sLen sCap c : Nat) (hf : (Builtin.firstCells i.size 0 (.slice xa 0 c)).run P w = .ok #[] w) (hroom : sLen ≤ sCap) :
    (Builtin.append_ ts ty #[.slice sa sLen sCap, .slice xa 0 c]).run P w = .ok (.slice sa sLen sCap) w := by
  obtain ⟨t', h1, e', hu'⟩ := h1
  cases sa with
  | none => simp [Builtin.append_, h0, h1, run_underlying ht, run_underlying hu', sizeOf, typeInfo, hi, Builtin.lenOf, hroom, hf]
  | some a => simp [Builtin.append_, h0, h1, run_underlying ht, run_underlying hu', sizeOf, typeInfo, hi, Builtin.lenOf, hroom, hf, storeCells]
end

def isSliceT (P : Program) (t : TypeId) : Bool := match P.underlying t with | some (.slice _) => true | _ => false

/-- A row that nobody knows of. -/
def dead0 : Row := ⟨0, 1, [], 0, false⟩

/-- Behind the elements that are there: those that come. -/
def agrow (P : Program) (H : List Row) (e : TypeId) (s : A) (olds news : List A) : Option (A × List Row) :=
  match s with
  | .sl full _ =>
    if news.length = 0 then some (s, H)
    else if full then some (.own H.length 0 (olds.length + news.length) (olds.length + news.length) false, H ++ [⟨e, P.cellsOf e, olds ++ news, 0, true⟩])
    else none
  | .own id off len cb ex =>
    if news.length = 0 then some (s, H)
    else if ex && cb == len then some (.own H.length 0 (olds.length + news.length) (olds.length + news.length) false, (if len = 0 then H.set id dead0 else H) ++ [⟨e, P.cellsOf e, olds ++ news, 0, true⟩])
    else (H[id]?).bind fun r =>
      if r.live = true ∧ r.ty = e ∧ off + len ≤ r.es.length then
        if len + news.length ≤ cb ∧ off + len + news.length ≤ r.es.length ∧ r.f ≤ off + len then
          some (.own id off (len + news.length) cb ex, H.set id { r with es := r.es.take (off + len) ++ news ++ r.es.drop (off + len + news.length) })
        else if off + len = r.es.length ∧ r.f ≤ off + len then
          some (.own H.length 0 (olds.length + news.length) (olds.length + news.length) false, H.set id dead0 ++ [⟨e, P.cellsOf e, olds ++ news, r.f - off, true⟩])
        else none
      else none
  | _ => none

def aappend (P : Program) (H : List Row) (ts : Array TypeId) (s x : A) : Option (A × List Row) :=
  match ts[0]?, ts[1]? with
  | some t, some t' =>
    match P.underlying t with
    | some (.slice e) =>
      match zbox P e with
      | some (_, bytes) =>
        if isSliceT P t' ∧ P.cellsOf e ≠ 0 then
          (asrc P H e s).bind fun olds => (asrc P H e x).bind fun news =>
            if olds.length + news.length ≤ 9223372036854775807 ∧ (olds.length + news.length) * bytes ≤ 140737488355328 then agrow P H e s olds news
            else none
        else none
      | none => none
    | _ => none
  | _, _ => none

theorem maxLen_eq : maxLen = 9223372036854775807 := by unfold maxLen; decide

theorem grown_le (w : World) (need old : Nat) (e : TypeId) (h : need ≤ 9223372036854775807) : need ≤ grownCap w need old e ∧ grownCap w need old e ≤ maxLen :=
  ⟨grownCap_ge w need old e, grownCap_le_maxLen w need old e (by rw [maxLen_eq]; exact h)⟩

/-- A new row behind a draw. -/
theorem newOwn {P : Program} {w : World} {F0 : Fz} {μ : Mu} {H : List Row} (hs : HS P w F0 μ H) {e cap : Nat} {es : List A} {vals : List Value} {pad : Array Value} (hz : P.cellsOf e ≠ 0) (hfl : Flat P w (Ft F0 μ H) μ e (P.cellsOf e) es vals)
    (hmax : cap ≤ maxLen) (hpad : vals.length + pad.size = cap * P.cellsOf e) (cb : Nat) (ex : Bool) (f : Nat) (hcb : es.length ≤ cb) (hcc : cb ≤ cap) (hex : ex = true → cap = cb) (w' : World) (hp : Pushed w w' (.cells (vals.toArray ++ pad) e)) :
    HS P w' F0 (μ ++ [(w.heap.size, 0)]) (H ++ [⟨e, P.cellsOf e, es, f, true⟩]) ∧ Adv w (Fof μ H) w' (Fof (μ ++ [(w.heap.size, 0)]) (H ++ [⟨e, P.cellsOf e, es, f, true⟩])) ∧
    Rep P w' (Ft F0 (μ ++ [(w.heap.size, 0)]) (H ++ [⟨e, P.cellsOf e, es, f, true⟩])) (μ ++ [(w.heap.size, 0)]) (.own H.length 0 es.length cb ex) (.slice (some ⟨w.heap.size, 0, none⟩) es.length cap) := by
  have hl := hfl.len
  obtain ⟨h1, h2⟩ := hs.newRow (f := f) hp rfl hz (by simp; omega) (hfl.laid (fun k u hu => by
    have hk := (List.getElem?_eq_some_iff.1 hu).1
    rw [Nat.zero_add, Array.getElem?_append_left (by simpa using hk)]
    simpa using hu))
  refine ⟨h1, h2, ?_⟩
  have := Rep.own (P := P) (w := w') (F := Ft F0 (μ ++ [(w.heap.size, 0)]) (H ++ [⟨e, P.cellsOf e, es, f, true⟩])) (μ ++ [(w.heap.size, 0)]) H.length 0 es.length cb ex w.heap.size 0 cap e (cap * P.cellsOf e) (by
      rw [List.getElem?_append_right (by rw [hs.len]; exact Nat.le_refl _), hs.len]; simp) (by
      simp only [World.shape?, hp.new]; simp; omega) (by simp) hcb hcc hmax hex
  simpa using this 0 (fun _ => by simp)

def Res (P : Program) (w : World) (F0 : Fz) (μ : Mu) (H : List Row) (v' : Value) (w' : World) (r : A) (H' : List Row) : Prop :=
  ∃ μ', HS P w' F0 μ' H' ∧ Adv w (Fof μ H) w' (Fof μ' H') ∧ μ <+: μ' ∧ Rep P w' (Ft F0 μ' H') μ' r v'

theorem Res.same {P : Program} {w : World} {F0 : Fz} {μ : Mu} {H : List Row} {v : Value} {r : A} (hs : HS P w F0 μ H) (hr : Rep P w (Ft F0 μ H) μ r v) : Res P w F0 μ H v w r H :=
  ⟨μ, hs, Adv.refl _ _, List.prefix_refl _, hr⟩

theorem Adv.drew {w : World} (F : Fz) : Adv w F w.drew F := ⟨rfl, rfl, rfl, Nat.le_refl _, fun _ _ _ h _ => h, fun _ _ _ h => h, fun _ _ _ h => h, fun _ _ _ => rfl⟩

theorem pushed_drew_alloc (w : World) (o : Obj) : Pushed w (w.drew.alloc o) o := ⟨rfl, rfl, rfl, rfl⟩
theorem pushed_alloc (w : World) (o : Obj) : Pushed w (w.alloc o) o := ⟨rfl, rfl, rfl, rfl⟩

theorem size_zeroC (z : Array Value) (n : Nat) : (Builtin.zeroCells z n).size = n * z.size := by simp [Builtin.zeroCells]

/-- 'append' that makes a new array. -/
theorem s_grow {P : Program} {w : World} {F0 : Fz} {μ : Mu} {H : List Row} (hs : HS P w F0 μ H) {t ty e : TypeId} {ts : Array TypeId} {inf : TypeInfo} {z : Value} (h0 : ts[0]? = some t) (h1 : ∃ t', ts[1]? = some t' ∧ ∃ e', P.underlying t' = some (.slice e'))
    (ht : P.underlying t = some (.slice e)) (hi : P.info? e = some inf) (hz : inf.zero = some z) (hzs : z.cells.size = inf.size) (hnz : P.cellsOf e ≠ 0) {olds news : List A} {va vx : Option Addr} {ca cx : Nat} {lo ln : List Value}
    (fo : Flat P w (Ft F0 μ H) μ e (P.cellsOf e) olds lo) (no : va = none → olds = []) (co : olds = [] ∨ ∀ ad, va = some ad → ∃ b o, ad = ⟨b, o, none⟩ ∧ ∀ (k : Nat) (u : Value), lo[k]? = some u → w.cell? ⟨b, o + k, none⟩ = some u)
    (fn : Flat P w (Ft F0 μ H) μ e (P.cellsOf e) news ln) (nn : vx = none → news = []) (cn : news = [] ∨ ∀ ad, vx = some ad → ∃ b o, ad = ⟨b, o, none⟩ ∧ ∀ (k : Nat) (u : Value), ln[k]? = some u → w.cell? ⟨b, o + k, none⟩ = some u)
    (hlen : olds.length + news.length ≤ 9223372036854775807) (hby : (olds.length + news.length) * inf.bytes ≤ 140737488355328) (hg : ca < olds.length + news.length) (f : Nat) :
    ∃ v' w', (Builtin.append_ ts ty #[.slice va olds.length ca, .slice vx news.length cx]).run P w = .ok v' w' ∧
      Res P w F0 μ H v' w' (.own H.length 0 (olds.length + news.length) (olds.length + news.length) false) (H ++ [⟨e, P.cellsOf e, olds ++ news, f, true⟩]) := by
  have hci := cellsOf_info hi
  have r := run_appendGrow (P := P) w t ty e ts inf z h0 h1 ht hi hz va vx olds.length ca news.length cx lo ln
    (fun w' hw => run_first (by rw [fo.len, hci]) (fun h => by simp [no h]) (co.imp (fun h => by simp [h]) id) w' hw) (fun w' hw => run_first (by rw [fn.len, hci]) (fun h => by simp [nn h]) (cn.imp (fun h => by simp [h]) id) w' hw) hg hlen hby
  refine ⟨_, _, r, ?_⟩
  have hgc := grown_le w (olds.length + news.length) ca e hlen
  have hd : (lo.toArray ++ ln.toArray : Array Value) = (lo ++ ln).toArray := by simp
  rw [hd]
  have := newOwn hs (e := e) (cap := grownCap w (olds.length + news.length) ca e) (es := olds ++ news) (vals := lo ++ ln) (pad := Builtin.zeroCells z.cells (grownCap w (olds.length + news.length) ca e - (olds.length + news.length))) hnz (fo.app fn)
    hgc.2 (by rw [size_zeroC, hzs, ← hci, List.length_append, fo.len, fn.len, ← Nat.add_mul, ← Nat.add_mul]; congr 1; omega) (olds.length + news.length) false f (by simp) (by omega) (by simp) _ (pushed_drew_alloc w _)
  obtain ⟨k1, k2, k3⟩ := this
  refine ⟨_, k1, k2, List.prefix_append _ _, ?_⟩
  simpa using k3

theorem zero_size {P : Program} {t : TypeId} {inf : TypeInfo} {z : Value} (_ : P.info? t = some inf) (_ : inf.zero = some z) (h : z.cells.size = inf.size) : z.cells.size = inf.size := h

theorem splice_size (cur : Array Value) (ln : List Value) (q : Nat) (h : q + ln.length ≤ cur.size) : (cur.toList.take q ++ ln ++ cur.toList.drop (q + ln.length)).toArray.size = cur.size := by
  simp; omega

theorem splice_get (cur : Array Value) (ln : List Value) (q : Nat) (h : q + ln.length ≤ cur.size) (x : Nat) :
    (cur.toList.take q ++ ln ++ cur.toList.drop (q + ln.length)).toArray[x]? = if x < q then cur[x]? else if x < q + ln.length then ln[x - q]? else cur[x]? := by
  have h1 : (cur.toList.take q).length = q := by simp; omega
  simp only [List.getElem?_toArray]
  by_cases hx : x < q
  · rw [if_pos hx, List.append_assoc, List.getElem?_append_left (by omega), List.getElem?_take, if_pos hx]; simp
  · rw [if_neg hx]
    by_cases hy : x < q + ln.length
    · rw [if_pos hy, List.getElem?_append_left (by simp; omega), List.getElem?_append_right (by omega), h1]
    · rw [if_neg hy, List.getElem?_append_right (by simp; omega)]
      simp only [List.length_append, h1, List.getElem?_drop]
      rw [show q + ln.length + (x - (q + ln.length)) = x by omega]; simp

theorem Laid.to {P : Program} {w : World} {F : Fz} {μ : Mu} {ty sz ty' sz' : Nat} {es : List A} {cur : Array Value} {bs : Nat} (h : Laid P w F μ ty sz es cur bs) (h1 : ty = ty') (h2 : sz = sz') : Laid P w F μ ty' sz' es cur bs := by
  subst h1; subst h2; exact h

/-- Rows of which a middle part has been written. -/
theorem laid_splice {P : Program} {w : World} {F : Fz} {μ : Mu} {ty p q bs : Nat} {es news : List A} {ln : List Value} {cur cur' : Array Value} (h : Laid P w F μ ty (P.cellsOf ty) es cur bs) (fn : Flat P w F μ ty (P.cellsOf ty) news ln)
    (hz : P.cellsOf ty ≠ 0) (hp : p ≤ es.length) (hq : bs + p * P.cellsOf ty = q) (g1 : ∀ x, x < q → cur'[x]? = cur[x]?) (g2 : ∀ (k : Nat) (u : Value), ln[k]? = some u → cur'[q + k]? = some u)
    (g3 : ∀ x, q + news.length * P.cellsOf ty ≤ x → cur'[x]? = cur[x]?) : Laid P w F μ ty (P.cellsOf ty) (es.take p ++ news ++ es.drop (p + news.length)) cur' bs := by
  intro k e he
  have hl1 : (es.take p).length = p := by simp; omega
  by_cases hk : k < p
  · rw [List.append_assoc, List.getElem?_append_left (by omega), List.getElem?_take, if_pos hk] at he
    obtain ⟨k1, V, k2, k3⟩ := h k e he
    refine ⟨k1, V, k2, fun j u hu => ?_⟩
    have hj : j < P.cellsOf ty := by have := (Array.getElem?_eq_some_iff.1 hu).1; rw [(shp_cells k1 k2 hz).1] at this; exact this
    rw [g1 _ ?_]
    · exact k3 j u hu
    · have := Nat.mul_le_mul_right (P.cellsOf ty) (show k + 1 ≤ p by omega)
      rw [Nat.add_mul] at this; omega
  · by_cases hk2 : k < p + news.length
    · rw [List.getElem?_append_left (by simp; omega), List.getElem?_append_right (by omega), hl1] at he
      obtain ⟨k1, V, k2, k3⟩ := fn.at _ e he
      refine ⟨k1, V, k2, fun j u hu => ?_⟩
      have := g2 _ u (k3 j u hu)
      rw [← hq] at this
      have e1 : k * P.cellsOf ty = p * P.cellsOf ty + (k - p) * P.cellsOf ty := by rw [← Nat.add_mul]; congr 1; omega
      rw [show bs + k * P.cellsOf ty + j = bs + p * P.cellsOf ty + ((k - p) * P.cellsOf ty + j) by omega]
      exact this
    · rw [List.getElem?_append_right (by simp; omega)] at he
      simp only [List.length_append, hl1, List.getElem?_drop] at he
      rw [show p + news.length + (k - (p + news.length)) = k by omega] at he
      obtain ⟨k1, V, k2, k3⟩ := h k e he
      refine ⟨k1, V, k2, fun j u hu => ?_⟩
      rw [g3 _ ?_]
      · exact k3 j u hu
      · have := Nat.mul_le_mul_right (P.cellsOf ty) (show p + news.length ≤ k by omega)
        rw [Nat.add_mul] at this; omega

def zeroOK (inf : TypeInfo) : Bool := match inf.zero with | some z => z.cells.size == inf.size | none => false

theorem s_aappend {P : Program} {w : World} {F0 : Fz} {μ : Mu} {H H' : List Row} {ts : Array TypeId} {ty : TypeId} {s x r : A} {vs vx : Value} (hs : HS P w F0 μ H)
    (hS : Rep P w (Ft F0 μ H) μ s vs) (hX : Rep P w (Ft F0 μ H) μ x vx) (h : aappend P H ts s x = some (r, H')) :
    ∃ v' w', (Builtin.append_ ts ty #[vs, vx]).run P w = .ok v' w' ∧ Res P w F0 μ H v' w' r H' := by
  unfold aappend at h
  split at h
  case h_2 => cases h
  rename_i t t' ht0 ht1
  split at h
  case h_2 => cases h
  rename_i e hu
  split at h
  case h_2 => cases h
  rename_i z0 bytes hzb
  obtain ⟨inf, z, hinf, hz, hzs, _, rfl⟩ := zbox_some hzb
  split at h
  case isFalse => cases h
  rename_i hc
  obtain ⟨hst, hnz⟩ := hc
  have h1 : ∃ t', ts[1]? = some t' ∧ ∃ e', P.underlying t' = some (.slice e') := by
    refine ⟨t', ht1, ?_⟩
    unfold isSliceT at hst
    split at hst
    · rename_i e' he'; exact ⟨e', he'⟩
    · cases hst
  obtain ⟨olds, ho, h⟩ := Option.bind_eq_some_iff.1 h
  obtain ⟨news, hn, h⟩ := Option.bind_eq_some_iff.1 h
  split at h
  case isFalse => cases h
  rename_i hb
  obtain ⟨hlen, hby⟩ := hb
  obtain ⟨va, ca, lo, rfl, fo, no, hca, co⟩ := s_asrc hs hS hnz ho
  obtain ⟨vb, cb', ln, rfl, fn, nn, hcb', cn⟩ := s_asrc hs hX hnz hn
  have hci := cellsOf_info hinf
  have hfn := run_first (P := P) (size := inf.size) (m := news.length) (c := cb') (by rw [fn.len, hci]) (fun h => by simp [nn h]) (cn.imp (fun h => by simp [h]) id) w rfl
  have same : news.length = 0 → ∃ v' w', (Builtin.append_ ts ty #[.slice va olds.length ca, .slice vb news.length cb']).run P w = .ok v' w' ∧ Res P w F0 μ H v' w' s H := by
    intro h0
    have hn0 : news = [] := by simpa using h0
    subst hn0
    have hl0 : ln = [] := by have := fn.len; simpa using this
    subst hl0
    exact ⟨_, _, run_appendNone w t ty e ts inf ht0 h1 hu hinf va vb olds.length ca cb' (by simpa using hfn) hca, Res.same hs hS⟩
  unfold agrow at h
  split at h
  · rename_i full es
    split at h
    · rename_i h0; cases h; exact same h0
    · split at h
      · rename_i hnf; cases h
        have hcap : ca = olds.length := by
          unfold asrc at ho
          try simp only at ho
          split at ho
          · cases ho
            generalize hv : Value.slice va _ ca = v at hS
            cases hS with
            | slnil _ _ _ => cases hv; rfl
            | sl _ _ _ b off n cap sz V hn' hcap hmax hfull hsz hrep hcell =>
              cases hv
              exact hfull hnf
          · cases ho
        exact s_grow hs ht0 h1 hu hinf hz hzs hnz fo no co fn nn cn hlen hby (by omega) 0
      · cases h
  · rename_i id off len cb ex _ _
    split at h
    · rename_i h0; cases h; exact same h0
    rename_i hM0
    split at h
    · rename_i hfull
      cases h
      simp at hfull
      have hcap : ca = olds.length := by
        generalize hv : Value.slice va olds.length ca = v at hS
        cases hS with
        | own _ id off len cb ex b bs cap tyr n hμ hsh hfit hlen2 hcb hmax hex ao hat => cases hv; rw [hex hfull.1, hfull.2]
        | ownn _ _ _ a => simp at hv; omega
      have hg := s_grow (ty := ty) (ca := ca) (cx := cb') hs ht0 h1 hu hinf hz hzs hnz fo no co fn nn cn hlen hby (by omega) 0
      by_cases hl0 : len = 0
      · rw [if_pos hl0]
        obtain ⟨v', w', hrun, μ', hs1, hA1, hp1, hr1⟩ := hg
        refine ⟨v', w', hrun, ?_⟩
        by_cases hid : id < H.length
        · obtain ⟨hs2, hA2⟩ := hs1.kill (id := id) (d := dead0) rfl
          rw [List.set_append_left _ _ hid] at hs2 hA2
          exact ⟨μ', hs2, hA1.trans hA2, hp1, hr1.adv (hA2.join F0) (List.prefix_refl _)⟩
        · rw [List.set_eq_of_length_le (by omega)]
          exact ⟨μ', hs1, hA1, hp1, hr1⟩
      · rw [if_neg hl0]
        exact hg
    · rename_i hnfull
      generalize hv : Value.slice va olds.length ca = v at hS
      have hS' := hS
      cases hS with | ownn _ _ _ a => exact (hnfull rfl).elim | own _ id off len cb ex b bs cap tyr n hμ hsh hfit hlen2 hcb hmax hex ao hat =>
      cases hv
      have hll : olds.length = olds.length := rfl
      obtain ⟨row, hrow, h⟩ := Option.bind_eq_some_iff.1 h
      split at h
      case isFalse => cases h
      rename_i hro
      have ho : some ((row.es.drop off).take olds.length) = some olds := by
        simp only [asrc, hrow, Option.bind_some] at ho
        split at ho
        · rename_i hz0
          have : olds = [] := by simpa using hz0
          subst this
          simp
        · first | exact ho | (rw [if_pos hro] at ho; exact ho)
      have ho' := Option.some.inj ho
      obtain ⟨hlive, hrty, hrle⟩ := hro
      obtain ⟨cur, c1, c2, c3, c4, c5⟩ := hs.cells hrow hlive hμ hsh
      have htye : tyr = e := by
        simp only [World.shape?, c1] at hsh
        simp at hsh; rw [← hsh.1, hrty]
      subst htye
      have hcs : cur.size = n := by
        simp only [World.shape?, c1] at hsh
        simp at hsh; exact hsh.2
      have hrs : row.sz = P.cellsOf tyr := by rw [c2, hrty]
      obtain ⟨rty, rsz, res, rf, rl⟩ := row
      simp only at hrty hrs hlive hrle ho' c1 c2 c3 c4 c5 h
      subst hrty hrs hlive
      have hid : id < H.length := (List.getElem?_eq_some_iff.1 hrow).1
      generalize hN : olds.length = N at *
      generalize hM : news.length = M at *
      have hlnl : ln.length = M * P.cellsOf rty := by rw [fn.len, hM]
      split at h
      · rename_i hB
        obtain ⟨hB1, hB2, hB3⟩ := hB
        cases h
        obtain rfl := hat (by omega)
        have hmul : (off + N + M) * P.cellsOf rty ≤ res.length * P.cellsOf rty := Nat.mul_le_mul_right _ hB2
        have e1 : (off + N + M) * P.cellsOf rty = off * P.cellsOf rty + N * P.cellsOf rty + M * P.cellsOf rty := by rw [Nat.add_mul, Nat.add_mul]
        have hrun := run_appendRoom (P := P) w t ty rty ts inf ht0 h1 hu hinf vb b (bs + off * P.cellsOf rty) N ca M cb' ln cur rty hfn c1 (by omega) (by rw [← hci, hlnl]; omega) fn.one
        refine ⟨_, _, hrun, ?_⟩
        have hp : bs + off * P.cellsOf rty + N * inf.size = bs + (off + N) * P.cellsOf rty := by rw [← hci, Nat.add_mul]; omega
        rw [hp]
        generalize hq : bs + (off + N) * P.cellsOf rty = q
        have hqn : q + ln.length ≤ cur.size := by rw [← hq, hlnl, Nat.add_mul]; omega
        have hget := splice_get cur ln q hqn
        have hw := hs.write (es' := res.take (off + N) ++ news ++ res.drop (off + N + M)) (cur' := (cur.toList.take q ++ ln ++ cur.toList.drop (q + ln.length)).toArray) hrow rfl hμ c1 rfl (splice_size cur ln q hqn)
          (by
            intro o ho
            rw [hget, if_pos]
            have := Nat.mul_le_mul_right (P.cellsOf rty) hB3
            simp only at ho; omega)
          (by
            have : (res.take (off + N) ++ news ++ res.drop (off + N + M)).length = res.length := by simp; omega
            rw [this]; exact c4)
          (by
            simp only
            rw [← hM]
            refine laid_splice c5 fn (by omega) (by omega) hq ?_ ?_ ?_
            · intro x hx; rw [hget, if_pos hx]
            · intro k u hk; rw [hget, if_neg (by omega), if_pos (by have := (List.getElem?_eq_some_iff.1 hk).1; omega), show q + k - q = k by omega]; exact hk
            · intro x hx; rw [hM] at hx; rw [hget, if_neg (by omega), if_neg (by rw [hlnl]; omega)])
        refine ⟨μ, hw.1, hw.2, List.prefix_refl _, ?_⟩
        refine .own _ _ _ _ _ _ b bs ca rty n hμ ?_ hfit (by omega) hcb hmax hex _ (fun _ => rfl)
        have := hw.2.shape b rty n hsh
        exact this
      · split at h
        · rename_i hC
          obtain ⟨hC1, hC2⟩ := hC
          cases h
          have hdrop : res.drop off = olds := by
            rw [← ho', List.take_of_length_le (by simp; omega)]
          by_cases hroom : N + M ≤ ca
          · obtain rfl := hat (by omega)
            have hrun := run_appendRoom (P := P) w t ty rty ts inf ht0 h1 hu hinf vb b (bs + off * P.cellsOf rty) N ca M cb' ln cur rty hfn c1 hroom (by
              have := Nat.mul_le_mul_right (P.cellsOf rty) (show off + (N + M) ≤ off + ca by omega)
              have e2 : (off + (N + M)) * P.cellsOf rty = off * P.cellsOf rty + N * P.cellsOf rty + M * P.cellsOf rty := by rw [Nat.add_mul, Nat.add_mul]; omega
              rw [← hci, hlnl, hcs]; omega) fn.one
            refine ⟨_, _, hrun, ?_⟩
            have hp : bs + off * P.cellsOf rty + N * inf.size = bs + (off + N) * P.cellsOf rty := by rw [← hci, Nat.add_mul]; omega
            rw [hp]
            generalize hq : bs + (off + N) * P.cellsOf rty = q
            have hqn : q + ln.length ≤ cur.size := by
              have := Nat.mul_le_mul_right (P.cellsOf rty) (show off + (N + M) ≤ off + ca by omega)
              have e2 : (off + (N + M)) * P.cellsOf rty = (off + N) * P.cellsOf rty + M * P.cellsOf rty := by rw [← Nat.add_mul]; congr 1; omega
              rw [← hq, hlnl, hcs]; omega
            have hget := splice_get cur ln q hqn
            have hw := hs.write (es' := res.take (off + N) ++ news ++ res.drop (off + N + M)) (cur' := (cur.toList.take q ++ ln ++ cur.toList.drop (q + ln.length)).toArray) hrow rfl hμ c1 rfl (splice_size cur ln q hqn)
              (by
                intro o ho
                rw [hget, if_pos]
                have := Nat.mul_le_mul_right (P.cellsOf rty) hC2
                simp only at ho; omega)
              (by
                have : (res.take (off + N) ++ news ++ res.drop (off + N + M)).length = off + N + M := by simp; omega
                have e3 : (off + N + M) * P.cellsOf rty = (off + N) * P.cellsOf rty + M * P.cellsOf rty := by rw [Nat.add_mul]
                rw [this]; simp only; omega)
              (by
                simp only
                rw [← hM]
                refine laid_splice c5 fn (by omega) (by omega) hq ?_ ?_ ?_
                · intro x hx; rw [hget, if_pos hx]
                · intro k u hk; rw [hget, if_neg (by omega), if_pos (by have := (List.getElem?_eq_some_iff.1 hk).1; omega), show q + k - q = k by omega]; exact hk
                · intro x hx; rw [hM] at hx; rw [hget, if_neg (by omega), if_neg (by rw [hlnl]; omega)])
            obtain ⟨hs1, hA1⟩ := hw
            have hes : res.take (off + N) ++ news ++ res.drop (off + N + M) = res ++ news := by
              rw [List.take_of_length_le (by omega), List.drop_of_length_le (by omega), List.append_nil]
            rw [hes] at hs1 hA1
            obtain ⟨hs2, hA2⟩ := hs1.rebase (d := dead0) (off := off) (f' := rf - off) (r := { (⟨rty, P.cellsOf rty, res, rf, true⟩ : Row) with es := res ++ news }) rfl (by rw [List.getElem?_set_self hid]) rfl hμ (by simp; omega) (by simp; omega) (hA1.shape b rty n hsh)
            simp only [List.set_set] at hs2 hA2
            rw [List.drop_append_of_le_length (by omega), hdrop] at hs2 hA2
            refine ⟨_, hs2, hA1.trans hA2, List.prefix_append _ _, ?_⟩
            have hsh2 := (hA1.trans hA2).shape b rty n hsh
            have := Rep.own (P := P) (w := (w.setRow b (cur.toList.take q ++ ln ++ cur.toList.drop (q + ln.length)).toArray)) (F := Ft F0 (μ ++ [(b, bs + off * P.cellsOf rty)]) (H.set id dead0 ++ [⟨rty, P.cellsOf rty, olds ++ news, rf - off, true⟩])) (μ ++ [(b, bs + off * P.cellsOf rty)]) H.length 0 (N + M) (N + M) false b (bs + off * P.cellsOf rty) ca rty n
              (by rw [List.getElem?_append_right (by rw [hs.len]; exact Nat.le_refl _), hs.len]; simp) hsh2 (by rw [Nat.zero_add]; have e9 := Nat.add_mul off ca (P.cellsOf rty); omega) (Nat.le_refl _) hroom hmax (by simp) (bs + off * P.cellsOf rty) (fun _ => by simp)
            simpa using this
          · subst hN; subst hM
            obtain ⟨v', w', hrun, μ', hs1, hA1, hp1, hr1⟩ := s_grow (ty := ty) (ca := ca) (cx := cb') hs ht0 h1 hu hinf hz hzs hnz fo no co fn nn cn hlen hby (by omega) (rf - off)
            refine ⟨v', w', hrun, ?_⟩
            obtain ⟨hs2, hA2⟩ := hs1.kill (id := id) (d := dead0) rfl
            rw [List.set_append_left _ _ hid] at hs2 hA2
            exact ⟨μ', hs2, hA1.trans hA2, hp1, hr1.adv (hA2.join F0) (List.prefix_refl _)⟩
        · cases h
  · cases h
end Go.AL
/- An abstract layer over the walk, 8: boxes, literals of slices, make, stores, clear. No program in sight. -/
namespace Go.AL

def abox (P : Program) (H : List Row) (t : TypeId) (x : A) : Option (A × List Row) :=
  if P.cellsOf t ≠ 0 ∧ shp P t x then some (.pto H.length (P.cellsOf t) 0 0, H ++ [⟨t, P.cellsOf t, [x], 0, true⟩]) else none

theorem s_newVar {P : Program} {w : World} {F0 : Fz} {μ : Mu} {H H' : List Row} {t : TypeId} {x r : A} {v : Value} (hs : HS P w F0 μ H) (hx : Rep P w (Ft F0 μ H) μ x v) (h : abox P H t x = some (r, H')) :
    ∃ v' w', (do pure (.pointer (some (← newVar t v))) : Sem Value).run P w = .ok v' w' ∧ Res P w F0 μ H v' w' r H' ∧ Adv w NoF w' NoF := by
  unfold abox at h
  split at h
  · rename_i hc; cases h
    have hsz := (shp_cells hc.2 hx hc.1).1
    obtain ⟨h1, h2⟩ := hs.newRow (cells := v.cells) (es := [x]) (f := 0) (pushed_alloc w (.cells v.cells t)) rfl hc.1 (by simp [hsz]) (by
      intro k e he
      cases k with
      | zero => simp at he; subst he; exact ⟨hc.2, v, hx, fun j u hu => by simpa using hu⟩
      | succ k => simp at he)
    refine ⟨.pointer (some ⟨w.heap.size, 0, none⟩), w.alloc (.cells v.cells t), by simp [newVar, newRow], ⟨_, h1, h2, List.prefix_append _ _, ?_⟩, (pushed_alloc w _).adv NoF fun _ _ _ h => h⟩
    have := Rep.pto (P := P) (w := w.alloc (.cells v.cells t)) (F := Ft F0 (μ ++ [(w.heap.size, 0)]) (H ++ [⟨t, P.cellsOf t, [x], 0, true⟩])) (μ ++ [(w.heap.size, 0)]) H.length (P.cellsOf t) 0 0 w.heap.size 0 (by
      rw [List.getElem?_append_right (by rw [hs.len]; exact Nat.le_refl _), hs.len]; simp)
    simpa using this
  · cases h

def aalloc (P : Program) (H : List Row) (t : TypeId) : Option (A × List Row) :=
  (zbox P t).bind fun z => abox P H t z.1

theorem s_aalloc {P : Program} {w : World} {F0 : Fz} {μ : Mu} {H H' : List Row} {t : TypeId} {r : A} (hs : HS P w F0 μ H) (h : aalloc P H t = some (r, H')) :
    ∃ v' w', (Instr.alloc t true (.tuple #[])).run P w = .ok v' w' ∧ Res P w F0 μ H v' w' r H' ∧ Adv w NoF w' NoF := by
  obtain ⟨⟨z0, n⟩, hzb, h⟩ := Option.bind_eq_some_iff.1 h
  obtain ⟨inf, z, hi, hz, _, rfl, _⟩ := zbox_some hzb
  obtain ⟨v', w', h1, h2⟩ := s_newVar hs (rep_ofV z) h
  refine ⟨v', w', ?_, h2⟩
  simpa [Instr.alloc, zeroValue, typeInfo, hi, hz] using h1

/-! Cells of so many zero values. -/
theorem zeros_get (z : Array Value) (n k j : Nat) (u : Value) (hk : k < n) (hu : z[j]? = some u) : ((Array.range (n * z.size)).map (fun i => z[i % z.size]!))[k * z.size + j]? = some u := by
  have hj := (Array.getElem?_eq_some_iff.1 hu).1
  have hlt : k * z.size + j < n * z.size := by
    have := Nat.mul_le_mul_right z.size (show k + 1 ≤ n by omega)
    rw [Nat.add_mul] at this; omega
  have hm : (k * z.size + j) % z.size = j := by rw [Nat.mul_add_mod']; exact Nat.mod_eq_of_lt hj
  rw [Array.getElem?_map, Array.getElem?_range, if_pos hlt]
  simp only [Option.map_some, hm]
  rw [getElem!_def, hu]

def amake (P : Program) (H : List Row) (t : TypeId) (l c : A) : Option (A × List Row) :=
  match P.underlying t, l, c with
  | some (.slice e), .int .i64 l, .int .i64 c =>
    match zbox P e with
    | some (z, bytes) => if P.cellsOf e ≠ 0 ∧ shp P e z ∧ 0 ≤ l ∧ l ≤ c ∧ c ≤ 9223372036854775807 ∧ bytes * c ≤ 281474976710656 then
          some (.own H.length 0 l.toNat c.toNat true, H ++ [⟨e, P.cellsOf e, List.replicate c.toNat z, 0, true⟩]) else none
    | none => none
  | _, _, _ => none

theorem run_askRoom {P : Program} (w : World) (n : Nat) : (askRoom n).run P w = .ok () w := by
  unfold askRoom
  split
  · rfl
  · rfl

theorem s_amake {P : Program} {w : World} {F0 : Fz} {μ : Mu} {H H' : List Row} {t : TypeId} {l c r : A} {vl vc : Value} (hs : HS P w F0 μ H) (hl : Rep P w (Ft F0 μ H) μ l vl) (hc : Rep P w (Ft F0 μ H) μ c vc) (h : amake P H t l c = some (r, H')) :
    ∃ v' w', (Instr.makeSlice t vl vc).run P w = .ok v' w' ∧ Res P w F0 μ H v' w' r H' ∧ Adv w NoF w' NoF := by
  unfold amake at h
  split at h
  case h_2 => cases h
  rename_i e l c hu
  cases hl; cases hc
  split at h
  case h_2 => cases h
  rename_i z0 bytes hzb
  obtain ⟨inf, z, hi, hz, hzs, rfl, rfl⟩ := zbox_some hzb
  split at h
  case isFalse => cases h
  rename_i hcond
  obtain ⟨hnz, hsh, h0, hlc, hc63, hby⟩ := hcond
  cases h
  obtain ⟨L, rfl⟩ := Int.eq_ofNat_of_zero_le h0
  obtain ⟨C, rfl⟩ := Int.eq_ofNat_of_zero_le (show 0 ≤ c by omega)
  have hci := cellsOf_info hi
  have w1 : IntKind.i64.wrap (L : Int) = L := IntWalk.i64_in _ (by omega)
  have w2 : IntKind.i64.wrap (C : Int) = C := IntWalk.i64_in _ (by omega)
  have hrun : (Instr.makeSlice t (.int .i64 L) (.int .i64 C)).run P w = .ok (.slice (some ⟨w.heap.size, 0, none⟩) L C) (w.alloc (.cells ((Array.range (C * inf.size)).map (fun i => z.cells[i % z.cells.size]!)) e)) := by
    have hn1 : ¬ ((C : Int) < 0) := by omega
    have hn2 : ¬ (281474976710656 < (inf.bytes : Int) * C) := by omega
    have hn3 : ¬ ((L : Int) < 0) := by omega
    have hn4 : ¬ ((C : Int) < L) := by omega
    have hn4' : ¬ (C < L) := by omega
    by_cases hC : C = 0
    · subst hC
      have hL : L = 0 := by omega
      subst hL
      have w0 : IntKind.i64.wrap 0 = 0 := IntWalk.i64_in _ (by omega)
      simp [Instr.makeSlice, run_underlying hu, asInt, asIntOf, typeInfo, hi, w0, sizeOf, newRow]
      have hr0 : Array.range 0 = #[] := rfl
      rw [hr0]; simp only [Array.map_empty]
    · have hne : ¬ (C * inf.size = 0) := by
        intro h; rcases Nat.mul_eq_zero.1 h with h | h
        · exact hC h
        · rw [hci] at hnz; exact hnz h
      simp [Instr.makeSlice, run_underlying hu, asInt, asIntOf, typeInfo, hi, w1, w2, hn1, hn2, hn3, hn4', sizeOf, newRow, zeroValue, hz]
      intro hh; exact (hne hh).elim
  refine ⟨_, _, hrun, ?_, (pushed_alloc w _).adv NoF fun _ _ _ h => h⟩
  simp only [Int.toNat_natCast]
  have hfit : (List.replicate C (ofV z)).length * P.cellsOf e ≤ ((Array.range (C * inf.size)).map (fun i => z.cells[i % z.cells.size]!)).size := by simp [hci]
  obtain ⟨h1, h2⟩ := hs.newRow (es := List.replicate C (ofV z)) (f := 0) (pushed_alloc w (.cells ((Array.range (C * inf.size)).map (fun i => z.cells[i % z.cells.size]!)) e)) rfl hnz hfit (by
    intro k x hx
    have hk : k < C := by have := (List.getElem?_eq_some_iff.1 hx).1; simpa using this
    simp [hk] at hx
    subst hx
    refine ⟨hsh, z, rep_ofV z, fun j u hu' => ?_⟩
    have := zeros_get z.cells C k j u hk hu'
    rw [Nat.zero_add, hci, ← hzs]
    exact this)
  refine ⟨_, h1, h2, List.prefix_append _ _, ?_⟩
  have := Rep.own (P := P) (w := w.alloc (.cells ((Array.range (C * inf.size)).map (fun i => z.cells[i % z.cells.size]!)) e)) (F := Ft F0 (μ ++ [(w.heap.size, 0)]) (H ++ [⟨e, P.cellsOf e, List.replicate C (ofV z), 0, true⟩])) (μ ++ [(w.heap.size, 0)]) H.length 0 L C true w.heap.size 0 C e (C * inf.size) (by
      rw [List.getElem?_append_right (by rw [hs.len]; exact Nat.le_refl _), hs.len]; simp) (by
      simp only [World.shape?, (pushed_alloc w _).new]; simp) (by simp [hci]) (by omega) (Nat.le_refl _) (by rw [maxLen_eq]; omega) (by simp)
  simpa using this 0 (fun _ => by simp)

/-! A literal of a slice: every place is given, in order. -/
def apartsIn (P : Program) (e : TypeId) : Nat → List (Nat × A) → Bool
  | _, [] => true
  | k, (i, x) :: rest => i == k && shp P e x && apartsIn P e (k + 1) rest

def abuildSlice (P : Program) (H : List Row) (t : TypeId) (n : Nat) (parts : List (Nat × A)) : Option (A × List Row) :=
  match P.underlying t with
  | some (.slice e) =>
    match zbox P e with
    | some _ => if P.cellsOf e ≠ 0 ∧ n * P.cellsOf e ≤ 16777216 ∧ parts.length = n ∧ apartsIn P e 0 parts then
        some (.own H.length 0 n n true, H ++ [⟨e, P.cellsOf e, parts.map (·.2), 0, true⟩]) else none
    | none => none
  | _ => none

theorem s_fillAll {P : Program} {w : World} {F : Fz} {μ : Mu} {e : TypeId} (hnz : P.cellsOf e ≠ 0) : ∀ (parts : List (Nat × A)) (vparts : List (Nat × Value)) (k : Nat) (done : List A) (cs : Array Value),
    RepPs P w F μ parts vparts → apartsIn P e k parts = true → cs.size = (k + parts.length) * P.cellsOf e → Flat P w F μ e (P.cellsOf e) done (cs.toList.take (k * P.cellsOf e)) → done.length = k →
    ∃ vs', Instr.fill (fun i => some (i * P.cellsOf e, P.cellsOf e)) cs vparts = some vs' ∧ Flat P w F μ e (P.cellsOf e) (done ++ parts.map (·.2)) vs'.toList
  | [], [], k, done, cs, _, _, hsz, hfl, _ => by
    refine ⟨cs, rfl, ?_⟩
    rw [List.take_of_length_le (by simp at hsz ⊢; omega)] at hfl
    simpa using hfl
  | (i, x) :: rest, (i', v) :: vrest, k, done, cs, hp, hin, hsz, hfl, hd => by
    obtain ⟨rfl, hx, hrest⟩ := hp
    simp only [apartsIn, Bool.and_eq_true, beq_iff_eq] at hin
    obtain ⟨⟨rfl, hsh⟩, hin⟩ := hin
    simp only at hx hrest
    obtain ⟨hvs, hone⟩ := shp_cells hsh hx hnz
    have e1 : (i + (rest.length + 1)) * P.cellsOf e = i * P.cellsOf e + P.cellsOf e + rest.length * P.cellsOf e := by rw [Nat.add_mul, Nat.add_mul]; omega
    simp only [List.length_cons] at hsz
    simp only [Instr.fill]
    rw [if_neg (by simp; omega)]
    have hz : (v.cells.zipIdx.foldl (fun cs (c, j) => cs.setIfInBounds (i * P.cellsOf e + j) c) cs).toList = cs.toList.take (i * P.cellsOf e) ++ v.cells.toList ++ cs.toList.drop (i * P.cellsOf e + P.cellsOf e) := by
      have := foldl_cells v.cells.toList 0 (i * P.cellsOf e) cs (by simp; omega)
      rw [← Array.foldl_toList, Array.toList_zipIdx, this]
      simp [hvs]
    have hsz2 : (v.cells.zipIdx.foldl (fun cs (c, j) => cs.setIfInBounds (i * P.cellsOf e + j) c) cs).size = cs.size := by
      rw [← Array.length_toList, hz]; simp; omega
    obtain ⟨vs', h1, h2⟩ := s_fillAll hnz rest vrest (i + 1) (done ++ [x]) (v.cells.zipIdx.foldl (fun cs (c, j) => cs.setIfInBounds (i * P.cellsOf e + j) c) cs) hrest hin (by rw [hsz2, hsz]; congr 1; omega) (by
      rw [hz, Nat.add_mul, Nat.one_mul]
      have hl : (cs.toList.take (i * P.cellsOf e) ++ v.cells.toList).length = i * P.cellsOf e + P.cellsOf e := by simp; omega
      rw [List.take_append_of_le_length (by omega), List.take_of_length_le (by omega)]
      exact hfl.app ⟨v, [], by simp, hsh, hx, hvs, hone, rfl⟩) (by simp [hd])
    exact ⟨vs', h1, by simpa using h2⟩
  | [], _ :: _, _, _, _, hp, _, _, _, _ => hp.elim
  | _ :: _, [], _, _, _, hp, _, _, _, _ => hp.elim

theorem s_abuildSlice {P : Program} {w : World} {F0 : Fz} {μ : Mu} {H H' : List Row} {t : TypeId} {n : Nat} {parts : List (Nat × A)} {vparts : Array (Nat × Value)} {r : A} (hs : HS P w F0 μ H) (hp : RepPs P w (Ft F0 μ H) μ parts vparts.toList) (h : abuildSlice P H t n parts = some (r, H')) :
    ∃ v' w', (Instr.buildSlice t n vparts).run P w = .ok v' w' ∧ Res P w F0 μ H v' w' r H' ∧ Adv w NoF w' NoF := by
  unfold abuildSlice at h
  split at h
  case h_2 => cases h
  rename_i e hu
  split at h
  case h_2 => cases h
  rename_i zb hzb
  obtain ⟨z0, bytes⟩ := zb
  obtain ⟨inf, z, hi, hz, hzs, _, _⟩ := zbox_some hzb
  split at h
  case isFalse => cases h
  rename_i hc
  obtain ⟨hnz, hsm, hlen, hin⟩ := hc
  cases h
  have hci := cellsOf_info hi
  have key : ∀ zs : Array Value, ∃ vs', Instr.fill (fun i => some (i * P.cellsOf e, P.cellsOf e)) ((Array.range (n * P.cellsOf e)).map (fun i => zs[i % zs.size]!)) vparts.toList = some vs' ∧ Flat P w (Ft F0 μ H) μ e (P.cellsOf e) (parts.map (·.2)) vs'.toList := by
    intro zs
    have := s_fillAll (P := P) (w := w) (F := Ft F0 μ H) (μ := μ) hnz parts vparts.toList 0 [] ((Array.range (n * P.cellsOf e)).map (fun i => zs[i % zs.size]!)) hp hin (by simp [hlen]) (by simp [Flat]) rfl
    simpa using this
  have hrun : ∃ vs', Flat P w (Ft F0 μ H) μ e (P.cellsOf e) (parts.map (·.2)) vs'.toList ∧ (Instr.buildSlice t n vparts).run P w = .ok (.slice (some ⟨w.heap.size, 0, none⟩) n n) (w.alloc (.cells vs' e)) := by
    have hsm' : ¬ (16777216 < n * inf.size) := by rw [← hci]; omega
    by_cases hn : n * inf.size = 0
    · obtain ⟨vs', k1, k2⟩ := key #[]
      refine ⟨vs', k2, ?_⟩
      rw [hci] at k1
      simp only [hn] at k1
      simp [Instr.buildSlice, run_underlying hu, sizeOf, typeInfo, hi, hn, newRow]
      simp at k1
      rw [k1]; rfl
    · obtain ⟨vs', k1, k2⟩ := key z.cells
      refine ⟨vs', k2, ?_⟩
      rw [hci] at k1
      simp [Instr.buildSlice, run_underlying hu, sizeOf, typeInfo, hi, newRow, hsm', zeroValue, hz, hn]
      rw [k1]; rfl
  obtain ⟨vs', hfl, hrun⟩ := hrun
  refine ⟨_, _, hrun, ?_, (pushed_alloc w _).adv NoF fun _ _ _ h => h⟩
  have hlm : (parts.map (·.2)).length = n := by simp [hlen]
  have hfll := hfl.len
  have := newOwn hs (e := e) (cap := n) (es := parts.map (·.2)) (vals := vs'.toList) (pad := #[]) hnz hfl (by
      rw [maxLen_eq]
      have : n ≤ n * P.cellsOf e := Nat.le_mul_of_pos_right n (by omega)
      omega) (by rw [hfll, hlm]; simp) n true 0 (by omega) (Nat.le_refl _) (by simp) (w.alloc (.cells vs' e)) (by simpa using pushed_alloc w (.cells vs' e))
  obtain ⟨k1, k2, k3⟩ := this
  refine ⟨_, k1, k2, List.prefix_append _ _, ?_⟩
  rw [hlm] at k3
  exact k3
end Go.AL
/- An abstract layer over the walk, 9: stores, clear. No program in sight. -/
namespace Go.AL

def astore (P : Program) (H : List Row) (t : TypeId) (p x : A) : Option (List Row) :=
  match p with
  | .pto id sz j co => (H[id]?).bind fun r =>
    if r.live = true ∧ r.sz = sz ∧ r.f ≤ j ∧ x.ncells = P.cellsOf t ∧ P.cellsOf t ≠ 0 then
      (r.es[j]?).bind fun e =>
        if co = 0 ∧ shp P r.ty x then some (H.set id { r with es := r.es.set j x })
        else match e with
          | .agg cs => if co + P.cellsOf t ≤ cs.length then some (H.set id { r with es := r.es.set j (.agg (cs.take co ++ x.cells ++ cs.drop (co + P.cellsOf t))) }) else none
          | _ => none
    else none
  | _ => none

theorem run_storeAt {P : Program} {w : World} {t : TypeId} {inf : TypeInfo} (hi : P.info? t = some inf) {v : Value} (hv : v.cells.size = inf.size) {b o : Nat} {cur : Array Value} {cty : TypeId} (hc : w.heap[b]? = some (.cells cur cty (0, 0)))
    (hfit : o + v.cells.size ≤ cur.size) (hone : ∀ u ∈ v.cells.toList, u.oneCell' = true) :
    (Instr.storeAt t (.pointer (some ⟨b, o, none⟩)) v).run P w = .ok () (w.setRow b (cur.toList.take o ++ v.cells.toList ++ cur.toList.drop (o + v.cells.toList.length)).toArray) := by
  have hst := run_storeCells_at P b o cty v.cells.toList 0 cur w hc (by simp; omega) hone
  simp only [Nat.add_zero] at hst
  simp only [Instr.storeAt, Instr.sureAddr, Sem.run_bind, Sem.run_pure, Result.andThen, storeVar, run_sizeOf hi]
  rw [if_neg (by simp [hv])]
  exact hst

/-- One element of a row is written anew. -/
theorem laid_set {P : Program} {w : World} {F : Fz} {μ : Mu} {ty bs j : Nat} {es : List A} {cur cur' : Array Value} {e' : A} {V' : Value} (h : Laid P w F μ ty (P.cellsOf ty) es cur bs) (hz : P.cellsOf ty ≠ 0) (hs : shp P ty e' = true) (hr : Rep P w F μ e' V')
    (g1 : ∀ x, x < bs + j * P.cellsOf ty → cur'[x]? = cur[x]?) (g2 : ∀ (k : Nat) (u : Value), V'.cells[k]? = some u → cur'[bs + j * P.cellsOf ty + k]? = some u) (g3 : ∀ x, bs + (j + 1) * P.cellsOf ty ≤ x → cur'[x]? = cur[x]?) :
    Laid P w F μ ty (P.cellsOf ty) (es.set j e') cur' bs := by
  intro k e he
  rw [List.getElem?_set] at he
  split at he
  · rename_i hk; subst hk
    split at he
    · cases he; exact ⟨hs, V', hr, g2⟩
    · cases he
  · rename_i hk
    obtain ⟨k1, V, k2, k3⟩ := h k e he
    refine ⟨k1, V, k2, fun i u hu => ?_⟩
    have hi : i < P.cellsOf ty := by have := (Array.getElem?_eq_some_iff.1 hu).1; rw [(shp_cells k1 k2 hz).1] at this; exact this
    rcases Nat.lt_or_gt_of_ne hk with hlt | hgt
    · rw [g3 _ ?_]
      · exact k3 i u hu
      · have := Nat.mul_le_mul_right (P.cellsOf ty) (show j + 1 ≤ k by omega)
        omega
    · rw [g1 _ ?_]
      · exact k3 i u hu
      · have := Nat.mul_le_mul_right (P.cellsOf ty) (show k + 1 ≤ j by omega)
        rw [Nat.add_mul] at this
        omega

theorem agg_cells (cs : Array Value) : (Value.agg cs).cells = cs := rfl

theorem s_astore {P : Program} {w : World} {F0 : Fz} {μ : Mu} {H H' : List Row} {t : TypeId} {p x : A} {vp vx : Value} (hs : HS P w F0 μ H) (hp : Rep P w (Ft F0 μ H) μ p vp) (hx : Rep P w (Ft F0 μ H) μ x vx) (h : astore P H t p x = some H') :
    ∃ w', (Instr.storeAt t vp vx).run P w = .ok () w' ∧ HS P w' F0 μ H' ∧ Adv w (Fof μ H) w' (Fof μ H') := by
  unfold astore at h
  split at h
  case h_2 => cases h
  rename_i id sz j co
  obtain ⟨r, hrow, hB⟩ := Option.bind_eq_some_iff.1 h
  clear h
  split at hB
  case isFalse => cases hB
  rename_i hc
  obtain ⟨hl, hrs, hf, hnc, hnz⟩ := hc
  obtain ⟨e, he, hC⟩ := Option.bind_eq_some_iff.1 hB
  clear hB
  obtain ⟨inf, hi, hci⟩ := info_of_cells hnz
  cases hp with | pto _ _ _ _ _ b bs hμ =>
  have hco : CellsOK P w (Ft F0 μ H) μ r b bs := by
    rcases hs.row _ _ _ _ hrow hl hμ with h1 | ⟨hz0, _, _, ms, _, _, hm1, hm2⟩
    · exact h1
    · obtain ⟨m, hm⟩ : ∃ m, ms.toList[j]? = some m := ⟨_, List.getElem?_eq_getElem (by rw [hm1]; exact (List.getElem?_eq_some_iff.1 he).1)⟩
      obtain ⟨ka, va, rfl, _⟩ := hm2 j e m he hm
      split at hC
      · rename_i hsx
        have := hsx.2
        cases x <;> simp_all [shp, A.ncells]
      · cases hC
  obtain ⟨cur, c1, c2, c3, c4, c5⟩ := hco
  obtain ⟨rty, rsz, res, rf, rl⟩ := r
  simp only at hl hrs hf he hC c1 c2 c3 c4 c5
  subst hl hrs
  obtain rfl := c2
  have hpc := PR.cells hx (by omega)
  have hvs : vx.cells.size = P.cellsOf t := by
    have := hpc.1
    rw [A.ncells_eq (by omega), hnc] at this
    simpa using this
  have hjl := (List.getElem?_eq_some_iff.1 he).1
  obtain ⟨k1, V, k2, k3⟩ := c5 j e he
  obtain ⟨hV1, hV2⟩ := shp_cells k1 k2 c3
  have hmul := Nat.mul_le_mul_right (P.cellsOf rty) (show j + 1 ≤ res.length by omega)
  have e1 : (j + 1) * P.cellsOf rty = j * P.cellsOf rty + P.cellsOf rty := by rw [Nat.add_mul, Nat.one_mul]
  have fin : ∀ (e' : A) (V' : Value), shp P rty e' = true → Rep P w (Ft F0 μ H) μ e' V' → co + P.cellsOf t ≤ P.cellsOf rty →
      (∀ (k : Nat) (u : Value), V'.cells[k]? = some u → (if k < co then V.cells[k]? else if k < co + P.cellsOf t then vx.cells[k - co]? else V.cells[k]?) = some u) →
      ∃ w', (Instr.storeAt t (.pointer (some ⟨b, bs + j * P.cellsOf rty + co, none⟩)) vx).run P w = .ok () w' ∧ HS P w' F0 μ (H.set id ⟨rty, P.cellsOf rty, res.set j e', rf, true⟩) ∧ Adv w (Fof μ H) w' (Fof μ (H.set id ⟨rty, P.cellsOf rty, res.set j e', rf, true⟩)) := by
    intro e' V' hse hre hco hcells
    have hll : vx.cells.toList.length = P.cellsOf t := by simpa using hvs
    have hrun := run_storeAt (P := P) hi (v := vx) (by rw [hvs, hci]) (b := b) (o := bs + j * P.cellsOf rty + co) c1 (by omega) hpc.2.1
    refine ⟨_, hrun, ?_⟩
    have hqn : bs + j * P.cellsOf rty + co + vx.cells.toList.length ≤ cur.size := by omega
    have hget := splice_get cur vx.cells.toList (bs + j * P.cellsOf rty + co) hqn
    refine hs.write (es' := res.set j e') hrow rfl hμ c1 rfl (splice_size cur _ _ hqn) ?_ (by simpa using c4) ?_
    · intro o ho
      rw [hget, if_pos]
      have := Nat.mul_le_mul_right (P.cellsOf rty) hf
      simp only at ho; omega
    · show Laid P w (Ft F0 μ H) μ rty (P.cellsOf rty) (res.set j e') _ bs
      refine laid_set c5 c3 hse hre ?_ ?_ ?_
      · intro x hx; rw [hget, if_pos (by omega)]
      · intro k u hu
        have hk : k < P.cellsOf rty := by have := (Array.getElem?_eq_some_iff.1 hu).1; rw [(shp_cells hse hre c3).1] at this; exact this
        have hcu := hcells k u hu
        rw [hget]
        by_cases h1 : k < co
        · rw [if_pos (by omega)]
          rw [if_pos h1] at hcu
          exact k3 k u hcu
        · rw [if_neg (by omega)]
          rw [if_neg h1] at hcu
          by_cases h2 : k < co + P.cellsOf t
          · rw [if_pos h2] at hcu
            rw [if_pos (by omega), show bs + j * P.cellsOf rty + k - (bs + j * P.cellsOf rty + co) = k - co by omega]
            simpa using hcu
          · rw [if_neg h2] at hcu
            rw [if_neg (by omega)]
            exact k3 k u hcu
      · intro x hx; rw [hget, if_neg (by omega), if_neg (by omega)]
  split at hC
  · rename_i hco; cases hC
    obtain ⟨rfl, hsx⟩ := hco
    have hn2 := shp_ncells hsx c3
    refine fin x vx hsx hx (by omega) ?_
    intro k u hu
    have hk := (Array.getElem?_eq_some_iff.1 hu).1
    rw [if_neg (by omega), if_pos (by omega)]
    simpa using hu
  · split at hC
    · rename_i cs
      split at hC
      · rename_i hcl; cases hC
        have hsh := k1
        simp only [shp, Bool.and_eq_true, beq_iff_eq] at hsh
        cases k2 with | agg _ _ vs hl1 h1 hh =>
        have hPR : PR P w (Ft F0 μ H) μ cs vs := ⟨hl1, h1, hh⟩
        have hPR2 := ((hPR.take co).app hpc).app (hPR.drop (co + P.cellsOf t))
        have hxl : x.cells.length = P.cellsOf t := by rw [A.ncells_eq (by omega), hnc]
        have hll : vx.cells.toList.length = P.cellsOf t := by simpa using hvs
        refine fin _ _ ?_ hPR2.agg (by omega) ?_
        · simp only [shp, Bool.and_eq_true, beq_iff_eq]
          refine ⟨hsh.1, ?_⟩
          simp; omega
        · intro k u hu
          simp only [agg_cells, List.getElem?_toArray] at hu ⊢
          have hvl : (vs.take co).length = co := by simp; omega
          by_cases h2 : k < co
          · rw [if_pos h2]
            rw [List.append_assoc, List.getElem?_append_left (by omega), List.getElem?_take, if_pos h2] at hu
            exact hu
          · rw [if_neg h2]
            by_cases h3 : k < co + P.cellsOf t
            · rw [if_pos h3]
              rw [List.getElem?_append_left (by simp; omega), List.getElem?_append_right (by omega), hvl] at hu
              simpa using hu
            · rw [if_neg h3]
              rw [List.getElem?_append_right (by simp; omega)] at hu
              simp only [List.length_append, hvl, hll, List.getElem?_drop] at hu
              rw [show co + P.cellsOf t + (k - (co + P.cellsOf t)) = k by omega] at hu
              exact hu
      · cases hC
    · cases hC

def aclear (P : Program) (H : List Row) (t : TypeId) (x : A) : Option (List Row) :=
  match P.underlying t with
  | some (.slice e) =>
    match zbox P e with
    | some (z, _) =>
        match x with
        | .sl _ [] => some H
        | .own id off len _ _ => if len = 0 then some H else (H[id]?).bind fun r =>
          if P.cellsOf e ≠ 0 ∧ shp P e z ∧ r.live = true ∧ r.ty = e ∧ r.f ≤ off ∧ off + len ≤ r.es.length then
            some (H.set id { r with es := r.es.take off ++ List.replicate len z ++ r.es.drop (off + len) }) else none
        | _ => none
    | none => none
  | _ => none

theorem s_aclear {P : Program} {w : World} {F0 : Fz} {μ : Mu} {H H' : List Row} {t ty : TypeId} {ts : Array TypeId} {x : A} {vx : Value} (hs : HS P w F0 μ H) (h0 : ts[0]? = some t) (hx : Rep P w (Ft F0 μ H) μ x vx) (h : aclear P H t x = some H') :
    ∃ w', (Builtin.clear_ ts ty #[vx]).run P w = .ok (.tuple #[]) w' ∧ HS P w' F0 μ H' ∧ Adv w (Fof μ H) w' (Fof μ H') := by
  unfold aclear at h
  split at h
  case h_2 => cases h
  rename_i e hu
  split at h
  case h_2 => cases h
  rename_i z0 bytes hzb
  obtain ⟨inf, z, hi, hz, hzs, rfl, _⟩ := zbox_some hzb
  split at h
  case h_3 => cases h
  · cases h
    refine ⟨w, ?_, hs, Adv.refl _ _⟩
    cases hx with
    | slnil _ _ a => cases a <;> simp [Builtin.clear_, h0, run_underlying hu]
    | sl _ _ _ b off n cap sz V hn hcap hmax hfull hsz hrep hcell =>
      simp at hn; subst hn
      simp [Builtin.clear_, h0, run_underlying hu]
  · rename_i id off len cb ex
    by_cases hl0 : len = 0
    · subst hl0
      simp at h; subst h
      refine ⟨w, ?_, hs, Adv.refl _ _⟩
      cases hx with
      | own => simp [Builtin.clear_, h0, run_underlying hu]
      | ownn _ _ _ a => cases a <;> simp [Builtin.clear_, h0, run_underlying hu]
    rw [if_neg hl0] at h
    obtain ⟨r, hrow, hB⟩ := Option.bind_eq_some_iff.1 h
    clear h
    split at hB
    case isFalse => cases hB
    rename_i hc
    obtain ⟨hnz, hsh, hl, hty, hf, hle⟩ := hc
    have hci := cellsOf_info hi
    cases hx with | ownn _ _ _ a => exact (hl0 rfl).elim | own _ id off len cb ex b bs cap tyr n hμ hshp hfit hlen hcb hmax hex ao hat =>
    obtain ⟨cur, c1, c2, c3, c4, c5⟩ := hs.cells hrow hl hμ hshp
    have htye : tyr = e := by
      simp only [World.shape?, c1] at hshp
      simp at hshp; rw [← hshp.1, hty]
    subst htye
    obtain ⟨rty, rsz, res, rf, rl⟩ := r
    simp only at hl hty hf hle hB c1 c2 c3 c4 c5
    subst hl hty
    obtain rfl := c2
    · cases hB
      obtain rfl := hat (by omega)
      obtain ⟨news, g1, g2⟩ := flat_of (P := P) (w := w) (F := Ft F0 μ H) (μ := μ) (ty := rty) rfl hnz (fun o => (Builtin.zeroCells z.cells len)[o]?) (List.replicate len (ofV z)) 0 (fun k x hx => by
        have hk : k < len := by have := (List.getElem?_eq_some_iff.1 hx).1; simpa using this
        simp [hk] at hx
        subst hx
        refine ⟨hsh, z, rep_ofV z, fun j u hu' => ?_⟩
        have := zeros_get z.cells len k j u hk hu'
        rw [Nat.zero_add, hci, ← hzs]
        exact this)
      have hnews : news = (Builtin.zeroCells z.cells len).toList := by
        apply List.ext_getElem?
        intro k
        have hl1 := g1.len
        have hl2 : (Builtin.zeroCells z.cells len).toList.length = news.length := by rw [Array.length_toList, size_zeroC, hl1, hci, hzs]; simp
        by_cases hk : k < news.length
        · have := g2 k news[k] (List.getElem?_eq_getElem hk)
          rw [List.getElem?_eq_getElem hk]
          rw [Nat.zero_add] at this
          rw [← this]; simp
        · rw [List.getElem?_eq_none (by omega), List.getElem?_eq_none (by omega)]
      have hnl : news.length = len * P.cellsOf rty := by rw [g1.len]; simp
      have hmul := Nat.mul_le_mul_right (P.cellsOf rty) hle
      rw [Nat.add_mul] at hmul
      have hqn : bs + off * P.cellsOf rty + news.length ≤ cur.size := by omega
      have hst := run_storeCells_at P b (bs + off * P.cellsOf rty) rty news 0 cur w c1 (by omega) g1.one
      simp only [Nat.add_zero] at hst
      have hget := splice_get cur news (bs + off * P.cellsOf rty) hqn
      refine ⟨w.setRow b (cur.toList.take (bs + off * P.cellsOf rty) ++ news ++ cur.toList.drop (bs + off * P.cellsOf rty + news.length)).toArray, ?_, ?_⟩
      · have : (Builtin.clear_ ts ty #[.slice (some ⟨b, bs + off * P.cellsOf rty, none⟩) len cap]).run P w = ((storeCells ⟨b, bs + off * P.cellsOf rty, none⟩ (Builtin.zeroCells z.cells len).toList).run P w).andThen fun _ w' => .ok (.tuple #[]) w' := by
          cases len with
          | zero => exact (hl0 rfl).elim
          | succ m => simp [Builtin.clear_, h0, run_underlying hu, zeroValue, typeInfo, hi, hz]
        rw [this, ← hnews, hst]; rfl
      · refine hs.write (es' := res.take off ++ List.replicate len (ofV z) ++ res.drop (off + len)) hrow rfl hμ c1 rfl (splice_size cur _ _ hqn) ?_ ?_ ?_
        · intro o ho
          rw [hget, if_pos]
          have := Nat.mul_le_mul_right (P.cellsOf rty) hf
          simp only at ho; omega
        · have : (res.take off ++ List.replicate len (ofV z) ++ res.drop (off + len)).length = res.length := by simp; omega
          rw [this]; exact c4
        · have := laid_splice (p := off) (q := bs + off * P.cellsOf rty) (cur' := (cur.toList.take (bs + off * P.cellsOf rty) ++ news ++ cur.toList.drop (bs + off * P.cellsOf rty + news.length)).toArray) c5 g1 hnz (by omega) rfl
            (by intro x hx; rw [hget, if_pos hx])
            (by intro k u hk; rw [hget, if_neg (by omega), if_pos (by have := (List.getElem?_eq_some_iff.1 hk).1; omega), show bs + off * P.cellsOf rty + k - (bs + off * P.cellsOf rty) = k by omega]; exact hk)
            (by intro x hx; rw [List.length_replicate] at hx; rw [hget, if_neg (by omega), if_neg (by omega)])
          simpa using this
end Go.AL
