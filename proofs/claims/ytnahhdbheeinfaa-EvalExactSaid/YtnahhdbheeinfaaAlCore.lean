/- An abstract layer over the walk: abstract values, what they stand for in memory, and how that stays. No program in sight. -/
import Derived.WalkKit
namespace Go.AL

/-- An abstract value. 'ub': a truth value, which one is not known. 'sl': a slice whose cells are never written any more (full: its capacity is its length; an empty one may be nil). 'own': a slice over a live block (cb: its capacity is at least that; ex: it is just that; without room it may be nil). 'ptr': a pointer to a place that is never written any more, with what lies there. 'pto': a pointer into a live block. 'agg': the cells of a struct or an array. 'mp': a map, a live row of its own. 'any': nothing is known. -/
inductive A where
  | int (k : IntKind) (n : Int)
  | bool (b : Bool)
  | ub
  | str (l : List UInt8)
  | sl (full : Bool) (es : List A)
  | own (id off len cb : Nat) (ex : Bool)
  | ptr (d : A)
  | pto (id sz i co : Nat)
  | nptr
  | agg (cs : List A)
  | tup (vs : List A)
  | fn (f : FuncId) (cs : List A)
  | nfn
  | mp (id : Nat)
  | any
  deriving Inhabited

def A.ncells : A → Nat
  | .agg cs => cs.length
  | .any => 0
  | .tup _ => 0
  | _ => 1

def A.cells : A → List A
  | .agg cs => cs
  | a => [a]

abbrev Fz := Nat → Nat → Prop
/-- Where each live row lies: its block, and the place of its first cell in it. -/
abbrev Mu := List (Nat × Nat)

inductive Rep (P : Program) (w : World) (F : Fz) : Mu → A → Value → Prop
  | int (μ : Mu) (k : IntKind) (n : Int) : Rep P w F μ (.int k n) (.int k n)
  | bool (μ : Mu) (b : Bool) : Rep P w F μ (.bool b) (.bool b)
  | ub (μ : Mu) (b : Bool) : Rep P w F μ .ub (.bool b)
  | str (μ : Mu) (l : List UInt8) : Rep P w F μ (.str l) (.string ⟨⟨l⟩⟩)
  | slnil (μ : Mu) (full : Bool) (a : Option Addr) : Rep P w F μ (.sl full []) (.slice a 0 0)
  | sl (μ : Mu) (full : Bool) (es : List A) (b off n cap sz : Nat) (V : Nat → Value) (hn : n = es.length)
      (hcap : n ≤ cap) (hmax : cap ≤ maxLen) (hfull : full = true → cap = n)
      (hsz : ∀ (i : Nat) (e : A), es[i]? = some e → e.ncells = sz)
      (hrep : ∀ (i : Nat) (e : A), es[i]? = some e → Rep P w F [] e (V i))
      (hcell : ∀ (i : Nat) (e : A), es[i]? = some e → ∀ (j : Nat) (u : Value), (V i).cells[j]? = some u → u.oneCell' = true ∧ w.cell? ⟨b, off + i * sz + j, none⟩ = some u ∧ ¬ F b (off + i * sz + j)) :
      Rep P w F μ (.sl full es) (.slice (some ⟨b, off, none⟩) n cap)
  | own (μ : Mu) (id off len cb : Nat) (ex : Bool) (b bs cap ty n : Nat) (hμ : μ[id]? = some (b, bs)) (hs : w.shape? b = some (ty, n))
      (hfit : bs + (off + cap) * P.cellsOf ty ≤ n) (hlen : len ≤ cb) (hcb : cb ≤ cap) (hmax : cap ≤ maxLen) (hex : ex = true → cap = cb) (ao : Nat) (hat : cap ≠ 0 → ao = bs + off * P.cellsOf ty) :
      Rep P w F μ (.own id off len cb ex) (.slice (some ⟨b, ao, none⟩) len cap)
  | ownn (μ : Mu) (id off : Nat) (a : Option Addr) : Rep P w F μ (.own id off 0 0 true) (.slice a 0 0)
  | ptr (μ : Mu) (d : A) (b off : Nat) (v : Value) (hrep : Rep P w F [] d v) (hnc : d.ncells ≠ 0)
      (hcell : ∀ (j : Nat) (u : Value), v.cells[j]? = some u → u.oneCell' = true ∧ w.cell? ⟨b, off + j, none⟩ = some u ∧ ¬ F b (off + j)) :
      Rep P w F μ (.ptr d) (.pointer (some ⟨b, off, none⟩))
  | pto (μ : Mu) (id sz i co b bs : Nat) (hμ : μ[id]? = some (b, bs)) : Rep P w F μ (.pto id sz i co) (.pointer (some ⟨b, bs + i * sz + co, none⟩))
  | nptr (μ : Mu) : Rep P w F μ .nptr (.pointer none)
  | agg (μ : Mu) (cs : List A) (vs : List Value) (hl : vs.length = cs.length) (h1 : ∀ u ∈ vs, u.oneCell' = true)
      (h : ∀ (i : Nat) (c : A) (u : Value), cs[i]? = some c → vs[i]? = some u → Rep P w F μ c u) : Rep P w F μ (.agg cs) (.agg ⟨vs⟩)
  | tup (μ : Mu) (cs : List A) (vs : List Value) (hl : vs.length = cs.length)
      (h : ∀ (i : Nat) (c : A) (u : Value), cs[i]? = some c → vs[i]? = some u → Rep P w F μ c u) : Rep P w F μ (.tup cs) (.tuple ⟨vs⟩)
  | fn (μ : Mu) (f : FuncId) (cs : List A) (vs : List Value) (hl : vs.length = cs.length)
      (h : ∀ (i : Nat) (c : A) (u : Value), cs[i]? = some c → vs[i]? = some u → Rep P w F μ c u) : Rep P w F μ (.fn f cs) (.func (.func f) #[] ⟨vs⟩)
  | nfn (μ : Mu) : Rep P w F μ .nfn .nilFunc
  | mp (μ : Mu) (id b : Nat) (hμ : μ[id]? = some (b, 0)) : Rep P w F μ (.mp id) (.map (some b))
  | any (μ : Mu) (v : Value) : Rep P w F μ .any v

/-- From (w, F) to (w', F'): what was not to be written is as it was, and stays so. -/
structure Adv (w : World) (F : Fz) (w' : World) (F' : Fz) : Prop where
  os : w'.os = w.os
  tape : w'.tape = w.tape
  output : w'.output = w.output
  size : w.heap.size ≤ w'.heap.size
  cell : ∀ b o u, w.cell? ⟨b, o, none⟩ = some u → ¬ F b o → w'.cell? ⟨b, o, none⟩ = some u
  mono : ∀ b o, b < w.heap.size → F' b o → F b o
  shape : ∀ b t n, w.shape? b = some (t, n) → w'.shape? b = some (t, n)
  block : ∀ b, b < w.heap.size → (∀ o, ¬ F b o) → w'.heap[b]? = w.heap[b]?

/-- Whatever world. -/
def Cn (_ _ : World) : Prop := True

theorem Adv.refl (w : World) (F : Fz) : Adv w F w F := ⟨rfl, rfl, rfl, Nat.le_refl _, fun _ _ _ h _ => h, fun _ _ _ h => h, fun _ _ _ h => h, fun _ _ _ => rfl⟩

theorem lt_of_cell {w : World} {b o : Nat} {u : Value} (h : w.cell? ⟨b, o, none⟩ = some u) : b < w.heap.size := World.block_lt_of_cell? w ⟨b, o, none⟩ h

theorem Adv.trans {w w1 w2 : World} {F F1 F2 : Fz} (h : Adv w F w1 F1) (k : Adv w1 F1 w2 F2) : Adv w F w2 F2 where
  os := k.os.trans h.os
  tape := k.tape.trans h.tape
  output := k.output.trans h.output
  size := Nat.le_trans h.size k.size
  cell := fun b o u hc hf => k.cell b o u (h.cell b o u hc hf) (fun hf1 => hf (h.mono b o (lt_of_cell hc) hf1))
  mono := fun b o hb hf => h.mono b o hb (k.mono b o (Nat.lt_of_lt_of_le hb h.size) hf)
  shape := fun b t n hs => k.shape b t n (h.shape b t n hs)
  block := fun b hb hf => (k.block b (Nat.lt_of_lt_of_le hb h.size) (fun o hf1 => hf o (h.mono b o hb hf1))).trans (h.block b hb hf)

theorem get_prefix {μ μ' : Mu} (h : μ <+: μ') {i : Nat} {b : Nat × Nat} (hb : μ[i]? = some b) : μ'[i]? = some b := by
  obtain ⟨r, rfl⟩ := h
  rw [List.getElem?_append_left (List.getElem?_eq_some_iff.1 hb).1]; exact hb

theorem Rep.adv {P : Program} {w w' : World} {μ μ' : Mu} {F F' : Fz} (hA : Adv w F w' F') (hp : μ <+: μ') {a : A} {v : Value} (h : Rep P w F μ a v) : Rep P w' F' μ' a v := by
  induction h generalizing μ' with
  | int μ k n => exact .int _ k n
  | bool μ b => exact .bool _ b
  | ub μ b => exact .ub _ b
  | str μ l => exact .str _ l
  | slnil μ full a => exact .slnil _ full a
  | sl μ full es b off n cap sz V hn hcap hmax hfull hsz hrep hcell ih =>
    refine .sl _ full es b off n cap sz V hn hcap hmax hfull hsz (fun i e he => ih i e he (List.prefix_refl [])) ?_
    intro i e he j u hu
    obtain ⟨h1, h2, h3⟩ := hcell i e he j u hu
    exact ⟨h1, hA.cell _ _ _ h2 h3, fun hf => h3 (hA.mono _ _ (lt_of_cell h2) hf)⟩
  | own μ id off len cb ex b bs cap ty n hμ hs hfit hlen hcb hmax hex ao hat => exact .own _ id off len cb ex b bs cap ty n (get_prefix hp hμ) (hA.shape _ _ _ hs) hfit hlen hcb hmax hex ao hat
  | ownn μ id off a => exact .ownn _ id off a
  | ptr μ d b off v hrep hnc hcell ih =>
    refine .ptr _ d b off v (ih (List.prefix_refl [])) hnc ?_
    intro j u hu
    obtain ⟨h1, h2, h3⟩ := hcell j u hu
    exact ⟨h1, hA.cell _ _ _ h2 h3, fun hf => h3 (hA.mono _ _ (lt_of_cell h2) hf)⟩
  | pto μ id sz i co b bs hμ => exact .pto _ id sz i co b bs (get_prefix hp hμ)
  | nptr μ => exact .nptr _
  | agg μ cs vs hl h1 h ih => exact .agg _ cs vs hl h1 (fun i c u hc hu => ih i c u hc hu hp)
  | tup μ cs vs hl h ih => exact .tup _ cs vs hl (fun i c u hc hu => ih i c u hc hu hp)
  | fn μ f cs vs hl h ih => exact .fn _ f cs vs hl (fun i c u hc hu => ih i c u hc hu hp)
  | nfn μ => exact .nfn _
  | mp μ id b hμ => exact .mp _ id b (get_prefix hp hμ)
  | any μ v => exact .any _ v

/-- Less is to be written: what stood, stands. -/
theorem Rep.mono {P : Program} {w : World} {μ μ' : Mu} {F F' : Fz} (hF : ∀ b o, b < w.heap.size → F' b o → F b o) (hp : μ <+: μ') {a : A} {v : Value} (h : Rep P w F μ a v) : Rep P w F' μ' a v :=
  h.adv ⟨rfl, rfl, rfl, Nat.le_refl _, fun _ _ _ h _ => h, hF, fun _ _ _ h => h, fun _ _ _ => rfl⟩ hp

/-- Each cell of a value stands for the abstract cell. -/
theorem Rep.cells {P : Program} {w : World} {μ : Mu} {F : Fz} {a : A} {v : Value} (h : Rep P w F μ a v) (hn : a.ncells ≠ 0 ∨ a.cells = []) :
    v.cells.size = a.cells.length ∧ (∀ u ∈ v.cells.toList, u.oneCell' = true) ∧ ∀ (i : Nat) (c : A) (u : Value), a.cells[i]? = some c → v.cells[i]? = some u → Rep P w F μ c u := by
  cases h with
  | agg _ cs vs hl h1 h => exact ⟨by simpa [Value.cells, A.cells] using hl, by simpa [Value.cells] using h1, by simpa [Value.cells, A.cells] using h⟩
  | any _ v => simp [A.ncells, A.cells] at hn
  | tup _ cs vs hl h => simp [A.ncells, A.cells] at hn
  | _ =>
    refine ⟨by simp [Value.cells, A.cells], by simp [Value.cells, Value.oneCell'], ?_⟩
    intro i c u hc hu
    cases i with
    | zero =>
      simp [A.cells, Value.cells] at hc hu
      subst hc hu
      first | exact .int _ _ _ | exact .bool _ _ | exact .ub _ _ | exact .str _ _ | exact .slnil _ _ _ | (exact .sl _ _ _ _ _ _ _ _ _ ‹_› ‹_› ‹_› ‹_› ‹_› ‹_› ‹_›) | (exact .own _ _ _ _ _ _ _ _ _ _ _ ‹_› ‹_› ‹_› ‹_› ‹_› ‹_› ‹_› _ ‹_›) | exact .ownn _ _ _ _ | exact .ptr _ _ _ _ _ ‹_› ‹_› ‹_› | exact .pto _ _ _ _ _ _ _ ‹_› | exact .nptr _ | exact .fn _ _ _ _ ‹_› ‹_› | exact .nfn _ | exact .mp _ _ _ ‹_›
    | succ i => simp [A.cells] at hc

theorem A.ncells_eq {a : A} (h : a.ncells ≠ 0) : a.cells.length = a.ncells := by
  cases a <;> simp_all [A.ncells, A.cells]
end Go.AL
