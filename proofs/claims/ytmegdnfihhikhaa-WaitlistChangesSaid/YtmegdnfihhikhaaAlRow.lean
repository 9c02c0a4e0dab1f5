/- An abstract layer over the walk, 14: what came in, and what a contract says of the world behind it. No program in sight. -/
import Derived.Test.YtmegdnfihhikhaaAlLine
import Derived.WalkKit
import Derived.ProofKit
import Derived.OpenShut
import Derived.ShutString
import Derived.ChangeOld
import Derived.Below
namespace Go.AL
open Go.ChangeShapes Go.WideShapes Go.ChangeAt Go.RowKit
/-- A slice of integers that came in: nil, or a row of cells, the numbers zs, of which the first len are its elements. -/
def IsRow (k : IntKind) (w : World) (a : Option Addr) (len cap : Nat) (zs : List Int) : Prop :=
  (a = none ∧ len = 0 ∧ cap = 0 ∧ zs = []) ∨
  ∃ x, a = some x ∧ len ≤ cap ∧ cap ≤ maxLen ∧ zs.length = cap ∧ (∀ i, i < zs.length → w.cell? (x.add i) = some (.int k (zs.getD i 0))) ∧ ∀ n ∈ zs, (Lit.int k n).wf = true

theorem okWide_spot {P : Program} {w : World} {r : Reach} {base : Nat} {t e : TypeId} {x : Addr} {len cap : Nat} (ht : P.underlying t = some (.slice e)) (h : Value.okWide P w r base t (.slice (some x) len cap)) : x.spot = none := by
  simp only [Value.okWide, ht, Cell.okWide, Cell.ok] at h
  exact h.2.2.2.1

theorem rep_row {P : Program} {k : IntKind} {w : World} {a : Option Addr} {len cap : Nat} {zs : List Int} (h : IsRow k w a len cap zs) (hs : ∀ x, a = some x → x.spot = none) :
    ∃ nl, Rep P w NoF [] (.sl nl false ((zs.take len).map (A.int k))) (.slice a len cap) ∧ (zs.take len).length ≤ maxLen := by
  rcases h with ⟨rfl, rfl, rfl, rfl⟩ | ⟨x, rfl, h1, h2, h3, h4, h5⟩
  · exact ⟨true, .slnil _ _, by simp⟩
  · obtain ⟨b, off, sp⟩ := x
    have := hs _ rfl
    simp only at this
    subst this
    have hlen : (zs.take len).length = len := by simp; omega
    refine ⟨false, .sl _ _ _ b off len cap 1 (fun i => .int k (zs.getD i 0)) (by simp; omega) h1 h2 (by simp) ?_ ?_ ?_, by omega⟩
    · intro i e he
      simp only [List.getElem?_map] at he
      obtain ⟨n, _, rfl⟩ := Option.map_eq_some_iff.1 he
      simp
    · intro i e he
      simp only [List.getElem?_map] at he
      obtain ⟨n, hn, rfl⟩ := Option.map_eq_some_iff.1 he
      have hi : i < len := by
        have := (List.getElem?_eq_some_iff.1 hn).1
        omega
      rw [List.getElem?_take, if_pos hi] at hn
      have : zs.getD i 0 = n := by rw [List.getD_eq_getElem?_getD, hn]; rfl
      rw [this]
      exact .int _ _ _
    · intro i e he j u hu
      simp only [List.getElem?_map] at he
      obtain ⟨n, hn, rfl⟩ := Option.map_eq_some_iff.1 he
      have hi : i < zs.length := by
        have := (List.getElem?_eq_some_iff.1 hn).1
        omega
      cases j with
      | zero =>
        have : u = .int k (zs.getD i 0) := by simpa [Value.cells] using hu.symm
        subst this
        refine ⟨rfl, ?_, fun hf => hf⟩
        have := h4 i hi
        by_cases h0 : i = 0
        · subst h0; simpa [Addr.add] using this
        · simpa [Addr.add, h0] using this
      | succ j => simp [Value.cells] at hu

theorem Adv.below {w w' : World} (h : Adv w NoF w' NoF) : Below w.heap.size w w' :=
  ⟨h.os, h.tape, h.output, h.size, fun k hk => h.block k hk fun _ hf => hf⟩

/-- A contract of a law, for the row's step. -/
theorem walk_law {P : Program} {f : FuncId} {args : List A} {vs : List Value} {w : World} (h : FCall P f args (fun r => r = .bool true)) (hl : RepL P w NoF [] args vs) :
    Calls P f ⟨vs⟩ w fun e w' => e = .returned (.bool true) ∧ Below w.heap.size w w' := by
  refine (h.2 w NoF vs (fun _ _ hf => hf.elim) hl).mono ?_
  rintro e w' ⟨v, r, rfl, rfl, h1, h2⟩
  cases h1
  exact ⟨rfl, h2.below⟩
end Go.AL
