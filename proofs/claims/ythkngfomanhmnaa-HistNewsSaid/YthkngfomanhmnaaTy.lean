/- The types of the chapter, as Lean's own, and how they lie in memory. -/
import Derived.Test.YthkngfomanhmnaaAlFacts
namespace Go.Proofs.Ythkngfomanhmnaa
open Go.AL
structure THist where
  fLow : Int
  fWidth : Int
  fBins : List Int
  fBelow : Int
  fOver : Int
  deriving DecidableEq
@[simp] def THist.cells (x : THist) : List A := [A.int .i64 x.fLow, A.int .i64 x.fWidth, Ls false x.fBins, A.int .i64 x.fBelow, A.int .i64 x.fOver]
instance : Enc THist := ⟨fun x => .agg x.cells, 5, fun x => by simp, fun x => by simp, fun x => by simp, by decide⟩
@[simp] theorem enc_THist (x : THist) : Enc.enc x = A.agg x.cells := rfl
@[simp] theorem sz_THist : Enc.sz THist = 5 := rfl
def THist.ok (x : THist) : Prop := ((Lit.int .i64 x.fLow).wf = true) ∧ ((Lit.int .i64 x.fWidth).wf = true) ∧ (x.fBins.length ≤ 9223372036854775807 ∧ ∀ y0 ∈ x.fBins, (Lit.int .i64 y0).wf = true) ∧ ((Lit.int .i64 x.fBelow).wf = true) ∧ ((Lit.int .i64 x.fOver).wf = true)
theorem wt_THist {P : Program} [h : Facts P] {n : Nat} {cs : List A} (h : WTc P n 24 cs) : ∃ x : THist, cs = x.cells ∧ x.ok := by
  obtain ⟨m, rfl, hl, h⟩ := WTc_struct w24_ h
  rw [c24_] at hl
  match cs, hl with
  | [c0, c1, c2, c3, c4], _ =>
    have h0 := h (3, 0) (by simp)
    have h1 := h (3, 1) (by simp)
    have h2 := h (22, 2) (by simp)
    have h3 := h (3, 3) (by simp)
    have h4 := h (3, 4) (by simp)
    clear h
    simp only [c22_, c3_, List.drop, List.take] at h0 h1 h2 h3 h4
    obtain ⟨z0, e0, b0⟩ := WTc_int (k := .i64) i3_ h0
    obtain ⟨z1, e1, b1⟩ := WTc_int (k := .i64) i3_ h1
    obtain ⟨z2, e2, b2, q2⟩ := WTc_slice (α := Int) (Q := (fun y => (Lit.int .i64 y).wf = true)) s22_ (fun m cs _ h => by
      rw [l22_] at h ⊢
      obtain ⟨z, rfl, b⟩ := WTc_int (k := .i64) i3_ h
      exact ⟨z, pack_one a3_, b⟩) h2
    obtain ⟨z3, e3, b3⟩ := WTc_int (k := .i64) i3_ h3
    obtain ⟨z4, e4, b4⟩ := WTc_int (k := .i64) i3_ h4
    simp only [List.cons.injEq, and_true] at e0
    subst e0
    simp only [List.cons.injEq, and_true] at e1
    subst e1
    simp only [List.cons.injEq, and_true] at e2
    subst e2
    simp only [List.cons.injEq, and_true] at e3
    subst e3
    simp only [List.cons.injEq, and_true] at e4
    subst e4
    exact ⟨⟨z0, z1, z2, z3, z4⟩, rfl, b0, b1, ⟨b2, q2⟩, b3, b4⟩

/-! types: THist 24 -/
end Go.Proofs.Ythkngfomanhmnaa
