/- An abstract layer over the walk, 20: what is handed back as a fresh slice that grows: nil, empty and full told as one. No program in sight. -/
import Derived.Test.YtnahhdbheeinfaaAlTree
namespace Go.AL

/-- A fresh slice that grows: nil, or empty, or a row of its own. -/
def Fresh {α : Type} [Enc α] (ty : TypeId) (l : List α) (H : List Row) (r : A) (H' : List Row) : Prop :=
  (l = [] ∧ r = .sl true [] ∧ H' = H) ∨ (l = [] ∧ r = .own (H.length + 1) 0 0 0 true ∧ H' = H ++ [dead0] ++ [dead0]) ∨ (r = .own (H.length + 1) 0 l.length l.length false ∧ l ≠ [] ∧ H' = H ++ [dead0] ++ [⟨ty, Enc.sz α, l.map Enc.enc, 0, true⟩])

theorem xcall_new {α : Type} [Enc α] {P : Program} {f : FuncId} {args : List A} {H : List Row} (ty : TypeId) (l : List α) (h : XCall P f args H (Fresh ty l H)) : XCall P f args H (fun r H' => r = B (H.length + 1) l ∧ H' = H ++ [dead0] ++ [RF ty l 0]) := by
  refine ⟨h.1, fun w F0 μ vs hs hl => (h.2 w F0 μ vs hs hl).mono ?_⟩
  rintro e w' ⟨v, r, H', he, hf, hres⟩
  refine ⟨v, B (H.length + 1) l, H ++ [dead0] ++ [RF ty l 0], he, ⟨rfl, rfl⟩, ?_⟩
  rcases hf with ⟨rfl, rfl, rfl⟩ | ⟨rfl, rfl, rfl⟩ | ⟨rfl, hne, rfl⟩
  · exact hres.snocDead.snocDead.repR fun hr => rep_empty (.inl rfl) hr _
  · exact hres
  · have hi : l.isEmpty = false := by cases l <;> simp_all
    rw [RF_ne hne]
    unfold B
    rw [hi]
    exact hres
@[simp] theorem Ls_scal1 {α : Type} [Enc α] (f : Bool) (l : List α) : scal1 (Ls f l) = false := rfl
@[simp] theorem B_scal1 {α : Type} (id : Nat) (l : List α) : scal1 (B id l) = false := rfl
end Go.AL
