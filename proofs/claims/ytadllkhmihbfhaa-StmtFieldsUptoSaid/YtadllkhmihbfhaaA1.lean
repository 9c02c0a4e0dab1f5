/- Chapter 10: statements: a variable that closures append to, and stmt.all, over any program that has the text. -/
import Derived.Test.YtadllkhmihbfhaaG4
namespace Go.Proofs.Ytadllkhmihbfhaa
open Go.AL
variable {P : Program} [h : Facts P]

/-- Row 0 is a variable that holds a slice that grows. -/
def Acc {α : Type} [Enc α] (bt ty : TypeId) (H : List Row) (out : List α) : Prop := ∃ j, j ≠ 0 ∧ H[0]? = some ⟨bt, 1, [B j out], 0, true⟩ ∧ H[j]? = some (RF ty out 0)
omit h in
theorem get_app {H L : List Row} {i : Nat} {r : Row} (hi : H[i]? = some r) : (H ++ L)[i]? = some r := by
  rw [List.getElem?_append_left (List.getElem?_eq_some_iff.1 hi).1]; exact hi
omit h in
theorem Acc.app {α : Type} [Enc α] {bt ty : TypeId} {H : List Row} {out : List α} (ha : Acc bt ty H out) (L : List Row) : Acc bt ty (H ++ L) out := by
  obtain ⟨j, h1, h2, h3⟩ := ha
  exact ⟨j, h1, get_app h2, get_app h3⟩
section
variable {α : Type}
mutual
def flS (f : TStmt → List α) : TStmt → List α
  | ⟨a, b, c, d, e, g, i, m, j, k⟩ => f ⟨a, b, c, d, e, g, i, m, j, k⟩ ++ (flT f j ++ flT f k)
def flT (f : TStmt → List α) : List TStmt → List α
  | [] => []
  | x :: l => flS f x ++ flT f l
end
theorem flS_eq (f : TStmt → List α) (s : TStmt) : flS f s = f s ++ (flT f s.fBody ++ flT f s.fElse) := by cases s; rw [flS]
theorem flT_nil (f : TStmt → List α) : flT f [] = [] := by rw [flT]
theorem flT_cons (f : TStmt → List α) (x : TStmt) (l : List TStmt) : flT f (x :: l) = flS f x ++ flT f l := by rw [flT]
theorem flT_app (f : TStmt → List α) (a b : List TStmt) : flT f (a ++ b) = flT f a ++ flT f b := by
  induction a with
  | nil => rw [flT_nil]; rfl
  | cons x a ih => rw [List.cons_append, flT_cons, flT_cons, ih, List.append_assoc]
theorem flS_len (f : TStmt → List α) (hf : ∀ s, (f s).length ≤ 1) : ∀ s, (flS f s).length ≤ cntS s := by
  refine TStmt.ind fun e ih1 ih2 => ?_
  have key : ∀ l : List TStmt, (∀ y ∈ l, (flS f y).length ≤ cntS y) → (flT f l).length ≤ cntT l := by
    intro l
    induction l with
    | nil => intro _; rw [flT_nil]; simp
    | cons x l ihl =>
      intro hl
      rw [flT_cons, cntT_cons, List.length_append]
      have h1 := hl x (List.mem_cons_self ..)
      have h2 := ihl fun y hy => hl y (List.mem_cons_of_mem _ hy)
      omega
  rw [flS_eq, cntS_eq, List.length_append, List.length_append]
  have h1 := key _ ih1
  have h2 := key _ ih2
  have h3 := hf e
  omega
theorem flT_len (f : TStmt → List α) (hf : ∀ s, (f s).length ≤ 1) (l : List TStmt) : (flT f l).length ≤ cntT l := by
  induction l with
  | nil => rw [flT_nil]; simp
  | cons x l ih => rw [flT_cons, cntT_cons, List.length_append]; have := flS_len f hf x; omega
end

theorem cntT_app (a b : List TStmt) : cntT (a ++ b) = cntT a + cntT b := by
  induction a with
  | nil => rw [cntT_nil]; simp
  | cons x a ih => rw [List.cons_append, cntT_cons, cntT_cons, ih]; omega
section
variable {α : Type} [Enc α]
set_option maxHeartbeats 1000000 in
theorem c_all (fid : FuncId) (bt ty : TypeId) (f : TStmt → List α) (hf : ∀ s, (f s).length ≤ 1)
    (he : ∀ s : TStmt, s.ok → ∀ (H : List Row) (out : List α), Acc bt ty H out → out.length ≤ 2000000 → XCall P fid [.agg s.cells, .pto 0 1 0 0] H (fun r H' => r = .tup [] ∧ Acc bt ty H' (out ++ f s))) :
    ∀ l : List TStmt, l.length ≤ 9223372036854775807 → (∀ s ∈ l, s.ok) → ∀ (H : List Row) (out : List α), Acc bt ty H out → out.length + cntT l ≤ 2000000 → XCall P 30 [Ls false l, .fn fid [.pto 0 1 0 0]] H (fun r H' => r = .tup [] ∧ Acc bt ty H' (out ++ flT f l)) := by
  refine stmt_ind (C := fun l => ∀ (H : List Row) (out : List α), Acc bt ty H out → out.length + cntT l ≤ 2000000 → XCall P 30 [Ls false l, .fn fid [.pto 0 1 0 0]] H (fun r H' => r = .tup [] ∧ Acc bt ty H' (out ++ flT f l))) fun l hl hok hC H out hA hb => ?_
  refine xcall_ofB [3] h.f30 rfl (by decide) h.mo (by kernel_rfl) fun X hX => ?_
  simp
  refine awp_loop (σ := Nat × List Row) (fun q => (⟨[.any, .fn fid [.pto 0 1 0 0], .any, .any, .any, .any, Ls false l, .int .i64 l.length, .int .i64 q.1, .any, .any, .any, .any, .any, .any, .any, .any, .any, .any, .any, .any, .any, .any, .any], q.2⟩ : S)) (fun q => q.1 ≤ l.length ∧ Acc bt ty q.2 (out ++ flT f (l.take q.1))) (fun q => l.length - q.1) (0, H) (Wk.slots (by simp)) ⟨by simp, by simpa [flT_nil] using hA⟩ ?_
  rintro ⟨k, H1⟩ ⟨hk, hA1⟩
  simp only at hk hA1
  refine vcB_sound [3] h.mo _ _ _ (by kernel_rfl) ?_
  rcases Nat.lt_or_ge k l.length with hlt | hge
  · have hk1 := wrap_succ hlt hl
    have hmem := List.getElem_mem hlt
    obtain ⟨cb, ce⟩ := hC _ hmem
    have hso := hok _ hmem
    have htl := flT_len f hf (l.take k)
    have hct : cntT (l.take k) + cntS l[k] + cntT (l.drop (k + 1)) = cntT l := by
      have := cntT_app (l.take k) (l.drop k)
      rw [List.take_append_drop, List.drop_eq_getElem_cons hlt, cntT_cons] at this
      omega
    have hft : flT f (l.take (k + 1)) = flT f (l.take k) ++ flS f l[k] := by rw [List.take_succ_eq_append_getElem hlt, flT_app, flT_cons, flT_nil, List.append_nil]
    simp [hlt, -Prod.exists]
    generalize l[k] = s at *
    have hb1 := flT_len f hf s.fBody
    have hf1 := hf s
    rw [cntS_eq] at hct
    refine awp_fzH (by simp) ?_
    simp [-Prod.exists]
    refine awp_ops ?_
    simp [-Prod.exists]
    refine xcall_mono (he s hso _ _ (hA1.app _) (by rw [List.length_append]; omega)) ?_
    rintro _ H2 ⟨rfl, hA2⟩
    simp [-Prod.exists]
    refine xcall_mono (cb H2 _ hA2 (by simp only [List.length_append]; omega)) ?_
    rintro _ H3 ⟨rfl, hA3⟩
    simp [-Prod.exists]
    refine xcall_mono (ce H3 _ hA3 (by simp only [List.length_append]; omega)) ?_
    rintro _ H4 ⟨rfl, hA4⟩
    simp [-Prod.exists]
    exact ⟨(k + 1, H4), Wk.slots (by simp [hk1]), ⟨by omega, by simp only [hft, flS_eq]; simpa only [List.append_assoc] using hA4⟩, by omega⟩
  · have hge' : ¬ k < l.length := by omega
    rw [List.take_of_length_le (by omega)] at hA1
    simp [hge']
    exact hA1
end
end Go.Proofs.Ytadllkhmihbfhaa
