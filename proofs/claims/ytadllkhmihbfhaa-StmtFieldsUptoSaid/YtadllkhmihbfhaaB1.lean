/- What came in, and its bulk: a list of statements has no more parts than a small multiple of the bulk of what is read. -/
import Derived.Test.YtadllkhmihbfhaaRows
import Derived.Test.YtadllkhmihbfhaaL4
namespace Go.Proofs.Ytadllkhmihbfhaa
open Go.AL Go.ChangeShapes Go.WideShapes Go.ChangeAt Go.RowKit

/-! What a value holds: a slice counts one for each element, and what the elements hold. -/
mutual
def wC : A → Nat
  | .sl _ es => wS es
  | .agg cs => wK cs
  | _ => 0
def wS : List A → Nat
  | [] => 0
  | e :: es => 1 + wC e + wS es
def wK : List A → Nat
  | [] => 0
  | c :: cs => wC c + wK cs
end
theorem wS_nil : wS [] = 0 := by rw [wS]
theorem wS_cons (e : A) (es : List A) : wS (e :: es) = 1 + wC e + wS es := by rw [wS]
theorem wK_nil : wK [] = 0 := by rw [wK]
theorem wK_cons (c : A) (cs : List A) : wK (c :: cs) = wC c + wK cs := by rw [wK]
theorem wC_sl (f : Bool) (es : List A) : wC (.sl f es) = wS es := by rw [wC]
theorem wC_agg (cs : List A) : wC (.agg cs) = wK cs := by rw [wC]
theorem wK_app (a b : List A) : wK (a ++ b) = wK a + wK b := by
  induction a with
  | nil => rw [wK_nil]; simp
  | cons c a ih => rw [List.cons_append, wK_cons, wK_cons, ih]; omega
theorem wC_Ls {α : Type} [Enc α] (f : Bool) (l : List α) : wC (Ls f l) = wS (l.map Enc.enc) := by unfold Ls; rw [wC_sl]
theorem wE : ∀ e : TExpr, cntE e = 1 + wC (Enc.enc e) := by
  refine TExpr.ind fun e ih => ?_
  have key : ∀ l : List TExpr, (∀ y ∈ l, cntE y = 1 + wC (Enc.enc y)) → cntL l = wS (l.map Enc.enc) := by
    intro l
    induction l with
    | nil => intro _; rw [cntL_nil, List.map_nil, wS_nil]
    | cons x l ihl =>
      intro hl
      rw [cntL_cons, List.map_cons, wS_cons, hl x (List.mem_cons_self ..), ihl fun y hy => hl y (List.mem_cons_of_mem _ hy)]
  rw [cntE_eq, key _ ih, enc_TExpr, wC_agg]
  simp only [TExpr.cells, wK_cons, wK_nil, wC_Ls, wC]
  omega
theorem wEL (l : List TExpr) : cntL l = wS (l.map Enc.enc) := by
  induction l with
  | nil => rw [cntL_nil, List.map_nil, wS_nil]
  | cons x l ih => rw [cntL_cons, List.map_cons, wS_cons, wE x, ih]
theorem wI (l : List Int) : l.length = wS (l.map Enc.enc) := by
  induction l with
  | nil => rw [List.map_nil, wS_nil]; rfl
  | cons x l ih =>
    rw [List.map_cons, wS_cons, List.length_cons, ih]
    show _ = 1 + wC (A.int .i64 x) + _
    rw [wC]
    · omega
    all_goals (intros; simp_all)
theorem wSt : ∀ s : TStmt, sizS s ≤ 3 * (1 + wC (Enc.enc s)) := by
  refine TStmt.ind fun e ih1 ih2 => ?_
  have key : ∀ l : List TStmt, (∀ y ∈ l, sizS y ≤ 3 * (1 + wC (Enc.enc y))) → sizT l ≤ 3 * wS (l.map Enc.enc) := by
    intro l
    induction l with
    | nil => intro _; rw [sizT_nil, List.map_nil, wS_nil]; omega
    | cons x l ihl =>
      intro hl
      rw [sizT_cons, List.map_cons, wS_cons]
      have h1 := hl x (List.mem_cons_self ..)
      have h2 := ihl fun y hy => hl y (List.mem_cons_of_mem _ hy)
      omega
  have h1 := key _ ih1
  have h2 := key _ ih2
  have hE := wE e.fE
  have hF := wE e.fF
  have hA := wEL e.fArgs
  have hv := wI e.fDist.fValues
  have hw := wI e.fDist.fWeights
  rw [sizS_eq, enc_TStmt, wC_agg]
  rw [enc_TExpr, wC_agg] at hE hF
  simp only [TStmt.cells, TDist.cells, wK_app, wK_cons, wK_nil, wC_Ls, wC] at hE hF ⊢
  omega
theorem wST (l : List TStmt) : sizT l ≤ 3 * wC (Ls false l) := by
  rw [wC_Ls]
  induction l with
  | nil => rw [sizT_nil, List.map_nil, wS_nil]; omega
  | cons x l ih =>
    rw [sizT_cons, List.map_cons, wS_cons]
    have := wSt x
    omega
end Go.Proofs.Ytadllkhmihbfhaa
