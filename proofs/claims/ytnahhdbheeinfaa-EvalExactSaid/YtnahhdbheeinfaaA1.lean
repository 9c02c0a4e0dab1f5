/- Chapter 15: values of expressions: the chapter's examples, over any program that has the text. -/
import Derived.Test.YtnahhdbheeinfaaE8
namespace Go.Proofs.Ytnahhdbheeinfaa
open Go.AL
variable {P : Program} [h : Facts P]

def x0E (op n : Int) : TExpr := ⟨op, [], n, []⟩
def aw1 : TExpr := ⟨11, [], 0, [x0E 25 0, x0E 1 3]⟩
def aw2 : TExpr := ⟨9, [], 0, [x0E 4 0, x0E 25 1]⟩
theorem ok0 (op n : Int) (h1 : (Lit.int .i64 op).wf = true) (h2 : (Lit.int .i64 n).wf = true) : (x0E op n).ok := .mk _ h1 (by simp [x0E]) h2 (by simp [x0E]) (by simp [x0E])
theorem ok_aw1 : aw1.ok := .mk _ (by decide) (by simp [aw1]) (by decide) (by simp [aw1]) (by
  intro y hy
  simp only [aw1, List.mem_cons, List.not_mem_nil, or_false] at hy
  rcases hy with rfl | rfl
  · exact ok0 _ _ (by decide) (by decide)
  · exact ok0 _ _ (by decide) (by decide))
theorem ok_aw2 : aw2.ok := .mk _ (by decide) (by simp [aw2]) (by decide) (by simp [aw2]) (by
  intro y hy
  simp only [aw2, List.mem_cons, List.not_mem_nil, or_false] at hy
  rcases hy with rfl | rfl
  · exact ok0 _ _ (by decide) (by decide)
  · exact ok0 _ _ (by decide) (by decide))
def vw (now : Int) (sl : List Int) : TView := ⟨now, sl, [], [], [], []⟩
theorem aw_v1 : exprZ (vw 0 [4]) aw1 = 12 := by decide
theorem aw_v2 : exprZ (vw 10 [4, 5]) aw2 = 15 := by decide
theorem aw_v3 : exprZ (vw 10 [4]) aw2 = 10 := by decide
theorem aw_v4 : unZ 5 (-9223372036854775808) = 1000000000000 := by decide
theorem aw_v5 : binZ 12 (-7) 2 = -4 := by decide
theorem aw_v6 : binZ 13 5 0 = 5 := by decide
theorem aw_v7 : binZ 19 0 3 = 1 := by decide
theorem aw_v8 : binZ 9 1000000000000 1 = 1000000000000 := by decide
theorem aw_v9 : exprZ (vw 0 []) (x0E 2 1) = 1 := by decide
theorem aw_v10 : exprZ (vw 3 []) (x0E 4 1) = 0 := by decide
set_option maxHeartbeats 2000000 in
theorem c_awake : FCall P 13 [] (fun r => r = .bool true) := by
  refine fcall_of h.f13 rfl (by decide) h.mo (by kernel_rfl) fun X hX => ?_
  simp
  refine xcall_fn (c_Expr (vw 0 [4]) aw1 ok_aw1 (by decide)) (by simp [vw, aw1, x0E]) ?_
  simp [aw_v1]
  refine xcall_fn (c_Expr (vw 10 [4, 5]) aw2 ok_aw2 (by decide)) (by simp [vw, aw2, x0E]) ?_
  simp [aw_v2]
  refine xcall_fn (c_Expr (vw 10 [4]) aw2 ok_aw2 (by decide)) (by simp [vw, aw2, x0E]) ?_
  simp [aw_v3]
  refine xcall_fn (c_Unary 5 (-9223372036854775808)) (by simp) ?_
  simp [aw_v4]
  refine xcall_fn (c_Binary 12 (-7) 2) (by simp) ?_
  simp [aw_v5]
  refine xcall_fn (c_Binary 13 5 0) (by simp) ?_
  simp [aw_v6]
  refine xcall_fn (c_Binary 19 0 3) (by simp) ?_
  simp [aw_v7]
  refine xcall_fn (c_Binary 9 1000000000000 1) (by simp) ?_
  simp [aw_v8]
  refine xcall_fn (c_Truth (vw 0 []) (x0E 2 1) (ok0 _ _ (by decide) (by decide)) (by decide)) (by simp [vw, x0E]) ?_
  simp [aw_v9]
  refine xcall_fn (c_Expr (vw 3 []) (x0E 4 1) (ok0 _ _ (by decide) (by decide)) (by decide)) (by simp [vw, x0E]) ?_
  simp [aw_v10]
end Go.Proofs.Ytnahhdbheeinfaa
