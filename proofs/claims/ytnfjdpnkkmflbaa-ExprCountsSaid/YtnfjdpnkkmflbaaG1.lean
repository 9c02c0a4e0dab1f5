/- Chapter 09: expressions: the chapter's examples, over any program that has the text, given the library's sort. -/
import Derived.Test.YtnfjdpnkkmflbaaF8
import Derived.Test.YtnfjdpnkkmflbaaQ2
import Derived.Test.YtnfjdpnkkmflbaaS3
import Derived.Test.YtnfjdpnkkmflbaaAlM4
namespace Go.Proofs.Ytnfjdpnkkmflbaa
open Go.AL
variable {P : Program} [h : Facts P]

def xSum : TExpr := twoE 9 (wordE [97]) ⟨1, [], 2, []⟩
def xFree0 : TExpr := twoE 9 (wordE [98]) ⟨22, [97], 0, []⟩
def xFree : TExpr := twoE 10 xFree0 (wordE [98])
def xBy : TExpr := twoE 9 ⟨1, [], 1, []⟩ (wordE [121])
def xSq0 : TExpr := twoE 11 (wordE [120]) (wordE [120])
def notN : Nat → TExpr
  | 0 => ⟨2, [], 1, []⟩
  | k + 1 => ⟨6, [], 0, [notN k]⟩
theorem ok_leaf (op : Int) (nm : List UInt8) (n : Int) (h1 : (Lit.int .i64 op).wf = true) (h2 : nm.length ≤ 9223372036854775807) (h3 : (Lit.int .i64 n).wf = true) : (⟨op, nm, n, []⟩ : TExpr).ok := .mk _ h1 h2 h3 (by simp) (by simp)
theorem ok_two (op : Int) (a b : TExpr) (h1 : (Lit.int .i64 op).wf = true) (ha : a.ok) (hb : b.ok) : (twoE op a b).ok := .mk _ h1 (by simp [twoE]) (by decide : (Lit.int .i64 0).wf = true) (by simp [twoE]) (by
  intro y hy
  simp only [twoE, List.mem_cons, List.not_mem_nil, or_false] at hy
  rcases hy with rfl | rfl
  · exact ha
  · exact hb)
theorem ok_not : ∀ k, (notN k).ok
  | 0 => ok_leaf _ _ _ (by decide) (by simp) (by decide)
  | k + 1 => .mk _ (show (Lit.int .i64 6).wf = true by decide) (by simp [notN]) (show (Lit.int .i64 0).wf = true by decide) (by simp [notN]) (by
    intro y hy
    simp only [notN, List.mem_cons, List.not_mem_nil, or_false] at hy
    rw [hy]
    exact ok_not k)
theorem ok_xSum : xSum.ok := ok_two _ _ _ (by decide) (word_ok (by simp)) (ok_leaf _ _ _ (by decide) (by simp) (by decide))
theorem ok_xFree0 : xFree0.ok := ok_two _ _ _ (by decide) (word_ok (by simp)) (ok_leaf _ _ _ (by decide) (by simp) (by decide))
theorem ok_xFree : xFree.ok := ok_two _ _ _ (by decide) ok_xFree0 (word_ok (by simp))
theorem ok_xBy : xBy.ok := ok_two _ _ _ (by decide) (ok_leaf _ _ _ (by decide) (by simp) (by decide)) (word_ok (by simp))
theorem ok_xSq0 : xSq0.ok := ok_two _ _ _ (by decide) (word_ok (by simp)) (word_ok (by simp))
theorem v_11 : chkE false (notN 11) = 0 := by decide
theorem v_12 : chkE false (notN 12) = 11 := by decide
theorem v_d12 : depE (notN 12) = 13 := by decide
theorem v_if : chkE false (wordE [105, 102]) = 3 := by decide
theorem v_cs : cntE xSum = 3 := by decide
theorem v_ds : depE xSum = 2 := by decide
theorem v_nm : namesZ xFree = [[97], [98]] := by decide
theorem v_sq : repE [120] xBy xSq0 = twoE 11 xBy xBy := by simp [xSq0, twoE, wordE, repE_eq, repL_map]
theorem v_now : chkE false ⟨4, [], 1, []⟩ = 1 := by decide
theorem v_wa : chkE true (wordE [97]) = 1 := by decide
theorem v_sl : chkE true ⟨25, [], 16, []⟩ = 2 := by decide
theorem v_cn : constE 2 7 = ⟨2, [], 1, []⟩ := by simp [constE]
theorem c_11 : cntE (notN 11) ≤ 100 := by decide
theorem c_12 : cntE (notN 12) ≤ 100 := by decide
theorem c_fr : cntE xFree ≤ 100 := by decide
set_option maxHeartbeats 4000000 in
theorem c_awake (hso : SortAt P 39) : FCall P 11 [] (fun r => r = .bool true) := by
  refine fcall_ofA h.f11 rfl (by decide) fun X hX => ?_
  refine awp_seq (vc_sound h.mo _ _ _ (by kernel_rfl) ?_)
  simp
  refine awp_seq (vc_sound h.mo _ _ _ (by kernel_rfl) ?_)
  simp
  refine xcall_fn (c_word [97]) (by simp) ?_
  simp
  refine xcall_fn (show FCall P _ [.int .i64 9, .agg (wordE [97]).cells, .agg (⟨1, [], 2, []⟩ : TExpr).cells] (fun r => r = .agg xSum.cells) from c_two 9 (wordE [97]) ⟨1, [], 2, []⟩) (by simp) ?_
  simp
  refine awp_seq (vc_sound h.mo _ _ _ (by kernel_rfl) ?_)
  simp
  refine xcall_fn (c_word [98]) (by simp) ?_
  simp
  refine xcall_fn (c_two 9 (wordE [98]) ⟨22, [97], 0, []⟩) (by simp) ?_
  simp
  refine xcall_fn (c_word [98]) (by simp) ?_
  simp
  refine xcall_fn (show FCall P _ [.int .i64 10, .agg xFree0.cells, .agg (wordE [98]).cells] (fun r => r = .agg xFree.cells) from c_two 10 xFree0 (wordE [98])) (by simp [xFree0]) ?_
  simp
  refine awp_seq (vc_sound h.mo _ _ _ (by kernel_rfl) ?_)
  simp
  refine xcall_fn (c_word [121]) (by simp) ?_
  simp
  refine xcall_fn (show FCall P _ [.int .i64 9, .agg (⟨1, [], 1, []⟩ : TExpr).cells, .agg (wordE [121]).cells] (fun r => r = .agg xBy.cells) from c_two 9 ⟨1, [], 1, []⟩ (wordE [121])) (by simp) ?_
  simp
  refine awp_cut (⟨[.bool false, .ptr (.agg (xSum : TExpr).cells), .ptr (.agg (xFree : TExpr).cells), .ptr (.agg (xBy : TExpr).cells), .pto 0 4 0 0, .any, .any, .any, .any, .any, .any, .any, .any, .any, .any, .any, .any, .any, .any, .any, .any, .any, .any, .any, .any, .any, .any, .any, .any, .any, .any, .any, .any, .any, .any, .any, .any, .any, .any, .any, .any, .any, .any, .any, .any, .any, .any, .any, .any, .any, .any, .any, .any, .any, .any, .any, .any, .any, .any, .any, .any, .any, .any, .any, .any, .any, .any, .any, .any, .any, .any, .any, .any, .any, .any, .any, .any, .any, .any, .any, .any, .any, .any, .any, .any, .any, .any, .any, .any, .any, .any, .any, .any, .any], [⟨25, 4, [.agg (twoE 11 xBy xBy : TExpr).cells], 0, true⟩]⟩ : S) ?_ ?_
  case refine_1 =>
    refine awp_fz 0 (by rfl) (by simp) ?_
    refine awp_fz 1 (by rfl) (by simp) ?_
    refine awp_fz 2 (by rfl) (by simp) ?_
    simp
    refine awp_tree (.take 3 (.alt 0 (.alt 1 (.alt 2 (.alt 4 (.alt 5 (.alt 6 .done .stop) .stop) (.alt 5 (.alt 4 (.alt 6 .done .stop) .stop) .stop)) (.alt 5 (.alt 2 (.alt 4 (.alt 6 .done .stop) .stop) .stop) .stop)) (.alt 5 (.alt 1 (.alt 2 (.alt 4 (.alt 6 .done .stop) .stop) .stop) .stop) .stop)) (.alt 5 (.alt 0 (.alt 1 (.alt 2 (.alt 4 (.alt 6 .done .stop) .stop) .stop) .stop) .stop) .stop))) _ h.mo (by kernel_rfl) (by decide) (by kernel_rfl) (by rfl) ?_
    simp
    repeat' (first | (with_reducible apply And.intro) | (refine xcall_fn (c_word [120]) (by simp) ?_; simp) | (refine xcall_fn (c_two 11 (wordE [120]) (wordE [120])) (by simp) ?_; simp) | (refine xcall_fn (c_Replace [120] xBy xSq0 ok_xSq0 (by decide)) (by simp [xSq0]) ?_; rw [v_sq]; simp))
    all_goals exact Wk.ren 0 [3] hX rfl (by decide) (by simp) (by simp) (by simp) (by simp)
  refine awp_seq (vc_sound h.mo _ _ _ (by kernel_rfl) ?_)
  simp
  refine awp_cut (⟨[.bool false, .ptr (.agg (xSum : TExpr).cells), .ptr (.agg (xFree : TExpr).cells), .ptr (.agg (xBy : TExpr).cells), .pto 0 4 0 0, .pto 1 4 0 0, .any, .any, .any, .any, .any, .any, .any, .any, .any, .any, .any, .any, .any, .any, .any, .any, .any, .any, .any, .any, .any, .any, .any, .any, .any, .any, .any, .any, .any, .any, .any, .any, .any, .any, .any, .any, .any, .any, .any, .any, .any, .any, .any, .any, .any, .any, .any, .any, .any, .any, .any, .any, .any, .any, .any, .any, .any, .any, .any, .any, .any, .any, .any, .any, .any, .any, .any, .any, .any, .any, .any, .any, .any, .any, .any, .any, .any, .any, .any, .any, .any, .any, .any, .any, .any, .any, .any, .any], [⟨25, 4, [.agg (twoE 11 xBy xBy : TExpr).cells], 0, true⟩, ⟨25, 4, [.agg (notN 11 : TExpr).cells], 0, true⟩]⟩ : S) (vc_sound h.mo _ _ _ (by kernel_rfl) ?_) ?_
  case refine_1 =>
    simp
    refine awp_loop (σ := Nat) (fun k => (⟨[.bool false, .ptr (.agg (xSum : TExpr).cells), .ptr (.agg (xFree : TExpr).cells), .ptr (.agg (xBy : TExpr).cells), .pto 0 4 0 0, .pto 1 4 0 0, .int .i64 k, .any, .any, .any, .any, .any, .any, .any, .any, .any, .any, .any, .any, .any, .any, .any, .any, .any, .any, .any, .any, .any, .any, .any, .any, .any, .any, .any, .any, .any, .any, .any, .any, .any, .any, .any, .any, .any, .any, .any, .any, .any, .any, .any, .any, .any, .any, .any, .any, .any, .any, .any, .any, .any, .any, .any, .any, .any, .any, .any, .any, .any, .any, .any, .any, .any, .any, .any, .any, .any, .any, .any, .any, .any, .any, .any, .any, .any, .any, .any, .any, .any, .any, .any, .any, .any, .any, .any], [⟨25, 4, [.agg (twoE 11 xBy xBy : TExpr).cells], 0, true⟩, ⟨25, 4, [.agg (notN k : TExpr).cells], 0, true⟩]⟩ : S)) (fun k => k ≤ 11) (fun k => 11 - k) 0 (Wk.ren 0 [0, 1] hX rfl (by decide) (by simp) (by simp) (by simp) (by simp [notN])) (by omega) ?_
    rintro k hk
    refine vc_sound h.mo _ _ _ (by kernel_rfl) ?_
    rcases Nat.lt_or_ge k 11 with hlt | hge
    · have hlti : (k : Int) < 11 := by omega
      have hk1 : IntKind.i64.wrap ((k : Int) + 1) = ((k + 1 : Nat) : Int) := by rw [i64_id (by omega) (by omega)]; omega
      simp [hlti]
      exact ⟨k + 1, (Wk.fzS 2 (by rfl) rfl (by simp)).trans (Wk.ren 0 [0, 1] hX rfl (by decide) (by simp [hk1]) (by simp) (by simp) (by simp [notN])), by omega, by omega⟩
    · have hk11 : k = 11 := by omega
      subst hk11
      simp
      exact Wk.ren 0 [0, 1] hX rfl (by decide) (by simp) (by simp) (by simp) (by simp)
  refine awp_seq (vc_sound h.mo _ _ _ (by kernel_rfl) ?_)
  simp
  refine awp_seq (vc_sound h.mo _ _ _ (by kernel_rfl) ?_)
  simp
  refine xcall_fn (c_Check (notN 11) (ok_not 11) (by decide)) (by simp) ?_
  simp [v_11]
  refine xcall_fn (c_Check (notN 12) (ok_not 12) (by decide)) (by simp [notN]) ?_
  simp [v_12]
  refine xcall_fn (c_Depth (notN 12) (by decide)) (by simp [notN]) ?_
  simp [v_d12]
  refine xcall_fn (c_word [105, 102]) (by simp) ?_
  simp
  refine xcall_fn (c_Check (wordE [105, 102]) (word_ok (by simp)) (by decide)) (by simp) ?_
  simp [v_if]
  refine awp_seq ?_
  refine awp_fz 0 (by rfl) (by simp) ?_
  simp
  refine awp_tree (.take 0 (.alt 1 (.take 2 (.take 3 (.take 4 (.alt 5 (.take 6 (.take 7 (.take 8 (.take 9 (.alt 10 (.alt 11 (.alt 12 (.take 13 (.take 14 (.take 15 (.take 16 (.take 17 (.alt 18 (.alt 19 (.take 20 (.take 21 (.take 22 (.alt 23 (.take 24 (.take 25 (.take 26 (.alt 27 (.alt 28 (.take 29 (.take 30 (.take 31 (.take 32 (.alt 33 (.take 34 (.take 35 (.take 36 (.take 38 (.alt 37 (.alt 39 (.take 40 (.take 41 .done)) .stop) .stop))))) .stop))))) .stop) .stop)))) .stop)))) .stop) .stop)))))) .stop) .stop) (.alt 11 (.alt 10 (.alt 12 (.take 13 (.take 14 (.take 15 (.take 16 (.take 17 (.alt 18 (.alt 19 (.take 20 (.take 21 (.take 22 (.alt 23 (.take 24 (.take 25 (.take 26 (.alt 27 (.alt 28 (.take 29 (.take 30 (.take 31 (.take 32 (.alt 33 (.take 34 (.take 35 (.take 36 (.take 38 (.alt 37 (.alt 39 (.take 40 (.take 41 .done)) .stop) .stop))))) .stop))))) .stop) .stop)))) .stop)))) .stop) .stop)))))) .stop) .stop) .stop)))))) .stop)))) .stop)) _ h.mo (by kernel_rfl) (by decide) (by kernel_rfl) (by rfl) ?_
  simp
  refine xcall_fn (c_Nodes xSum (by decide)) (by simp) ?_
  simp [v_cs]
  refine xcall_fn (c_Depth xSum (by decide)) (by simp) ?_
  simp [v_ds]
  repeat' (with_reducible apply And.intro)
  all_goals
    refine xcall_fn (c_Names hso xFree ok_xFree (by decide)) (by simp) ?_
    simp [v_nm]
    refine xcall_fn (c_SameTexts [[97], [98]] [[97], [98]] (by simp)) (by simp) ?_
    simp
    refine xcall_fn (c_two 11 xBy xBy) (by simp) ?_
    simp
    refine xcall_fn (c_Same (twoE 11 xBy xBy) (ok_two _ _ _ (by decide) ok_xBy ok_xBy) (twoE 11 xBy xBy)) (by simp) ?_
    simp [sameB_self]
    refine xcall_fn (c_Check ⟨4, [], 1, []⟩ (ok_leaf _ _ _ (by decide) (by simp) (by decide)) (by decide)) (by simp) ?_
    simp [v_now]
    refine xcall_fn (c_word [97]) (by simp) ?_
    simp
    refine xcall_fn (c_CheckCode (wordE [97]) (word_ok (by simp)) (by decide)) (by simp) ?_
    simp [v_wa]
    refine xcall_fn (c_CheckCode ⟨25, [], 16, []⟩ (ok_leaf _ _ _ (by decide) (by simp) (by decide)) (by decide)) (by simp) ?_
    simp [v_sl]
    refine xcall_fn (c_Const 2 7) (by simp) ?_
    rw [v_cn]
    simp
    refine xcall_fn (c_Same ⟨2, [], 1, []⟩ (ok_leaf _ _ _ (by decide) (by simp) (by decide)) ⟨2, [], 1, []⟩) (by simp) ?_
    simp [sameB_self]
    refine vc_sound h.mo _ _ _ (by kernel_rfl) ?_
    simp
end Go.Proofs.Ytnfjdpnkkmflbaa
