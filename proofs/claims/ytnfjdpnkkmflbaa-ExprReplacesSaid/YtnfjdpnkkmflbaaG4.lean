/- Chapter 09: expressions: the law Replaces, over any program that has the text, given the library's sort. -/
import Derived.Test.YtnfjdpnkkmflbaaG1
namespace Go.Proofs.Ytnfjdpnkkmflbaa
open Go.AL
variable {P : Program} [h : Facts P]

theorem rep_self_chk {s : List UInt8} {e : TExpr} (h0 : chkE false e = 0) : repE s (wordE s) e = e := rep_self e (chk_zero h0).2.2
set_option maxHeartbeats 4000000 in
theorem c_ExprReplaces (hso : SortAt P 39) (e : TExpr) (s : List UInt8) (y : TExpr) (hok : e.ok) (hs : s.length ≤ 9223372036854775807) (hy : y.ok) : FCall P 7 [.agg e.cells, .str s, .agg y.cells] (fun r => r = .bool true) := by
  refine fcall_ofA h.f7 rfl (by decide) fun X hX => ?_
  refine awp_seq (vc_sound h.mo _ _ _ (by kernel_rfl) ?_)
  simp
  refine awp_seq (vc_sound h.mo _ _ _ (by kernel_rfl) ?_)
  simp
  refine xcall_fn (c_few e hok) (by simp) ?_
  cases hf : fewB e
  · simp
    refine xcall_fn (c_awake hso) (by simp) ?_
    simp
  simp
  refine xcall_fn (c_few y hy) (by simp) ?_
  cases hg : fewB y
  · simp
    refine xcall_fn (c_awake hso) (by simp) ?_
    simp
  have hca := (fewB_cnt hf).1
  have hcb := (fewB_cnt hg).1
  have hrs := rep_same (s := []) (y := wordE []) e
  simp
  refine awp_cut (⟨[.any, .str s, .any, .ptr (.agg (e : TExpr).cells), .any, .ptr (.agg (y : TExpr).cells), .bool false, .ptr (.agg (repE [] (wordE []) e : TExpr).cells), .any, .any, .any, .any, .any, .any, .any, .any, .any, .any, .any, .any, .any, .any, .any, .any, .any, .any, .any, .any, .any, .any, .any, .any, .any, .any, .any, .any, .any, .any, .any, .any, .any, .any, .any, .any, .any, .any, .any, .any, .any, .any, .any, .any, .any, .any, .any, .any, .any, .any], []⟩ : S) ?_ ?_
  case refine_1 =>
    refine awp_fz 0 (by rfl) (by simp) ?_
    refine awp_fz 1 (by rfl) (by simp) ?_
    simp
    refine awp_tree (.take 0 (.alt 1 (.alt 2 (.alt 3 (.alt 4 .done .stop) .stop) (.alt 3 (.alt 2 (.alt 4 .done .stop) .stop) .stop)) (.alt 3 (.alt 1 (.alt 2 (.alt 4 .done .stop) .stop) .stop) .stop))) _ h.mo (by kernel_rfl) (by decide) (by kernel_rfl) (by rfl) ?_
    simp
    repeat' (first | (with_reducible apply And.intro) | (refine xcall_fn (c_word []) (by simp) ?_; simp) | (refine xcall_fn (c_RReplace [] (wordE []) e hok (by omega)) (by simp) ?_; simp))
    all_goals exact (Wk.fz 2 _ _ _ _ (by rfl) (by simp)).trans (Wk.ren 0 [] hX rfl (by decide) (by simp) (by simp) (by simp) (by simp))
  refine awp_seq (vc_sound h.mo _ _ _ (by kernel_rfl) ?_)
  simp
  refine xcall_fn (c_Replace s y e hok (by omega)) (by simp) ?_
  simp
  have hrok := rep_ok (s := s) hy e hok
  have hRS := c_RSame (P := P) e hok (repE [] (wordE []) e)
  have hT := c_times (P := P) [] e hok (by omega)
  generalize repE [] (wordE []) e = o at *
  refine awp_seq (awp_seq (awp_quiet [0, 1, 2, 3, 4, 5, 6, 7, 8, 9, 10, 11, 12, 13, 14, 15, 16, 17] _ h.mo (by kernel_rfl) (by decide) (by kernel_rfl) (by rfl) ?_))
  simp
  refine ⟨_, c_RReplace s y e hok (by omega), ?_⟩
  simp
  refine ⟨_, c_Same _ hrok _, ?_⟩
  simp [sameB_self]
  refine ⟨_, hRS, ?_⟩
  have key : sameB e o = true ∨ (sameB e o = false ∧ timE [] e ≠ 0) := by
    by_cases q : timE [] e = 0
    · left; rw [hrs q]; exact sameB_self e
    · cases z : sameB e o
      · exact .inr ⟨rfl, q⟩
      · exact .inl rfl
  generalize sameB e o = sb at *
  rcases key with rfl | ⟨rfl, ht⟩
  case' inl => simp
  case' inr =>
    simp
    refine ⟨_, hT, ?_⟩
    have ht' : ¬ ((timE [] e : Nat) : Int) = 0 := by omega
    simp [ht, ht']
  all_goals
    refine vcB_sound [7] h.mo _ _ _ (by kernel_rfl) ?_
    simp
    refine vcB_sound [7] h.mo _ _ _ (by kernel_rfl) ?_
    simp
    refine awp_quiet [0, 1, 2, 3, 4, 5, 6, 9, 7, 8, 10, 11, 12, 13, 14, 15] _ h.mo (by kernel_rfl) (by decide) (by kernel_rfl) (by rfl) ?_
    simp
    refine ⟨_, c_Check e hok (by omega), ?_⟩
    by_cases h0 : chkE false e = 0
    · have hrs2 := rep_self_chk (s := s) h0
      simp [h0]
      refine ⟨_, c_word s, ?_⟩
      simp
      refine ⟨_, c_Replace s (wordE s) e hok (by omega), ?_⟩
      rw [hrs2]
      simp
      refine ⟨_, c_Same e hok e, ?_⟩
      simp [sameB_self]
      refine ⟨_, c_awake hso, ?_⟩
      simp
    · simp [h0]
      refine ⟨_, c_awake hso, ?_⟩
      simp
end Go.Proofs.Ytnfjdpnkkmflbaa
