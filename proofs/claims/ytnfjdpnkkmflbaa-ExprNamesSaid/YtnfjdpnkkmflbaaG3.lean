/- Chapter 09: expressions: the laws Same and Names, over any program that has the text, given the library's sort. -/
import Derived.Test.YtnfjdpnkkmflbaaG1
namespace Go.Proofs.Ytnfjdpnkkmflbaa
open Go.AL
variable {P : Program} [h : Facts P]

theorem sameB_comm (a b : TExpr) : sameB a b = sameB b a := by
  by_cases q : a = b
  · rw [q]
  · rw [sameB_no q, sameB_no fun z => q z.symm]
set_option maxHeartbeats 4000000 in
theorem c_ExprSame (hso : SortAt P 39) (a b : TExpr) (ha : a.ok) (hb : b.ok) : FCall P 5 [.agg a.cells, .agg b.cells] (fun r => r = .bool true) := by
  refine fcall_ofB [6] h.f5 rfl (by decide) h.mo (by kernel_rfl) fun X hX => ?_
  simp
  refine xcall_fn (c_few a ha) (by simp) ?_
  cases hf : fewB a
  · simp
    refine xcall_fn (c_awake hso) (by simp) ?_
    simp
  simp
  refine xcall_fn (c_few b hb) (by simp) ?_
  cases hg : fewB b
  · simp
    refine xcall_fn (c_awake hso) (by simp) ?_
    simp
  have hca := (fewB_cnt hf).1
  have hcb := (fewB_cnt hg).1
  simp
  refine xcall_fn (c_Same a ha b) (by simp) ?_
  simp
  refine xcall_fn (c_RSame a ha b) (by simp) ?_
  simp
  refine xcall_fn (c_Same a ha a) (by simp) ?_
  simp [sameB_self]
  refine xcall_fn (c_Same b hb a) (by simp) ?_
  rw [sameB_comm b a]
  simp
  refine awp_quiet [0, 1, 2, 3, 5, 4, 6, 7, 8, 9, 11, 10, 12, 13, 14, 15, 16, 18, 17, 19, 20, 21, 22, 23, 24, 25, 26] _ h.mo (by kernel_rfl) (by decide) (by kernel_rfl) (by rfl) ?_
  by_cases q : a = b
  · subst q
    simp [sameB_self]
    refine ⟨_, c_Check a ha (by omega), ?_⟩
    simp
    refine ⟨_, c_Check a ha (by omega), ?_⟩
    simp
    refine ⟨_, c_CheckCode a ha (by omega), ?_⟩
    simp
    refine ⟨_, c_CheckCode a ha (by omega), ?_⟩
    simp
    refine ⟨_, c_Names hso a ha (by omega), ?_⟩
    simp
    refine ⟨_, c_Names hso a ha (by omega), ?_⟩
    simp
    refine ⟨_, c_SameTexts (namesZ a) (namesZ a) (by have := names_len a; omega), ?_⟩
    simp
    refine ⟨_, c_awake hso, ?_⟩
    simp
  · simp [sameB_no q]
    refine ⟨_, c_awake hso, ?_⟩
    simp
theorem name_len {s : List UInt8} (hs : nameE s = 0) : s.length ≤ 24 := by
  unfold nameE at hs
  split at hs
  · rename_i q
    simp only [nameB, headB, Bool.and_eq_true, decide_eq_true_eq] at q
    exact q.1.1.1
  · omega
theorem names_len24 {e : TExpr} : ∀ x ∈ namesZ e, x.length ≤ 24 := by
  intro x hx
  unfold namesZ at hx
  split at hx
  · rename_i h0
    rw [insL_mem] at hx
    rcases hx with hx | hx
    · cases hx
    · exact name_len (nm_ok e (chk_zero h0).2.2 x hx)
  · cases hx
set_option maxHeartbeats 4000000 in
theorem c_ExprNames (hso : SortAt P 39) (e : TExpr) (hok : e.ok) : FCall P 6 [.agg e.cells] (fun r => r = .bool true) := by
  refine fcall_ofB [7] h.f6 rfl (by decide) h.mo (by kernel_rfl) fun X hX => ?_
  simp
  refine xcall_fn (c_few e hok) (by simp) ?_
  cases hf : fewB e
  · simp
    refine xcall_fn (c_awake hso) (by simp) ?_
    simp
  have hcnt := (fewB_cnt hf).1
  have hnl := names_len e
  have hni := names_incr e
  have hnw := names_word (e := e)
  have hn24 := names_len24 (e := e)
  have hR := c_RNames (P := P) e hok (by omega)
  simp
  refine xcall_fn (c_Names hso e hok (by omega)) (by simp) ?_
  generalize namesZ e = l at *
  simp
  refine awp_loop (σ := Nat) (fun k => (⟨[.any, .pto 0 4 0 0, .bool false, Ls false l, .int .i64 k, .any, .any, .any, .any, .any, .any, .any, .any, .any, .any, .any, .any, .any, .any, .any, .any, .any, .any, .any, .any, .any, .any, .any, .any, .any, .any, .any, .any, .any, .any, .any, .any, .any, .any, .any, .any, .any, .any, .any, .any, .any, .any], [⟨25, 4, [.agg e.cells], 0, true⟩]⟩ : S)) (fun k => k ≤ l.length) (fun k => l.length - k) 0 (Wk.ren 0 [0] hX rfl (by decide) (by simp) (by simp) (by simp) (by simp)) (by omega) ?_
  rintro k hk
  refine vcB_sound [7] h.mo _ _ _ (by kernel_rfl) ?_
  rcases Nat.lt_or_ge k l.length with hlt | hge
  · have hk1 := wrap_succ hlt (by omega)
    have hmem := List.getElem_mem hlt
    have hw0 := hnw l[k] hmem
    have hwo : (wordE l[k]).ok := word_ok (by have := hn24 _ hmem; omega)
    have hwc : cntE (wordE l[k]) ≤ 4000000000000000000 := by simp [wordE, cntE_eq, cntL_nil]
    simp [hlt]
    refine awp_quiet [0, 1, 2, 3, 4, 5, 6, 7, 8, 9, 10, 11, 12, 13, 14, 15, 16, 17, 18, 19, 20, 21, 22] _ h.mo (by kernel_rfl) (by decide) (by kernel_rfl) (by rfl) ?_
    by_cases k0 : k = 0
    · subst k0
      simp [hlt]
      refine ⟨_, c_word _, ?_⟩
      simp
      refine ⟨_, c_Check _ hwo hwc, ?_⟩
      simp [hw0]
      exact ⟨1, Wk.ren 0 [0] hX rfl (by decide) (by simp) (by simp) (by simp) (by simp), by omega, by omega⟩
    · obtain ⟨j, rfl⟩ : ∃ j, k = j + 1 := ⟨k - 1, by omega⟩
      have hjl : j < l.length := by omega
      have hk1' : IntKind.i64.wrap ((j : Int) + 1 + 1) = (j : Int) + 2 := by simp at hk1; rw [hk1]; omega
      have hwj := wrap_nat hjl (by omega)
      have hlj : Op.bytesLess l[j] l[j + 1] = true := by rw [less_eq]; exact decide_eq_true (List.pairwise_iff_getElem.1 hni j (j + 1) hjl hlt (by omega))
      have h0j' : (0 : Int) < (j : Int) + 1 := by omega
      simp [hlt, h0j', hwj, hjl, hlj]
      refine ⟨by omega, ?_⟩
      refine ⟨_, c_word _, ?_⟩
      simp
      refine ⟨_, c_Check _ hwo hwc, ?_⟩
      simp [hw0]
      exact ⟨j + 2, Wk.ren 0 [0] hX rfl (by decide) (by simp [hk1']) (by simp) (by simp) (by simp), by omega, by omega⟩
  · have hkl : k = l.length := by omega
    subst hkl
    simp
    refine xcall_fn hR (by simp) ?_
    simp
    refine xcall_fn (c_SameTexts l l (by omega)) (by simp) ?_
    simp
    refine xcall_fn (c_awake hso) (by simp) ?_
    simp
end Go.Proofs.Ytnfjdpnkkmflbaa
