/- Chapter 41: the laws Checks and Differs, over any program that has the text. -/
import Derived.Test.YtacfckmhnnhllaaL1
import Derived.Test.YtacfckmhnnhllaaE9
import Derived.Test.YtacfckmhnnhllaaQ5
namespace Go.Proofs.Ytacfckmhnnhllaa
open Go.AL
variable {P : Program} [h : Facts P]

omit h in
theorem dif_comm : ∀ (a b : List TEvent) (n : Nat), dif a b n = dif b a n
  | [], [], n => rfl
  | [], _ :: _, n => by simp [dif]
  | _ :: _, [], n => by simp [dif]
  | x :: a, y :: b, n => by
    by_cases q : x = y
    · rw [dif_eq q, dif_eq q.symm, dif_comm a b]
    · rw [dif_ne q, dif_ne (fun e => q e.symm)]
theorem difZ_comm (a b : List TEvent) : difZ b a = difZ a b := dif_comm b a 0
theorem sameL_comm (a b : TLog) : sameL b a = sameL a b := by
  unfold sameL
  exact decide_eq_decide.2 ⟨fun ⟨h1, h2⟩ => ⟨h1.symm, h2.symm⟩, fun ⟨h1, h2⟩ => ⟨h1.symm, h2.symm⟩⟩
theorem sameL_self (a : TLog) : sameL a a = true := by simp [sameL]
theorem small_len {l : TLog} (h : smallB l = true) : l.fEvents.length ≤ 5200 ∧ l.fRecs.length ≤ 2000 := by
  simp only [smallB, Bool.and_eq_true, decide_eq_true_eq] at h
  exact ⟨h.1, h.2.1⟩
theorem chk_prj {l : TLog} (s : Int) (h : chkZ l = 0) : chkZ (prjL l s) = 0 := chk_good.2 (prj_good (chk_good.1 h) s)
set_option maxHeartbeats 4000000 in
theorem c_CommitDiffers (a b : TLog) (ha : a.ok) (hb : b.ok) : FCall P 4 [.agg a.cells, .agg b.cells] (fun r => r = .bool true) := by
  refine fcall_ofB [4] h.f4 rfl (by decide) h.mo (by kernel_rfl) fun X hX => ?_
  simp
  refine xcall_fn (c_small a) (by simp) ?_
  cases smallB a
  · simp
    refine xcall_fn c_awake (by simp) ?_
    simp
  simp
  refine xcall_fn (c_small b) (by simp) ?_
  cases smallB b
  · simp
    refine xcall_fn c_awake (by simp) ?_
    simp
  simp
  refine xcall_fn (c_Differ a b ha hb) (by simp) ?_
  simp
  refine awp_quiet [0, 1, 2, 3, 4, 5, 6, 7, 9, 8, 10, 11, 12, 13, 14, 16, 17, 15, 18, 19, 20, 21, 22, 23, 25, 26, 24, 27, 28, 29, 30, 31, 32, 33, 34, 35, 36, 37, 38] _ h.mo (by kernel_rfl) (by decide) (by kernel_rfl) (by rfl) ?_
  simp
  refine ⟨_, c_RDiffer a b ha hb, ?_⟩
  simp
  refine ⟨_, c_Differ b a hb ha, ?_⟩
  simp [difZ_comm]
  refine ⟨_, c_CSame a b ha hb, ?_⟩
  simp
  refine ⟨_, c_RLSame a b ha hb, ?_⟩
  simp
  refine ⟨_, c_CSame b a hb ha, ?_⟩
  simp
  refine ⟨_, c_CSame a b ha hb, ?_⟩
  simp [sameL_comm]
  refine ⟨_, c_CSame a a ha ha, ?_⟩
  simp [sameL_self]
  refine ⟨_, c_awake, ?_⟩
  simp
set_option maxHeartbeats 4000000 in
theorem c_CommitChecks (l : TLog) (s : Int) (hl : l.ok) (_hs : (Lit.int .i64 s).wf = true) : FCall P 3 [.agg l.cells, .int .i64 s] (fun r => r = .bool true) := by
  refine fcall_ofB [5] h.f3 rfl (by decide) h.mo (by kernel_rfl) fun X hX => ?_
  simp
  refine xcall_fn (c_small l) (by simp) ?_
  cases hs' : smallB l
  · simp
    refine xcall_fn c_awake (by simp) ?_
    simp
  obtain ⟨n1, n2⟩ := small_len hs'
  simp
  refine xcall_fn (c_Check l hl) (by simp) ?_
  simp
  refine xcall_fn (c_Project l s (by omega) (by omega)) (by simp) ?_
  have hp := ok_prj hl s
  simp
  refine awp_quiet [0, 1, 2, 3, 4, 5, 6, 7, 8, 9, 10, 11, 12, 13, 14, 15, 16, 17, 18, 19, 20, 21, 22, 23] _ h.mo (by kernel_rfl) (by decide) (by kernel_rfl) (by rfl) ?_
  simp
  refine ⟨_, c_RCheck l hl, ?_⟩
  simp
  refine ⟨_, c_RProject l s (by omega) (by omega), ?_⟩
  simp
  refine ⟨_, c_RLSame (prjL l s) (prjL l s) hp hp, ?_⟩
  simp [sameL_self]
  by_cases q : chkZ l = 0
  · simp [q]
    refine ⟨_, c_Check (prjL l s) hp, ?_⟩
    simp [chk_prj s q]
    refine ⟨_, c_awake, ?_⟩
    simp
  · simp [q]
    refine ⟨_, c_awake, ?_⟩
    simp
end Go.Proofs.Ytacfckmhnnhllaa
