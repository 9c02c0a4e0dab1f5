/- Chapter 10: statements: the chapter's examples, walked, over any program that has the text, given the library's sort. -/
import Derived.Test.YtadllkhmihbfhaaL1
namespace Go.Proofs.Ytadllkhmihbfhaa
open Go.AL
variable {P : Program} [h : Facts P]

set_option maxRecDepth 20000 in
set_option maxHeartbeats 8000000 in
theorem c_awake (hso : SortAt P 33) : FCall P 10 [] (fun r => r = .bool true) := by
  refine fcall_ofA h.f10 rfl (by decide) fun X hX => ?_
  refine awp_seq (vc_sound h.mo _ _ _ (by kernel_rfl) ?_)
  simp
  refine awp_cut (⟨[.bool false, .pto 0 21 0 0, .any, .any, .any, .any, .any, .any, .any, .any, .any, .any, .any, .any, .any, .any, .any, .any, .any, .any, .any, .any, .any, .any, .any, .any, .any, .any, .any, .any, .any, .any, .any, .any, .any, .any, .any, .any, .any, .any, .any, .any, .any, .any, .any, .any, .any, .any, .any, .any, .any, .any, .any, .any, .any, .any, .any, .any, .any, .any, .any, .any, .any, .any, .any, .any, .any, .any, .any, .any, .any, .any, .any, .any, .any, .any, .any, .any, .any, .any, .any, .any, .any, .any, .any, .any, .any, .any, .any, .any, .any, .any, .any, .any, .any, .any, .any, .any], [⟨47, 21, [.agg sHold.cells], 0, true⟩]⟩ : S) (vc_sound h.mo _ _ _ (by kernel_rfl) ?_) ?_
  case refine_1 =>
    simp
    refine xcall_fn (c_number 5) (by simp) ?_
    simp [nE]
    exact (Wk.fzS 0 (by rfl) rfl (by simp)).trans (Wk.ren 0 [1] hX rfl (by decide) (by simp) (by simp) (by simp) (by simp [sHold, durE, nE, zE, zD, Ls]))
  refine awp_cut (⟨[.bool false, .pto 0 21 0 0, .pto 1 21 0 0, .any, .any, .any, .any, .any, .any, .any, .any, .any, .any, .any, .any, .any, .any, .any, .any, .any, .any, .any, .any, .any, .any, .any, .any, .any, .any, .any, .any, .any, .any, .any, .any, .any, .any, .any, .any, .any, .any, .any, .any, .any, .any, .any, .any, .any, .any, .any, .any, .any, .any, .any, .any, .any, .any, .any, .any, .any, .any, .any, .any, .any, .any, .any, .any, .any, .any, .any, .any, .any, .any, .any, .any, .any, .any, .any, .any, .any, .any, .any, .any, .any, .any, .any, .any, .any, .any, .any, .any, .any, .any, .any, .any, .any, .any, .any], [⟨47, 21, [.agg sHold.cells], 0, true⟩, ⟨47, 21, [.agg sSeize.cells], 0, true⟩]⟩ : S) (vc_sound h.mo _ _ _ (by kernel_rfl) ?_) ?_
  case refine_1 =>
    simp
    refine xcall_fn (c_number 1) (by simp) ?_
    simp
    refine xcall_fn (c_number 2) (by simp) ?_
    simp [nE]
    exact Wk.ren 0 [0, 1] hX rfl (by decide) (by simp) (by simp) (by simp) (by simp [sHold, sSeize, durE, nE, zE, zD, deskT, Ls])
  refine awp_seq (vc_sound h.mo _ _ _ (by kernel_rfl) ?_)
  simp
  refine awp_cut (⟨[.bool false, .pto 0 21 0 0, .pto 1 21 0 0, .pto 2 21 0 0, .any, .any, .any, .any, .any, .any, .any, .any, .any, .any, .any, .any, .any, .any, .any, .any, .any, .any, .any, .any, .any, .any, .any, .any, .any, .any, .any, .any, .any, .any, .any, .any, .any, .any, .any, .any, .any, .any, .any, .any, .any, .any, .any, .any, .any, .any, .any, .any, .any, .any, .any, .any, .any, .any, .any, .any, .any, .any, .any, .any, .any, .any, .any, .any, .any, .any, .any, .any, .any, .any, .any, .any, .any, .any, .any, .any, .any, .any, .any, .any, .any, .any, .any, .any, .any, .any, .any, .any, .any, .any, .any, .any, .any, .any], [⟨47, 21, [.agg sHold.cells], 0, true⟩, ⟨47, 21, [.agg sSeize.cells], 0, true⟩, ⟨47, 21, [.agg sOdd.cells], 0, true⟩]⟩ : S) (vc_sound h.mo _ _ _ (by kernel_rfl) ?_) ?_
  case refine_1 =>
    simp
    exact Wk.ren 0 [0, 1, 2] hX rfl (by decide) (by simp) (by simp) (by simp) (by simp [sHold, sSeize, sOdd, durE, nE, zE, zD, deskT, Ls])
  refine awp_cut (⟨[.bool false, .pto 0 21 0 0, .pto 1 21 0 0, .pto 2 21 0 0, .pto 3 21 0 0, .any, .any, .any, .any, .any, .any, .any, .any, .any, .any, .any, .any, .any, .any, .any, .any, .any, .any, .any, .any, .any, .any, .any, .any, .any, .any, .any, .any, .any, .any, .any, .any, .any, .any, .any, .any, .any, .any, .any, .any, .any, .any, .any, .any, .any, .any, .any, .any, .any, .any, .any, .any, .any, .any, .any, .any, .any, .any, .any, .any, .any, .any, .any, .any, .any, .any, .any, .any, .any, .any, .any, .any, .any, .any, .any, .any, .any, .any, .any, .any, .any, .any, .any, .any, .any, .any, .any, .any, .any, .any, .any, .any, .any], [⟨47, 21, [.agg sHold.cells], 0, true⟩, ⟨47, 21, [.agg sSeize.cells], 0, true⟩, ⟨47, 21, [.agg sOdd.cells], 0, true⟩, ⟨47, 21, [.agg sSend.cells], 0, true⟩]⟩ : S) (vc_sound h.mo _ _ _ (by kernel_rfl) ?_) ?_
  case refine_1 =>
    simp
    refine xcall_fn (c_number 2) (by simp) ?_
    simp [nE]
    exact (Wk.fzS 3 (by rfl) rfl (by simp)).trans (Wk.ren 0 [0, 1, 2, 4] hX rfl (by decide) (by simp) (by simp) (by simp) (by simp [sHold, sSeize, sOdd, sSend, durE, nE, zE, zD, deskT, boxT, packT, Ls]))
  refine awp_cut (⟨[.bool false, .any, .any, .pto 0 21 0 0, .pto 1 21 0 0, Ls false [sSeize, sHold], .any, .any, .any, .any, .any, .any, .any, .any, .any, .any, .any, .any, .any, .any, .any, .any, .any, .any, .any, .any, .any, .any, .any, .any, .any, .any, .any, .any, .any, .any, .any, .any, .any, .any, .any, .any, .any, .any, .any, .any, .any, .any, .any, .any, .any, .any, .any, .any, .any, .any, .any, .any, .any, .any, .any, .any, .any, .any, .any, .any, .any, .any, .any, .any, .any, .any, .any, .any, .any, .any, .any, .any, .any, .any, .any, .any, .any, .any, .any, .any, .any, .any, .any, .any, .any, .any, .any, .any, .any, .any, .any, .any], [⟨47, 21, [.agg sOdd.cells], 0, true⟩, ⟨47, 21, [.agg sSend.cells], 0, true⟩]⟩ : S) (vc_sound h.mo _ _ _ (by kernel_rfl) ?_) ?_
  case refine_1 =>
    simp
    exact (Wk.fzS 4 (by rfl) rfl (by simp)).trans (Wk.ren 0 [2, 3] hX rfl (by decide) (by simp [Ls]) (by simp) (by simp) (by simp))
  refine awp_cut (⟨[.bool false, .any, .any, .pto 0 21 0 0, .any, Ls false [sSeize, sHold], Ls false [sIf], .any, .any, .any, .any, .any, .any, .any, .any, .any, .any, .any, .any, .any, .any, .any, .any, .any, .any, .any, .any, .any, .any, .any, .any, .any, .any, .any, .any, .any, .any, .any, .any, .any, .any, .any, .any, .any, .any, .any, .any, .any, .any, .any, .any, .any, .any, .any, .any, .any, .any, .any, .any, .any, .any, .any, .any, .any, .any, .any, .any, .any, .any, .any, .any, .any, .any, .any, .any, .any, .any, .any, .any, .any, .any, .any, .any, .any, .any, .any, .any, .any, .any, .any, .any, .any, .any, .any, .any, .any, .any, .any], [⟨47, 21, [.agg sOdd.cells], 0, true⟩]⟩ : S) (vc_sound h.mo _ _ _ (by kernel_rfl) ?_) ?_
  case refine_1 =>
    simp
    refine (Wk.fzS 2 (by rfl) rfl (by simp)).trans ((Wk.ren 0 [0, 3] hX rfl (by decide) (by simp) (by simp) (by simp) (by simp [sIf, zE, zD, Ls]) : Wk P X _ (⟨[.bool false, .any, .any, .pto 0 21 0 0, .any, Ls false [sSeize, sHold], .own 1 0 1 1 true, .any, .any, .any, .any, .any, .any, .any, .any, .any, .any, .any, .any, .any, .any, .any, .any, .any, .any, .any, .any, .any, .any, .any, .any, .any, .any, .any, .any, .any, .any, .any, .any, .any, .any, .any, .any, .any, .any, .any, .any, .any, .any, .any, .any, .any, .any, .any, .any, .any, .any, .any, .any, .any, .any, .any, .any, .any, .any, .any, .any, .any, .any, .any, .any, .any, .any, .any, .any, .any, .any, .any, .any, .any, .any, .any, .any, .any, .any, .any, .any, .any, .any, .any, .any, .any, .any, .any, .any, .any, .any, .any], [⟨47, 21, [.agg sOdd.cells], 0, true⟩, ⟨47, 21, [.agg sIf.cells], 0, true⟩]⟩ : S)).trans ?_)
    exact (Wk.fzS 1 (by rfl) rfl (by simp)).trans (Wk.ren 0 [0] hX rfl (by decide) (by simp [Ls]) (by simp) (by simp) (by simp))
  refine awp_cut (⟨[.bool false, .any, .any, .pto 0 21 0 0, .any, Ls false [sSeize, sHold], Ls false [sIf], Ls false [(⟨packT, boxT⟩ : TPair)], Ls false [deskT], .any, .any, .any, .any, .any, .any, .any, .any, .any, .any, .any, .any, .any, .any, .any, .any, .any, .any, .any, .any, .any, .any, .any, .any, .any, .any, .any, .any, .any, .any, .any, .any, .any, .any, .any, .any, .any, .any, .any, .any, .any, .any, .any, .any, .any, .any, .any, .any, .any, .any, .any, .any, .any, .any, .any, .any, .any, .any, .any, .any, .any, .any, .any, .any, .any, .any, .any, .any, .any, .any, .any, .any, .any, .any, .any, .any, .any, .any, .any, .any, .any, .any, .any, .any, .any, .any, .any, .any, .any], [⟨47, 21, [.agg sOdd.cells], 0, true⟩]⟩ : S) (vc_sound h.mo _ _ _ (by kernel_rfl) ?_) ?_
  case refine_1 =>
    simp
    refine xcall_fn (c_Targets [sIf] (by simp) (by simp [ok_sIf]) (by decide)) (by simp) ?_
    rw [v_tg]
    simp
    refine xcall_fn (c_Uses hso [sIf] (by simp) (by simp [ok_sIf]) (by decide)) (by simp) ?_
    rw [v_us]
    simp
    exact Wk.ren 0 [0] hX rfl (by decide) (by simp) (by simp) (by simp) (by simp)
  refine vc_sound h.mo _ _ _ (by kernel_rfl) ?_
  simp
  refine xcall_fn (c_SCheck [sSeize, sHold] (by simp) (by simp [ok_sSeize, ok_sHold])) (by simp) ?_
  rw [k_l]
  simp
  refine xcall_fn (c_SCheck [sIf] (by simp) (by simp [ok_sIf])) (by simp) ?_
  rw [k_in]
  simp
  refine xcall_fn (c_SCheck [sOdd] (by simp) (by simp [ok_sOdd])) (by simp [Ls]) ?_
  rw [k_odd]
  simp
  refine xcall_fn (c_number 1) (by simp) ?_
  simp
  refine xcall_fn (c_SCheck [sRel] (by simp) (by simp [ok_sRel])) (by simp [Ls, sRel, nE, zE, zD]) ?_
  rw [k_rel]
  simp
  refine xcall_fn (c_Count [sIf] (by simp) (by simp [ok_sIf])) (by simp) ?_
  rw [v_cnt]
  simp
  refine xcall_fn (c_SDepth [sIf] (by simp) (by simp [ok_sIf])) (by simp) ?_
  rw [v_dep]
  simp [packT, boxT, deskT]
  refine xcall_fn (c_SSame [sSeize, sHold] (by simp) (by simp [ok_sSeize, ok_sHold]) [sSeize, sHold]) (by simp) ?_
  rw [eqB_yes rfl]
  simp
  refine xcall_fn (c_SSame [sSeize, sHold] (by simp) (by simp [ok_sSeize, ok_sHold]) [sIf]) (by simp) ?_
  rw [eqB_no (by simp)]
  simp
end Go.Proofs.Ytadllkhmihbfhaa
