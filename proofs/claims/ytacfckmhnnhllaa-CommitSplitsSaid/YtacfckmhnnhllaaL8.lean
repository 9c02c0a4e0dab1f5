/- Chapter 41: the law Projects, over any program that has the text. -/
import Derived.Test.YtacfckmhnnhllaaL7
namespace Go.Proofs.Ytacfckmhnnhllaa
open Go.AL
variable {P : Program} [h : Facts P]

theorem few_one {l : TLog} (h : fewB [l] = true) : l.fEvents.length ≤ 400 ∧ l.fRecs.length ≤ 400 := by
  simp only [fewB, fewA, Bool.and_eq_true, decide_eq_true_eq, List.all_cons, List.all_nil] at h
  exact ⟨h.2.1.2.1, h.2.1.2.2⟩
theorem parts_succ (l : TLog) (f k : Nat) : partsL l f (k + 1) = partsL l f k ++ [prjL l (((k + f) % 16 : Nat) : Int)] := by
  simp [partsL, List.range_succ]
theorem parts_evs (l : TLog) (f k : Nat) : (evA (partsL l f (k + 1))).length = (evA (partsL l f k)).length + (prjL l (((k + f) % 16 : Nat) : Int)).fEvents.length := by
  rw [parts_succ]
  simp [evA]
theorem parts_bnd (l : TLog) (f : Nat) : ∀ k, (evA (partsL l f k)).length ≤ k * l.fEvents.length
  | 0 => by simp [partsL, evA]
  | k + 1 => by
    have h1 := parts_bnd l f k
    have h2 : (prjL l (((k + f) % 16 : Nat) : Int)).fEvents.length ≤ l.fEvents.length := List.length_filter_le ..
    rw [parts_evs, Nat.succ_mul]
    omega
theorem site_of {k f : Nat} (hk : k < 16) (hf : f < 256) : (IntKind.i64.wrap ((k : Int) + IntKind.i64.wrap (f : Int))).tmod 16 = (((k + f) % 16 : Nat) : Int) := by
  rw [i64_id (n := (f : Int)) (by omega) (by omega), i64_id (by omega) (by omega), Int.tmod_eq_emod_of_nonneg (by omega)]
  omega
set_option maxHeartbeats 4000000 in
theorem c_CommitProjects (l : TLog) (f : Nat) (hok : l.ok) (hf : f < 256) : FCall P 8 [.agg l.cells, .int .u8 f] (fun r => r = .bool true) := by
  refine fcall_ofA h.f8 rfl (by decide) fun X hX => ?_
  refine awp_seq (vc_sound h.mo _ _ _ (by kernel_rfl) ?_)
  simp
  refine awp_fz 0 (by rfl) (by simp) ?_
  simp
  refine awp_cut2 (⟨[.any, .int .u8 f, .ptr (.agg l.cells), .any, .bool false, .any, .any, .any, .any, .any, .any, .any, .any, .any, .any, .any, .any, .any, .any, .any, .any, .any, .any, .any, .any, .any, .any, .any, .any, .any, .any, .any, .any, .any, .any, .any, .any, .any, .any, .any, .any, .any, .any, .any, .any, .any, .any, .any, .any, .any, .any, .any, .any, .any, .any, .any, .any, .any, .any, .any, .any, .any, .any], []⟩ : S) (fewB [l] = true ∧ chkZ l = 0) (vc_sound h.mo _ _ _ (by kernel_rfl) ?_) ?_
  case refine_1 =>
    simp
    refine xcall_fn (c_few [l]) (by simp) ?_
    cases hfw : fewB [l]
    · simp
      refine xcall_fn c_awake (by simp) ?_
      simp
    simp
    refine xcall_fn (c_Check l hok) (by simp) ?_
    by_cases q : chkZ l = 0
    · simp [q]
      exact Wk.ren 0 [] hX rfl (by decide) (by simp) (by simp) (by simp) (by simp)
    · simp [q]
      refine xcall_fn c_awake (by simp) ?_
      simp
  rintro ⟨hfw, hz⟩
  obtain ⟨n1, n2⟩ := few_one hfw
  refine vc_sound h.mo _ _ _ (by kernel_rfl) ?_
  simp
  refine awp_loop (σ := Nat) (fun k => (⟨[.any, .int .u8 f, .ptr (.agg l.cells), .any, .bool false, B 0 (partsL l f k), .int .i64 (evA (partsL l f k)).length, .int .i64 k, .any, .any, .any, .any, .any, .any, .any, .any, .any, .any, .any, .any, .any, .any, .any, .any, .any, .any, .any, .any, .any, .any, .any, .any, .any, .any, .any, .any, .any, .any, .any, .any, .any, .any, .any, .any, .any, .any, .any, .any, .any, .any, .any, .any, .any, .any, .any, .any, .any, .any, .any, .any, .any, .any, .any], [RW 25 (partsL l f k)]⟩ : S)) (fun k => k ≤ 16) (fun k => 16 - k) 0 (Wk.ren 0 [0] hX rfl (by decide) (by simp [partsL, evA]) (by simp) (by simp) (by simp [partsL])) (by omega) ?_
  rintro k hk
  refine vc_sound h.mo _ _ _ (by kernel_rfl) ?_
  rcases Nat.lt_or_ge k 16 with hlt | hge
  · have hk1 := wrap_succ hlt (by omega)
    have hki : (k : Int) < 16 := by omega
    have hst := site_of hlt hf
    have hb := parts_bnd l f k
    have hbm : k * l.fEvents.length ≤ 16 * 400 := Nat.mul_le_mul (by omega) n1
    have hpe : (prjL l (((k + f) % 16 : Nat) : Int)).fEvents.length ≤ l.fEvents.length := List.length_filter_le ..
    have hes := parts_evs l f k
    have hsu := parts_succ l f k
    have hln : (partsL l f k).length = k := by simp [partsL]
    have hcp := c_Project (P := P) l (((k + f) % 16 : Nat) : Int) (by omega) (by omega)
    have hwl : IntKind.i64.wrap (((evA (partsL l f k)).length : Int) + ((prjL l (((k + f) % 16 : Nat) : Int)).fEvents.length : Int)) = ((evA (partsL l f (k + 1))).length : Int) := by
      rw [hes, i64_id (by omega) (by omega)]
      omega
    push_cast at hst hpe hes hsu hcp hwl
    simp [hki, hst]
    refine xcall_fn hcp (by simp) ?_
    simp
    exact ⟨⟨by omega, by omega⟩, k + 1, Wk.ren 0 [3] hX rfl (by decide) (by simp [hk1, hwl, hsu, hln]) (by simp) (by simp) (by simp [hsu]), by omega, by omega⟩
  · have hkl : k = 16 := by omega
    subst hkl
    have hgl := chk_good.1 hz
    have hm := c_Merge (P := P) (partsL l f 16) (by simp [partsL]) (fun x hx => by
      obtain ⟨i, _, rfl⟩ := List.mem_map.1 hx
      exact ok_prj hok _)
    rw [parts_merge hgl] at hm
    rw [(parts_len hgl f).1]
    simp
    refine xcall_fn hm (by simp) ?_
    simp
    refine xcall_fn (c_RLSame l l hok hok) (by simp) ?_
    simp [sameL_self]
    refine xcall_fn c_awake (by simp) ?_
    simp
theorem wf_u8 {n : Int} (h : (Lit.int .u8 n).wf = true) : 0 ≤ n ∧ n ≤ 255 := by
  simp only [Lit.wf, Bool.and_eq_true, decide_eq_true_eq] at h
  exact h
theorem c_CommitProjectsZ (l : TLog) (f : Int) (hok : l.ok) (hf : (Lit.int .u8 f).wf = true) : FCall P 8 [.agg l.cells, .int .u8 f] (fun r => r = .bool true) := by
  obtain ⟨h1, h2⟩ := wf_u8 hf
  have e : f = (f.toNat : Int) := by omega
  rw [e]
  exact c_CommitProjects l f.toNat hok (by omega)
end Go.Proofs.Ytacfckmhnnhllaa
