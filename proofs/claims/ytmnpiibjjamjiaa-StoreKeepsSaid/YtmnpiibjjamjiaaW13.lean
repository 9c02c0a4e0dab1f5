/- Chapter 21: stores: the law StoreKeeps, over any program that has the text. -/
import Derived.Test.YtmnpiibjjamjiaaQ2
namespace Go.Proofs.Ytmnpiibjjamjiaa
open Go.AL
variable {P : Program} [h : Facts P]

def cntS (s : TStore) : Int := (s.fItems.length + s.fPutters.length : Nat)
/-- The state between the calls. -/
def keepI (l : List TAct) (k : Nat) (s : TStore) : S := (⟨[.any, .any, .any, .any, .any, .any, .any, .pto 0 7 0 0, .any, .int .i64 (tot s), .int .i64 (cntS s), .any, .any, .any, .any, .any, .any, .any, .any, .any, .any, .any, .any, .any, .any, .any, .any, .any, .any, .any, .any, .any, .any, .any, .any, .any, .any, .any, .any, .any, .any, .any, Ls false l, .int .i64 l.length, .int .i64 k, .any, .any, .any, .any, .any, .any, .any, .any, .any, .any, .any, .any, .any, .any, .any, .any, .any, .any, .any, .any, .any, .any, .any, .any, .any, .any, .any, .any, .any, .any, .any, .any, .any, .any, .any, .any, .any, .any, .any, .any, .any, .any, .any, .any, .any, .any, .any, .any, .any, .any, .any, .any, .any, .any, .any, .any, .any, .any, .any, .any, .any, .any, .any, .any, .any, .any, .any, .any, .any, .any, .any, .any, .any, .any, .any, .any, .any, .any, .any, .any, .any, .any, .any, .any, .any, .any, .any, .any, .any, .any, .any, .any, .any, .any, .any, .any, .any, .any, .any, .any, .any, .any, .any, .any, .any, .any, .any, .any, .any, .any, .any, .any, .any, .any, .any, .any, .any, .any, .any, .any, .any, .any, .any, .any, .any, .any, .any, .any, .any, .any, .any, .any, .any, .any, .any, .any, .any, .any, .any, .any, .any, .any, .any, .any, .any, .any, .any, .any, .any, .any, .any, .any, .any, .any, .any, .any, .any, .any, .any, .any, .any, .any, .any], [⟨26, 7, [.agg s.cells], 0, true⟩]⟩ : S)
def sumK (l : List TReady) : Int := (l.map (·.fItem)).sum
theorem sumK_take (q : TReady → Bool) {l : List TReady} {k : Nat} (hk : k < l.length) : sumK ((l.take (k + 1)).filter q) = (if q l[k] = true then sumK ((l.take k).filter q) + l[k].fItem else sumK ((l.take k).filter q)) ∧ ((l.take (k + 1)).filter q).length = (if q l[k] = true then ((l.take k).filter q).length + 1 else ((l.take k).filter q).length) := by
  rw [filt_take q hk]
  split <;> simp [sumK]
theorem sumK_bound (q : TReady → Bool) (l : List TReady) (hl : l.length ≤ 300) (hin : ∀ r ∈ l, inB r.fItem = true) (k : Nat) : -300000000000000 ≤ sumK ((l.take k).filter q) ∧ sumK ((l.take k).filter q) ≤ 300000000000000 := by
  have h1 := sum_bound (((l.take k).filter q).map (·.fItem)) fun x hx => by
    obtain ⟨r, hr, rfl⟩ := List.mem_map.1 hx
    exact hin r (List.mem_of_mem_take (List.mem_filter.1 hr).1)
  have h2 := filt_take_len q l k
  rw [List.length_map] at h1
  unfold sumK
  omega
theorem sum_take {l : List Int} {k : Nat} (hk : k < l.length) : (l.take (k + 1)).sum = (l.take k).sum + l[k] := by
  rw [List.take_succ_eq_append_getElem hk, List.sum_append]
  simp
theorem sum_take_bound (l : List Int) (hl : l.length ≤ 1300) (hin : ∀ x ∈ l, inB x = true) (k : Nat) : -1300000000000000 ≤ (l.take k).sum ∧ (l.take k).sum ≤ 1300000000000000 := by
  have h1 := sum_bound (l.take k) fun x hx => hin x (List.mem_of_mem_take hx)
  have h2 : (l.take k).length ≤ l.length := by simp; omega
  omega

set_option maxHeartbeats 8000000 in
set_option maxRecDepth 20000 in
theorem c_StoreKeeps (room p : Int) (l : List TAct) (hl : l.length ≤ 9223372036854775807) : FCall P 7 [.int .i64 room, .int .i64 p, Ls false l] (fun r => r = .bool true) := by
  refine fcall_of h.f7 rfl (by decide) h.mo (by kernel_rfl) fun X hX => ?_
  simp
  refine xcall_fn (c_New room p) (by simp) ?_
  by_cases h0 : newE room p = 0
  case neg =>
    simp [h0]
    refine xcall_fn c_awake (by simp) ?_
    simp
  by_cases h1 : l.length ≤ 60
  case neg =>
    have h1' : (60 : Int) < l.length := by omega
    simp [h0, h1']
    refine xcall_fn c_awake (by simp) ?_
    simp
  have h1' : ¬ (60 : Int) < l.length := by omega
  simp [h0, h1']
  have hv0 := V_new h0
  have hi0 : (newS room p).fItems = [] ∧ (newS room p).fPutters = [] := by rw [newS, if_pos h0]; exact ⟨rfl, rfl⟩
  generalize newS room p = s0 at hv0 hi0
  have ht0 : tot s0 = 0 := by simp [tot, pit, hi0.1, hi0.2]
  have hc0 : cntS s0 = 0 := by simp [cntS, hi0.1, hi0.2]
  refine awp_loop (σ := Nat × TStore) (fun q => keepI l q.1 q.2) (fun q => q.1 ≤ l.length ∧ V q.2) (fun q => l.length - q.1) (0, s0) (Wk.ren 0 [0] hX rfl (by decide) (by simp [ht0, hc0]) (by simp) (by simp) (by simp)) ⟨by simp, hv0⟩ ?_
  rintro ⟨k, s⟩ ⟨hk, hv⟩
  simp only at hk hv
  have hs := V_fitS hv
  refine awp_seq (vc_sound h.mo _ _ _ (by kernel_rfl) ?_)
  rcases Nat.lt_or_ge k l.length with hlt | hge
  case inr =>
    have hkl : k = l.length := by omega
    subst hkl
    simp [keepI]
    refine awp_seq (vc_sound h.mo _ _ _ (by kernel_rfl) ?_)
    simp
    refine xcall_fn c_awake (by simp) ?_
    simp
  have hk1 := wrap_succ hlt hl
  obtain ⟨x, hx⟩ : ∃ x, l[k] = x := ⟨_, rfl⟩
  simp [keepI, hlt]
  refine awp_seq (vc_sound h.mo _ _ _ (by kernel_rfl) ?_)
  simp
  refine awp_seq (awp_block (awp_seq (vc_sound h.mo _ _ _ (by kernel_rfl) ?_)))
  simp [hlt, hx]
  refine awp_seq (awp_mono (Q := fun e s' => (e = .normal ∨ e = .exit 1) ∧ ∃ S', V S' ∧ Wk P X s' (keepI l k S')) (vc_sound h.mo _ _ _ (by kernel_rfl) ?_) ?_)
  case refine_2 =>
    rintro e s' ⟨he, s2, hv2, hw⟩
    rcases he with rfl | rfl
    case inr =>
      simp only [thenK_exit, blockK_exit, if_true, thenK_normal]
      refine awp_weaken hw (vc_sound h.mo _ _ _ (by kernel_rfl) ?_)
      simp [keepI]
      exact ⟨k + 1, s2, Wk.ren 0 [0] hX rfl (by decide) (by simp [hk1]) (by simp) (by simp) (by simp), ⟨by omega, hv2⟩, by omega⟩
    have hs2 := V_fitS hv2
    obtain ⟨b1, b2, b3⟩ := V_fit hv2
    have hck := V_iff.2 hv2
    have hbal := hv2.bal
    have hbi := hv2.i
    have hbo := hv2.o
    have hcw : IntKind.i64.wrap (s2.fItems.length + s2.fPutters.length) = cntS s2 := by unfold cntS; rw [i64_id (by omega) (by omega)]; omega
    have hcb : 0 ≤ cntS s2 ∧ cntS s2 ≤ 1300 := by unfold cntS; omega
    have htb := V_tot hv2
    simp only [thenK_normal]
    refine awp_weaken hw (vc_sound h.mo _ _ _ (by kernel_rfl) ?_)
    simp [keepI, hcw]
    refine awp_loop (σ := Nat) (fun j => (⟨[.any, .any, .any, .any, .any, .any, .any, .pto 0 7 0 0, .any, .int .i64 (tot s2), .int .i64 (cntS s2), .any, .any, .any, .any, .any, .any, .any, .any, .any, .any, .any, .any, .any, .int .i64 (s2.fItems.take j).sum, .int .i64 (cntS s2), .int .i64 j, .any, .any, .any, .any, .any, .any, .any, .any, .any, .any, .any, .any, .any, .any, .any, Ls false l, .int .i64 l.length, .int .i64 k, .any, .any, .any, .any, .any, .any, .any, .any, .any, .any, .any, .any, .any, .any, .any, .any, .any, .any, .any, .any, .any, .any, .any, .any, .any, .any, .any, .any, .any, .any, .any, .any, .any, .any, .any, .any, .any, .any, .any, .any, .any, .any, .any, .any, .any, .any, .any, .any, .any, .any, .any, .any, .any, .any, .any, .any, .any, .any, .any, .any, .any, .any, .any, .any, .any, .any, .any, .any, .any, .any, .any, .any, .any, .any, .any, .any, .any, .any, .any, .any, .any, .any, .any, .any, .any, .any, .any, .any, .any, .any, .any, .any, .any, .any, .any, .any, .any, .any, .any, .any, .any, .any, .any, .any, .any, .any, .any, .any, .any, .any, .any, .any, .any, .any, .any, .any, .any, .any, .any, .any, .any, .any, .any, .any, .any, .any, .any, .any, .any, .any, .any, .any, .any, .any, .any, .any, .any, .any, .any, .any, .any, .any, .any, .any, .any, .any, .any, .any, .any, .any, .any, .any, .any, .any, .any, .any, .any, .any, .any, .any, .any, .any, .any], [⟨26, 7, [.agg s2.cells], 0, true⟩]⟩ : S)) (fun j => j ≤ s2.fItems.length) (fun j => s2.fItems.length - j) 0 (Wk.ren 0 [0] hX rfl (by decide) (by simp) (by simp) (by simp) (by simp)) (by omega) ?_
    rintro j hj
    refine vc_sound h.mo _ _ _ (by kernel_rfl) ?_
    rcases Nat.lt_or_ge j s2.fItems.length with hjl | hjg
    · have hj1 := wrap_succ hjl (by omega)
      have hst := sum_take hjl
      have hb := sum_take_bound s2.fItems (by omega) hv2.it (j + 1)
      have hw1 : IntKind.i64.wrap ((s2.fItems.take j).sum + s2.fItems[j]) = (s2.fItems.take (j + 1)).sum := by rw [← hst, i64_id (by omega) (by omega)]
      simp (config := {maxSteps := 4000000}) [hjl, hw1]
      exact ⟨j + 1, Wk.ren 0 [0] hX rfl (by decide) (by simp [hj1]) (by simp) (by simp) (by simp), by omega, by omega⟩
    have hjl : j = s2.fItems.length := by omega
    subst hjl
    simp
    have htot : tot s2 = s2.fItems.sum + sumK (s2.fPutters.take s2.fPutters.length) := by rw [List.take_length, tot, List.sum_append]; rfl
    refine awp_loop (σ := Nat) (fun j => (⟨[.any, .any, .any, .any, .any, .any, .any, .pto 0 7 0 0, .any, .int .i64 (tot s2), .int .i64 (cntS s2), .any, .any, .any, .any, .any, .any, .any, .any, .any, .any, .any, .any, .any, .int .i64 (s2.fItems.sum + sumK (s2.fPutters.take j)), .int .i64 (cntS s2), .any, .int .i64 j, .any, .any, .any, .any, .any, .any, .any, .any, .any, .any, .any, .any, .any, .any, Ls false l, .int .i64 l.length, .int .i64 k, .any, .any, .any, .any, .any, .any, .any, .any, .any, .any, .any, .any, .any, .any, .any, .any, .any, .any, .any, .any, .any, .any, .any, .any, .any, .any, .any, .any, .any, .any, .any, .any, .any, .any, .any, .any, .any, .any, .any, .any, .any, .any, .any, .any, .any, .any, .any, .any, .any, .any, .any, .any, .any, .any, .any, .any, .any, .any, .any, .any, .any, .any, .any, .any, .any, .any, .any, .any, .any, .any, .any, .any, .any, .any, .any, .any, .any, .any, .any, .any, .any, .any, .any, .any, .any, .any, .any, .any, .any, .any, .any, .any, .any, .any, .any, .any, .any, .any, .any, .any, .any, .any, .any, .any, .any, .any, .any, .any, .any, .any, .any, .any, .any, .any, .any, .any, .any, .any, .any, .any, .any, .any, .any, .any, .any, .any, .any, .any, .any, .any, .any, .any, .any, .any, .any, .any, .any, .any, .any, .any, .any, .any, .any, .any, .any, .any, .any, .any, .any, .any, .any, .any, .any, .any, .any, .any, .any, .any, .any, .any, .any, .any, .any], [⟨26, 7, [.agg s2.cells], 0, true⟩]⟩ : S)) (fun j => j ≤ s2.fPutters.length) (fun j => s2.fPutters.length - j) 0 (Wk.ren 0 [0] hX rfl (by decide) (by simp [sumK]) (by simp) (by simp) (by simp)) (by omega) ?_
    rintro j hj
    refine vc_sound h.mo _ _ _ (by kernel_rfl) ?_
    rcases Nat.lt_or_ge j s2.fPutters.length with hjl | hjg
    · have hj1 := wrap_succ hjl (by omega)
      have hst : sumK (s2.fPutters.take (j + 1)) = sumK (s2.fPutters.take j) + s2.fPutters[j].fItem := by
        unfold sumK
        rw [List.take_succ_eq_append_getElem hjl, List.map_append, List.sum_append]; simp
      have hb1 := sum_take_bound s2.fItems (by omega) hv2.it s2.fItems.length
      rw [List.take_length] at hb1
      have hb2 := sumK_bound (fun _ => true) s2.fPutters b2 hv2.pt (j + 1)
      have hft : (s2.fPutters.take (j + 1)).filter (fun _ => true) = s2.fPutters.take (j + 1) := List.filter_eq_self.2 (by simp)
      rw [hft] at hb2
      have hw1 : IntKind.i64.wrap (s2.fItems.sum + sumK (s2.fPutters.take j) + s2.fPutters[j].fItem) = s2.fItems.sum + sumK (s2.fPutters.take (j + 1)) := by rw [hst]; rw [i64_id (by omega) (by omega)]; omega
      simp (config := {maxSteps := 4000000}) [hjl, hw1]
      exact ⟨j + 1, Wk.ren 0 [0] hX rfl (by decide) (by simp [hj1]) (by simp) (by simp) (by simp), by omega, by omega⟩
    have hjl : j = s2.fPutters.length := by omega
    subst hjl
    have hbw : IntKind.i64.wrap (s2.fOut + s2.fItems.length) = s2.fIn := by rw [i64_id (by omega) (by omega)]; omega
    rw [← htot]
    generalize hT : tot s2 = T at htb
    simp [hbw]
    refine xcall_fn (c_Check s2 hs2) (by simp) ?_
    simp [hck]
    refine vc_sound h.mo _ _ _ (by kernel_rfl) ?_
    simp
    exact ⟨k + 1, s2, Wk.ren 0 [0] hX rfl (by decide) (by simp [hk1, hT]) (by simp) (by simp) (by simp), ⟨by omega, hv2⟩, by omega⟩
  obtain ⟨b1, b2, b3⟩ := V_fit hv
  have htb := V_tot hv
  have hcb : 0 ≤ cntS s ∧ cntS s ≤ 1300 := by unfold cntS; omega
  cases hlv : x.fLeave
  case true =>
    simp
    refine awp_loop (σ := Nat) (fun j => (⟨[.any, .any, .any, .any, .any, .any, .any, .pto 0 7 0 0, .any, .int .i64 (tot s - sumK ((s.fPutters.take j).filter fun r => decide (r.fProc = x.fProc))), .int .i64 (cntS s - (((s.fPutters.take j).filter fun r => decide (r.fProc = x.fProc)).length : Nat)), .any, .pto 1 4 0 0, .int .i64 j, .any, .any, .any, .any, .any, .any, .any, .any, .any, .any, .any, .any, .any, .any, .any, .any, .any, .any, .any, .any, .any, .any, .any, .any, .any, .any, .any, .any, Ls false l, .int .i64 l.length, .int .i64 k, .any, .any, .any, .any, .any, .any, .any, .any, .any, .any, .any, .any, .any, .any, .any, .any, .any, .any, .any, .any, .any, .any, .any, .any, .any, .any, .any, .any, .any, .any, .any, .any, .any, .any, .any, .any, .any, .any, .any, .any, .any, .any, .any, .any, .any, .any, .any, .any, .any, .any, .any, .any, .any, .any, .any, .any, .any, .any, .any, .any, .any, .any, .any, .any, .any, .any, .any, .any, .any, .any, .any, .any, .any, .any, .any, .any, .any, .any, .any, .any, .any, .any, .any, .any, .any, .any, .any, .any, .any, .any, .any, .any, .any, .any, .any, .any, .any, .any, .any, .any, .any, .any, .any, .any, .any, .any, .any, .any, .any, .any, .any, .any, .any, .any, .any, .any, .any, .any, .any, .any, .any, .any, .any, .any, .any, .any, .any, .any, .any, .any, .any, .any, .any, .any, .any, .any, .any, .any, .any, .any, .any, .any, .any, .any, .any, .any, .any, .any, .any, .any, .any, .any, .any, .any, .any, .any, .any, .any, .any, .any, .any, .any, .any], [⟨26, 7, [.agg s.cells], 0, true⟩, ⟨43, 4, [.agg x.cells], 0, true⟩]⟩ : S)) (fun j => j ≤ s.fPutters.length) (fun j => s.fPutters.length - j) 0 (Wk.ren 0 [0, 1] hX rfl (by decide) (by simp [sumK]) (by simp) (by simp) (by simp [hlv])) (by omega) ?_
    rintro j hj
    refine vc_sound h.mo _ _ _ (by kernel_rfl) ?_
    rcases Nat.lt_or_ge j s.fPutters.length with hjl | hjg
    · have hj1 := wrap_succ hjl (by omega)
      obtain ⟨q1, q2⟩ := sumK_take (fun r : TReady => decide (r.fProc = x.fProc)) hjl
      have q3 := sumK_bound (fun r : TReady => decide (r.fProc = x.fProc)) s.fPutters b2 hv.pt j
      have q4 := sumK_bound (fun r : TReady => decide (r.fProc = x.fProc)) s.fPutters b2 hv.pt (j + 1)
      have q5 := filt_take_len (fun r : TReady => decide (r.fProc = x.fProc)) s.fPutters j
      generalize (s.fPutters.take j).filter (fun r : TReady => decide (r.fProc = x.fProc)) = A at q1 q2 q3 q5
      generalize hB : (s.fPutters.take (j + 1)).filter (fun r : TReady => decide (r.fProc = x.fProc)) = B at q1 q2 q4
      by_cases hq : s.fPutters[j].fProc = x.fProc
      · rw [if_pos (by simp [hq])] at q1 q2
        have w1 : IntKind.i64.wrap (tot s - sumK A - s.fPutters[j].fItem) = tot s - sumK B := by rw [i64_id (by omega) (by omega)]; omega
        have w2 : IntKind.i64.wrap (cntS s - A.length - 1) = cntS s - B.length := by rw [i64_id (by omega) (by omega)]; omega
        simp (config := {maxSteps := 4000000}) [hjl, hq, w1, w2]
        exact ⟨j + 1, Wk.ren 0 [0, 1] hX rfl (by decide) (by simp [hj1, hB]) (by simp) (by simp) (by simp), by omega, by omega⟩
      · rw [if_neg (by simp [hq])] at q1 q2
        simp (config := {maxSteps := 4000000}) [hjl, hq]
        exact ⟨j + 1, Wk.ren 0 [0, 1] hX rfl (by decide) (by simp [hj1, hB, q1, q2]) (by simp) (by simp) (by simp), by omega, by omega⟩
    have hjl : j = s.fPutters.length := by omega
    subst hjl
    obtain ⟨e1, e2, _⟩ := leave_tot hv x.fProc
    have hv' := V_leave hv x.fProc
    have hm : (s.fPutters.take s.fPutters.length).filter (fun r => decide (r.fProc = x.fProc)) = mine s x.fProc := by rw [List.take_length]; rfl
    have e3 : tot s - sumK (mine s x.fProc) = tot (leaveS s x.fProc) := by rw [e1]; rfl
    have e4 : cntS s - (mine s x.fProc).length = cntS (leaveS s x.fProc) := by unfold cntS; omega
    rw [hm, e3, e4]
    simp
    refine xcall_fn (c_Leave s x.fProc hs) (by simp) ?_
    generalize leaveS s x.fProc = s2 at hv'
    simp
    exact ⟨s2, hv', Wk.ren 0 [0] hX rfl (by decide) (by simp) (by simp) (by simp) (by simp)⟩
  cases hgt : x.fGet
  case true =>
    simp
    refine xcall_fn (c_Get s x.fProc hs) (by simp) ?_
    by_cases h5 : entE s x.fProc 0 = 0
    case neg =>
      have hgb : getB s x.fProc = false := by simp [getB, h5]
      simp [h5, hgb]
      exact ⟨s, hv, Wk.ren 0 [0] hX rfl (by decide) (by simp) (by simp) (by simp) (by simp)⟩
    have hv' := V_get h5
    cases hgb : getB s x.fProc
    · obtain ⟨e1, e2, e3⟩ := get_none h5 hgb
      have e4 : tot s = tot (getS s x.fProc) := by rw [tot, tot, pit, pit, e1, e2]
      have e5 : cntS s = cntS (getS s x.fProc) := by rw [cntS, cntS, e1, e2]
      rw [e4, e5]
      generalize getS s x.fProc = s2 at hv'
      simp [h5]
      exact ⟨s2, hv', Wk.ren 0 [0] hX rfl (by decide) (by simp) (by simp) (by simp) (by simp)⟩
    · obtain ⟨n, hn, _, e1, e2, e3, e4⟩ := get_got h5 hgb
      have e5 : tot (getS s x.fProc) = tot s - getI s x.fProc := by
        rw [tot, e2, List.sum_append, sum_eraseIdx _ _ hn, e1, tot, List.sum_append]; omega
      have htb2 := V_tot hv'
      have e6 : IntKind.i64.wrap (tot s - getI s x.fProc) = tot (getS s x.fProc) := by rw [← e5, i64_id (by omega) (by omega)]
      have e7 : IntKind.i64.wrap (cntS s - 1) = cntS (getS s x.fProc) := by
        rw [i64_id (by omega) (by omega)]; unfold cntS; omega
      generalize getS s x.fProc = s2 at hv' e6 e7
      simp [h5, e6, e7]
      exact ⟨s2, hv', Wk.ren 0 [0] hX rfl (by decide) (by simp) (by simp) (by simp) (by simp)⟩
  simp
  refine xcall_fn (c_Put s x.fProc x.fItem hs) (by simp) ?_
  by_cases h5 : entE s x.fProc x.fItem = 0
  case neg =>
    simp [h5]
    exact ⟨s, hv, Wk.ren 0 [0] hX rfl (by decide) (by simp) (by simp) (by simp) (by simp)⟩
  have hv' := V_put h5
  have hin := (ent_zero h5).2.2.1
  unfold inB at hin
  simp only [Bool.and_eq_true, decide_eq_true_eq] at hin
  by_cases hg : s.fGetters = []
  · obtain ⟨e1, e2, e3, e4⟩ := put_in h5 hg
    have e5 : tot (putS s x.fProc x.fItem) = tot s + x.fItem := by rw [tot, e1, List.sum_append, tot]; simp
    have e6 : IntKind.i64.wrap (tot s + x.fItem) = tot (putS s x.fProc x.fItem) := by rw [← e5, i64_id] <;> (have := V_tot hv'; omega)
    have e7 : IntKind.i64.wrap (cntS s + 1) = cntS (putS s x.fProc x.fItem) := by
      rw [i64_id (by omega) (by omega)]; unfold cntS; omega
    rw [e2]
    obtain ⟨c1, c2, c3⟩ := V_fit hv'
    generalize putS s x.fProc x.fItem = s2 at hv' e4 e6 e7 c1 c2
    have e8 : IntKind.i64.wrap (s2.fItems.length + s2.fPutters.length) = (s2.fItems.length : Int) + s2.fPutters.length := i64_id (by omega) (by omega)
    have e9 : ¬ (s2.fItems.length : Int) + s2.fPutters.length = 0 := by omega
    simp [h5, e6, e7, e8, e9]
    exact ⟨s2, hv', Wk.ren 0 [0] hX rfl (by decide) (by simp) (by simp) (by simp) (by simp)⟩
  · obtain ⟨e1, e2, e3, e4, ⟨g, e5⟩, e6⟩ := put_out h5 hg
    rw [e5]
    have t1 : tot s = 0 := by simp [tot, pit, e3, e4]
    have t2 : cntS s = 0 := by simp [cntS, e3, e4]
    generalize putS s x.fProc x.fItem = s2 at hv' e1 e2
    have t3 : tot s2 = 0 := by simp [tot, pit, e1, e2]
    have t4 : cntS s2 = 0 := by simp [cntS, e1, e2]
    have t5 : IntKind.i64.wrap x.fItem = x.fItem := i64_id (by omega) (by omega)
    simp [h5, t1, t2, t5, e1, e2]
    refine awp_loop (σ := Nat) (fun j => (⟨[.any, .any, .any, .any, .any, .any, .any, .pto 0 7 0 0, .any, .int .i64 (if j = 0 then x.fItem else 0), .int .i64 (if j = 0 then 1 else 0), .any, .any, .any, .any, .any, .any, .any, .any, .any, .any, Ls false [(⟨g, x.fItem⟩ : TReady)], .any, .int .i64 j, .any, .any, .any, .any, .any, .any, .any, .any, .any, .any, .any, .any, .any, .any, .any, .any, .any, .any, Ls false l, .int .i64 l.length, .int .i64 k, .any, .any, .any, .any, .any, .any, .any, .any, .any, .any, .any, .any, .any, .any, .any, .any, .any, .any, .any, .any, .any, .any, .any, .any, .any, .any, .any, .any, .any, .any, .any, .any, .any, .any, .any, .any, .any, .any, .any, .any, .any, .any, .any, .any, .any, .any, .any, .any, .any, .any, .any, .any, .any, .any, .any, .any, .any, .any, .any, .any, .any, .any, .any, .any, .any, .any, .any, .any, .any, .any, .any, .any, .any, .any, .any, .any, .any, .any, .any, .any, .any, .any, .any, .any, .any, .any, .any, .any, .any, .any, .any, .any, .any, .any, .any, .any, .any, .any, .any, .any, .any, .any, .any, .any, .any, .any, .any, .any, .any, .any, .any, .any, .any, .any, .any, .any, .any, .any, .any, .any, .any, .any, .any, .any, .any, .any, .any, .any, .any, .any, .any, .any, .any, .any, .any, .any, .any, .any, .any, .any, .any, .any, .any, .any, .any, .any, .any, .any, .any, .any, .any, .any, .any, .any, .any, .any, .any, .any, .any, .any, .any, .any, .any], [⟨26, 7, [.agg s2.cells], 0, true⟩]⟩ : S)) (fun j => j ≤ 1) (fun j => 1 - j) 0 (Wk.ren 0 [0] hX rfl (by decide) (by simp) (by simp) (by simp) (by simp [e1, e2])) (by omega) ?_
    rintro j hj
    refine vc_sound h.mo _ _ _ (by kernel_rfl) ?_
    rcases Nat.lt_or_ge j 1 with hjl | hjg
    · have hj0 : j = 0 := by omega
      subst hj0
      simp
      exact ⟨1, Wk.ren 0 [0] hX rfl (by decide) (by simp) (by simp) (by simp) (by simp), by omega, by omega⟩
    · have hj0 : j = 1 := by omega
      subst hj0
      simp
      exact ⟨s2, hv', Wk.ren 0 [0] hX rfl (by decide) (by simp [t3, t4]) (by simp) (by simp) (by simp)⟩
end Go.Proofs.Ytmnpiibjjamjiaa
