/- Chapter 21: stores: Leave, over any program that has the text. -/
import Derived.Test.YtmnpiibjjamjiaaW8
namespace Go.Proofs.Ytmnpiibjjamjiaa
open Go.AL
variable {P : Program} [h : Facts P]

theorem c_DeleteFuncR (p : TReady → Bool) (fid : FuncId) (caps : List A) (l : List (TReady)) (hl : l.length ≤ 9223372036854775807) (hn : noidL caps = true) (hw : wkL caps = caps) (hp : ∀ x ∈ l, FCall P fid (.agg x.cells :: caps) (fun r => r = .bool (p x))) :
    XCall P 42 [B 0 l, .fn fid caps] [RF 47 l 0] (fun r H' => ∃ r1 k, H' = r1 :: List.replicate k dead0 ∧ (r1.live = true → (RF 47 l 0).live = true) ∧ noidL r1.es = true ∧ frmd r = true ∧ ∃ c ex, r = .own 0 0 (l.filter fun x => !p x).length c ex ∧ RowCut (some r1) (l.filter fun x => !p x)) := by
  refine xcall_of h.f42 rfl (by decide) h.mo (by kernel_rfl) fun X hX => ?_
  simp
  refine xcall_fn (c_IndexFuncR p fid caps l hl hn hp) (by simp [hn, hw]) ?_
  rcases idxZ_or p l with ⟨hz, hno⟩ | ⟨i0, hz, hi0, hyes, hno⟩
  · have hf : l.filter (fun x => !p x) = l := List.filter_eq_self.2 fun x hx => by simp [hno x hx]
    rw [hf]
    simp [hz]
    refine ⟨rfl, ⟨l.length, by cases l <;> simp [B]⟩, ?_⟩
    · cases l with
      | nil => exact .inl rfl
      | cons x l => exact .inr ⟨_, _, _, rfl, List.take_of_length_le (by simp)⟩
  have hne : l ≠ [] := by rintro rfl; simp at hi0
  have hem : l.isEmpty = false := by cases l with | nil => exact (hne rfl).elim | cons _ _ => rfl
  have hz' : ¬ (i0 : Int) = -1 := by omega
  have hk0 := wrap_succ hi0 hl
  simp [hz, hz', hk0]
  have hf0 : (l.take (i0 + 1)).filter (fun x => !p x) = l.take i0 := by
    rw [List.take_succ_eq_append_getElem hi0, List.filter_append]
    have : (l.take i0).filter (fun x => !p x) = l.take i0 := List.filter_eq_self.2 fun x hx => by
      obtain ⟨j, hj, rfl⟩ := List.mem_take_iff_getElem.1 hx
      simp [hno j (by omega) (by omega)]
    rw [this]; simp [hyes]
  refine awp_loop (σ := Nat × Nat × List (TReady)) (fun s => (⟨[B 0 l, .fn fid caps, .any, .any, .any, .int .i64 s.1, .int .i64 s.2.1, .any, .any, .any, .any, .any, .any, .any, .any, .any, .any, .any, .any, .any, .any, .any, .any, .any, .any, .any, .any, .any, .any, .any, .any, .any, .any, .any, .any, .any, .any, .any, .any, .any, .any, .any], [⟨47, Enc.sz (TReady), s.2.2.map Enc.enc, 0, true⟩]⟩ : S)) (fun s => s.1 < s.2.1 ∧ s.2.1 ≤ l.length ∧ s.2.2.length = l.length ∧ s.2.2.take s.1 = (l.take s.2.1).filter (fun x => !p x) ∧ s.2.2.drop s.2.1 = l.drop s.2.1) (fun s => l.length - s.2.1) (i0, i0 + 1, l) (Wk.ren 1 [0] hX rfl (by decide) (by simp [leL_noid hn]) (by simp [hasRL_noid hn]) (by simp) (by simp [RF_ne hne])) ⟨by simp, by simp; omega, rfl, hf0.symm, rfl⟩ ?_
  rintro ⟨i, j, m⟩ ⟨hij, hj, hm, htk, hdr⟩
  simp only at hij hj hm htk hdr
  refine vc_sound h.mo _ _ _ (by kernel_rfl) ?_
  rcases Nat.lt_or_ge j l.length with hlt | hge
  · have hk1 := wrap_succ hlt hl
    have hi1 : i < m.length := by omega
    have hk2 := wrap_succ hi1 (by omega)
    have hjm : j < m.length := by omega
    have hx : m[j] = l[j] := by
      rw [List.drop_eq_getElem_cons hlt, List.drop_eq_getElem_cons hjm] at hdr
      exact (List.cons.inj hdr).1
    have hdr1 : m.drop (j + 1) = l.drop (j + 1) := by rw [← List.drop_drop, ← List.drop_drop, hdr]
    have hft : (l.take (j + 1)).filter (fun x => !p x) = if p l[j] = true then m.take i else m.take i ++ [l[j]] := by
      rw [List.take_succ_eq_append_getElem hlt, List.filter_append, ← htk]
      cases h1 : p l[j] <;> simp [h1]
    have hpx := hp _ (List.getElem_mem hlt)
    obtain ⟨x, hxe⟩ : ∃ x, l[j] = x := ⟨_, rfl⟩
    rw [hxe] at hx hft hpx
    simp [hlt, hm, hx]
    refine xcall_noid hpx (by simp [hn]) ?_
    rintro _ rfl
    cases hpv : p x
    · rw [if_neg (by simp [hpv])] at hft
      have hi2 : i < l.length := by omega
      obtain ⟨m', hm'⟩ : ∃ m', m.set i x = m' := ⟨_, rfl⟩
      have e : (m.map Enc.enc).set i (Enc.enc x) = m'.map Enc.enc := by rw [← hm', List.map_set]
      simp at e
      simp [hi2, hk2, hm]
      refine ⟨i + 1, j + 1, m', Wk.ren 1 [0] (by simp at hX ⊢; exact hX) rfl (by decide) (by simp [hk1, leL_noid hn]) (by simp [hasRL_noid hn]) (by simp) (by simp [e]), ⟨by omega, by omega, by rw [← hm']; simp [hm], ?_, ?_⟩, by omega⟩
      · rw [hft, ← hm', List.take_succ_eq_append_getElem (by simp; omega), List.take_set_of_le (Nat.le_refl i)]
        simp
      · rw [← hm', List.drop_set_of_lt (by omega)]
        exact hdr1
    · rw [if_pos hpv] at hft
      simp
      exact ⟨i, j + 1, m, Wk.ren 1 [0] (by simp at hX ⊢; exact hX) rfl (by decide) (by simp [hk1, leL_noid hn]) (by simp [hasRL_noid hn]) (by simp) (by simp), ⟨by omega, by omega, hm, hft.symm, hdr1⟩, by omega⟩
  · have hge2 : ¬ j < l.length := by omega
    have hjl : j = l.length := by omega
    subst hjl
    rw [List.take_length] at htk
    have hlen : (l.filter fun x => !p x).length = i := by rw [← htk, List.length_take]; omega
    rw [hlen]
    have hi3 : i ≤ l.length := by omega
    have hi4 : ¬ l.length - i = 0 := by omega
    simp [hi3, hi4, hm, hem]
    have ho : ∀ r : Row, r.live = true → r.ty = 47 → ownOK P [r] (24) (B 0 l) = true := by
      rintro ⟨_, _, _, _, _⟩ h1 h2
      simp only at h1 h2
      subst h1 h2
      simp [B]
    refine ⟨ho _ rfl rfl, ho _ rfl rfl, by rw [RF_ne hne], noidL_replicate _ rfl _, rfl, .inr ⟨_, _, _, rfl, ?_⟩⟩
    rw [hlen, List.take_append_of_le_length (by simp; omega), ← htk, List.map_take, List.take_take, Nat.min_self]

theorem c_DeleteFuncI (p : Int → Bool) (fid : FuncId) (caps : List A) (l : List (Int)) (hl : l.length ≤ 9223372036854775807) (hn : noidL caps = true) (hw : wkL caps = caps) (hp : ∀ x ∈ l, FCall P fid (.int .i64 x :: caps) (fun r => r = .bool (p x))) :
    XCall P 45 [B 0 l, .fn fid caps] [RF 3 l 0] (fun r H' => ∃ r1 k, H' = r1 :: List.replicate k dead0 ∧ (r1.live = true → (RF 3 l 0).live = true) ∧ noidL r1.es = true ∧ frmd r = true ∧ ∃ c ex, r = .own 0 0 (l.filter fun x => !p x).length c ex ∧ RowCut (some r1) (l.filter fun x => !p x)) := by
  refine xcall_of h.f45 rfl (by decide) h.mo (by kernel_rfl) fun X hX => ?_
  simp
  refine xcall_fn (c_IndexFuncI p fid caps l hl hn hp) (by simp [hn, hw]) ?_
  rcases idxZ_or p l with ⟨hz, hno⟩ | ⟨i0, hz, hi0, hyes, hno⟩
  · have hf : l.filter (fun x => !p x) = l := List.filter_eq_self.2 fun x hx => by simp [hno x hx]
    rw [hf]
    simp [hz]
    refine ⟨rfl, ⟨l.length, by cases l <;> simp [B]⟩, ?_⟩
    · cases l with
      | nil => exact .inl rfl
      | cons x l => exact .inr ⟨_, _, _, rfl, List.take_of_length_le (by simp)⟩
  have hne : l ≠ [] := by rintro rfl; simp at hi0
  have hem : l.isEmpty = false := by cases l with | nil => exact (hne rfl).elim | cons _ _ => rfl
  have hz' : ¬ (i0 : Int) = -1 := by omega
  have hk0 := wrap_succ hi0 hl
  simp [hz, hz', hk0]
  have hf0 : (l.take (i0 + 1)).filter (fun x => !p x) = l.take i0 := by
    rw [List.take_succ_eq_append_getElem hi0, List.filter_append]
    have : (l.take i0).filter (fun x => !p x) = l.take i0 := List.filter_eq_self.2 fun x hx => by
      obtain ⟨j, hj, rfl⟩ := List.mem_take_iff_getElem.1 hx
      simp [hno j (by omega) (by omega)]
    rw [this]; simp [hyes]
  refine awp_loop (σ := Nat × Nat × List (Int)) (fun s => (⟨[B 0 l, .fn fid caps, .any, .any, .any, .int .i64 s.1, .int .i64 s.2.1, .any, .any, .any, .any, .any, .any, .any, .any, .any, .any, .any, .any, .any, .any, .any, .any, .any, .any, .any, .any, .any, .any, .any, .any, .any, .any, .any, .any, .any, .any, .any, .any, .any, .any, .any], [⟨3, Enc.sz (Int), s.2.2.map Enc.enc, 0, true⟩]⟩ : S)) (fun s => s.1 < s.2.1 ∧ s.2.1 ≤ l.length ∧ s.2.2.length = l.length ∧ s.2.2.take s.1 = (l.take s.2.1).filter (fun x => !p x) ∧ s.2.2.drop s.2.1 = l.drop s.2.1) (fun s => l.length - s.2.1) (i0, i0 + 1, l) (Wk.ren 1 [0] hX rfl (by decide) (by simp [leL_noid hn]) (by simp [hasRL_noid hn]) (by simp) (by simp [RF_ne hne])) ⟨by simp, by simp; omega, rfl, hf0.symm, rfl⟩ ?_
  rintro ⟨i, j, m⟩ ⟨hij, hj, hm, htk, hdr⟩
  simp only at hij hj hm htk hdr
  refine vc_sound h.mo _ _ _ (by kernel_rfl) ?_
  rcases Nat.lt_or_ge j l.length with hlt | hge
  · have hk1 := wrap_succ hlt hl
    have hi1 : i < m.length := by omega
    have hk2 := wrap_succ hi1 (by omega)
    have hjm : j < m.length := by omega
    have hx : m[j] = l[j] := by
      rw [List.drop_eq_getElem_cons hlt, List.drop_eq_getElem_cons hjm] at hdr
      exact (List.cons.inj hdr).1
    have hdr1 : m.drop (j + 1) = l.drop (j + 1) := by rw [← List.drop_drop, ← List.drop_drop, hdr]
    have hft : (l.take (j + 1)).filter (fun x => !p x) = if p l[j] = true then m.take i else m.take i ++ [l[j]] := by
      rw [List.take_succ_eq_append_getElem hlt, List.filter_append, ← htk]
      cases h1 : p l[j] <;> simp [h1]
    have hpx := hp _ (List.getElem_mem hlt)
    obtain ⟨x, hxe⟩ : ∃ x, l[j] = x := ⟨_, rfl⟩
    rw [hxe] at hx hft hpx
    simp [hlt, hm, hx]
    refine xcall_noid hpx (by simp [hn]) ?_
    rintro _ rfl
    cases hpv : p x
    · rw [if_neg (by simp [hpv])] at hft
      have hi2 : i < l.length := by omega
      obtain ⟨m', hm'⟩ : ∃ m', m.set i x = m' := ⟨_, rfl⟩
      have e : (m.map Enc.enc).set i (Enc.enc x) = m'.map Enc.enc := by rw [← hm', List.map_set]
      simp at e
      simp [hi2, hk2, hm]
      refine ⟨i + 1, j + 1, m', Wk.ren 1 [0] (by simp at hX ⊢; exact hX) rfl (by decide) (by simp [hk1, leL_noid hn]) (by simp [hasRL_noid hn]) (by simp) (by simp [e]), ⟨by omega, by omega, by rw [← hm']; simp [hm], ?_, ?_⟩, by omega⟩
      · rw [hft, ← hm', List.take_succ_eq_append_getElem (by simp; omega), List.take_set_of_le (Nat.le_refl i)]
        simp
      · rw [← hm', List.drop_set_of_lt (by omega)]
        exact hdr1
    · rw [if_pos hpv] at hft
      simp
      exact ⟨i, j + 1, m, Wk.ren 1 [0] (by simp at hX ⊢; exact hX) rfl (by decide) (by simp [hk1, leL_noid hn]) (by simp [hasRL_noid hn]) (by simp) (by simp), ⟨by omega, by omega, hm, hft.symm, hdr1⟩, by omega⟩
  · have hge2 : ¬ j < l.length := by omega
    have hjl : j = l.length := by omega
    subst hjl
    rw [List.take_length] at htk
    have hlen : (l.filter fun x => !p x).length = i := by rw [← htk, List.length_take]; omega
    rw [hlen]
    have hi3 : i ≤ l.length := by omega
    have hi4 : ¬ l.length - i = 0 := by omega
    simp [hi3, hi4, hm, hem]
    have ho : ∀ r : Row, r.live = true → r.ty = 3 → ownOK P [r] (23) (B 0 l) = true := by
      rintro ⟨_, _, _, _, _⟩ h1 h2
      simp only at h1 h2
      subst h1 h2
      simp [B]
    refine ⟨ho _ rfl rfl, ho _ rfl rfl, by rw [RF_ne hne], noidL_replicate _ rfl _, rfl, .inr ⟨_, _, _, rfl, ?_⟩⟩
    rw [hlen, List.take_append_of_le_length (by simp; omega), ← htk, List.map_take, List.take_take, Nat.min_self]

theorem c_lv1 (p : Int) (x : TReady) : FCall P 44 [.agg x.cells, .ptr (.int .i64 p)] (fun r => r = .bool (decide (x.fProc = p))) := by
  refine fcall_of h.f44 rfl (by decide) h.mo (by kernel_rfl) fun X hX => ?_
  simp
theorem c_lv2 (p : Int) (x : Int) : FCall P 47 [.int .i64 x, .ptr (.int .i64 p)] (fun r => r = .bool (decide (x = p))) := by
  refine fcall_of h.f47 rfl (by decide) h.mo (by kernel_rfl) fun X hX => ?_
  simp
theorem c_Leave (s : TStore) (proc : Int) (hs : fitS s) : FCall P 22 [.agg s.cells, .int .i64 proc] (fun r => r = .agg (leaveS s proc).cells) := by
  refine fcall_ofB [3] h.f22 rfl (by decide) h.mo (by kernel_rfl) fun X hX => ?_
  simp
  refine xcall_fn (c_Check s hs) (by simp) ?_
  by_cases h0 : chkS s = 0
  case neg => simp [h0, leaveS]
  obtain ⟨d1, d2, d3⟩ := hs
  obtain ⟨room, pol, items, put, get, i, o⟩ := s
  simp only at d1 d2 d3
  simp [h0, leaveS]
  refine awp_fz 1 (by rfl) (by simp) ?_
  simp
  refine awp_ops ?_
  simp
  refine xcall_mono (c_CloneR put (by omega) _) ?_
  rintro _ _ ⟨rfl, rfl⟩
  simp
  refine xcall_frame 4 (c_DeleteFuncR (fun m => decide (m.fProc = proc)) _ [.ptr (.int .i64 proc)] put (by omega) rfl (by simp) fun m _ => c_lv1 proc m) rfl (by simp) (by simp) (by simp) ?_
  rintro _ r1 ⟨c, ex, rfl, hcut⟩
  simp [reA]
  refine xcall_mono (c_CloneI get (by omega) _) ?_
  rintro _ _ ⟨rfl, rfl⟩
  simp
  refine xcall_frame 6 (c_DeleteFuncI (fun m => decide (m = proc)) _ [.ptr (.int .i64 proc)] get (by omega) rfl (by simp) fun m _ => c_lv2 proc m) rfl (by simp) (by simp) (by simp) ?_
  rintro _ r2 ⟨c2, ex2, rfl, hcut2⟩
  simp [reA, hcut, hcut2]
theorem filt_take {α : Type} (q : α → Bool) {l : List α} {k : Nat} (hk : k < l.length) : (l.take (k + 1)).filter q = if q l[k] = true then (l.take k).filter q ++ [l[k]] else (l.take k).filter q := by
  rw [List.take_succ_eq_append_getElem hk, List.filter_append, List.filter_cons]
  split <;> simp
theorem filt_take_len {α : Type} (q : α → Bool) (l : List α) (k : Nat) : ((l.take k).filter q).length ≤ l.length := by
  have := List.length_filter_le q (l.take k)
  simp at this
  omega
set_option maxHeartbeats 1000000 in
theorem c_RLeave (s : TStore) (proc : Int) (hs : fitS s) : FCall P 23 [.agg s.cells, .int .i64 proc] (fun r => r = .agg (leaveS s proc).cells) := by
  refine fcall_of h.f23 rfl (by decide) h.mo (by kernel_rfl) fun X hX => ?_
  simp
  refine xcall_fn (c_RCheck s hs) (by simp) ?_
  by_cases h0 : chkS s = 0
  case neg => simp [h0, leaveS]
  obtain ⟨d1, d2, d3⟩ := hs
  obtain ⟨room, pol, items, put, get, i, o⟩ := s
  simp only at d1 d2 d3
  simp [h0, leaveS]
  refine awp_loop (σ := Nat) (fun k => (⟨[.any, .int .i64 proc, .pto 0 7 0 0, .any, .pto 1 7 0 0, B 2 ((put.take k).filter fun r => !decide (r.fProc = proc)), .sl true [], .int .i64 k, .any, .any, .any, .any, .any, .any, .any, .any, .any, .any, .any, .any, .any, .any, .any, .any, .any, .any, .any, .any, .any, .any, .any, .any, .any, .any, .any, .any, .any, .any, .any, .any, .any, .any, .any, .any, .any, .any, .any, .any, .any, .any, .any, .any, .any, .any, .any, .any, .any, .any, .any, .any, .any, .any, .any], [⟨26, 7, [.agg (⟨room, pol, items, put, get, i, o⟩ : TStore).cells], 0, true⟩, ⟨26, 7, [.agg zeroS.cells], 0, true⟩, RF 47 ((put.take k).filter fun r => !decide (r.fProc = proc)) 0]⟩ : S)) (fun k => k ≤ put.length) (fun k => put.length - k) 0 (Wk.ren 0 [0, 1, 2] hX rfl (by decide) (by simp) (by simp) (by simp) (by simp [zeroS])) (by omega) ?_
  · rintro k hk
    refine vc_sound h.mo _ _ _ (by kernel_rfl) ?_
    rcases Nat.lt_or_ge k put.length with hlt | hge
    · have hk1 := wrap_succ hlt (by omega)
      have hp := filt_take (fun r : TReady => !decide (r.fProc = proc)) hlt
      have hpl := filt_take_len (fun r : TReady => !decide (r.fProc = proc)) put k
      generalize (put.take k).filter (fun r : TReady => !decide (r.fProc = proc)) = L at hp hpl
      by_cases hq : put[k].fProc = proc
      · simp [hq] at hp
        simp [hlt, hq]
        exact ⟨k + 1, Wk.ren 0 [0, 1, 2] hX rfl (by decide) (by simp [hk1, hp]) (by simp) (by simp) (by simp [hp]), by omega, by omega⟩
      · simp [hq] at hp
        simp [hlt, hq]
        exact ⟨⟨by omega, by omega⟩, k + 1, Wk.ren 0 [0, 1, 4] hX rfl (by decide) (by simp [hk1, hp]) (by simp) (by simp) (by simp [hp]), by omega, by omega⟩
    · have hkl : k = put.length := by omega
      subst hkl
      obtain ⟨PL, hPL⟩ : ∃ PL, put.filter (fun r => !decide (r.fProc = proc)) = PL := ⟨_, rfl⟩
      simp [hPL]
      refine awp_loop (σ := Nat) (fun k => (⟨[.any, .int .i64 proc, .pto 0 7 0 0, .any, .pto 1 7 0 0, B 2 PL, B 3 ((get.take k).filter fun r => !decide (r = proc)), .any, .int .i64 k, .any, .any, .any, .any, .any, .any, .any, .any, .any, .any, .any, .any, .any, .any, .any, .any, .any, .any, .any, .any, .any, .any, .any, .any, .any, .any, .any, .any, .any, .any, .any, .any, .any, .any, .any, .any, .any, .any, .any, .any, .any, .any, .any, .any, .any, .any, .any, .any, .any, .any, .any, .any, .any, .any], [⟨26, 7, [.agg (⟨room, pol, items, put, get, i, o⟩ : TStore).cells], 0, true⟩, ⟨26, 7, [.agg zeroS.cells], 0, true⟩, RF 47 PL 0, RF 3 ((get.take k).filter fun r => !decide (r = proc)) 0]⟩ : S)) (fun k => k ≤ get.length) (fun k => get.length - k) 0 (Wk.ren 0 [0, 1, 2, 3] hX rfl (by decide) (by simp) (by simp) (by simp) (by simp [zeroS])) (by omega) ?_
      rintro k hk
      refine vc_sound h.mo _ _ _ (by kernel_rfl) ?_
      rcases Nat.lt_or_ge k get.length with hlt | hge
      · have hk1 := wrap_succ hlt (by omega)
        have hp := filt_take (fun r : Int => !decide (r = proc)) hlt
        have hpl := filt_take_len (fun r : Int => !decide (r = proc)) get k
        generalize (get.take k).filter (fun r : Int => !decide (r = proc)) = L at hp hpl
        by_cases hq : get[k] = proc
        · simp [hq] at hp
          simp [hlt, hq]
          exact ⟨k + 1, Wk.ren 0 [0, 1, 2, 3] hX rfl (by decide) (by simp [hk1, hp]) (by simp) (by simp) (by simp [hp]), by omega, by omega⟩
        · simp [hq] at hp
          simp [hlt, hq]
          exact ⟨⟨by omega, by omega⟩, k + 1, Wk.ren 0 [0, 1, 2, 5] hX rfl (by decide) (by simp [hk1, hp]) (by simp) (by simp) (by simp [hp]), by omega, by omega⟩
      · have hkl : k = get.length := by omega
        subst hkl
        obtain ⟨GL, hGL⟩ : ∃ GL, get.filter (fun r => !decide (r = proc)) = GL := ⟨_, rfl⟩
        simp [hGL]
end Go.Proofs.Ytmnpiibjjamjiaa
