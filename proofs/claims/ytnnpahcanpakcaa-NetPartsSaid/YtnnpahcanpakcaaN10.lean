/- Chapter 35: networks: events, Least and Idle, over any program that has the text. -/
import Derived.Test.YtnnpahcanpakcaaN9
import Derived.Test.YtnnpahcanpakcaaAlFrm
namespace Go.Proofs.Ytnnpahcanpakcaa
open Go.AL
variable {P : Program} [h : Facts P]

theorem c_IndexFuncM (p : TMsg → Bool) (fid : FuncId) (caps : List A) (l : List (TMsg)) (hl : l.length ≤ 9223372036854775807) (hn : noidL caps = true) (hp : ∀ x ∈ l, FCall P fid (.agg x.cells :: caps) (fun r => r = .bool (p x))) :
    FCall P 41 [Ls false l, .fn fid caps] (fun r => r = .int .i64 (idxZ p l)) := by
  refine fcall_of h.f41 rfl (by decide) h.mo (by kernel_rfl) fun X hX => ?_
  simp
  refine awp_loop (σ := Nat) (fun k => (⟨[Ls false l, .fn fid caps, .any, .any, .any, .any, .any, .int .i64 l.length, .int .i64 k, .any, .any, .any, .any, .any, .any, .any, .any, .any, .any], []⟩ : S)) (fun k => k ≤ l.length ∧ ∀ j (hj : j < l.length), j < k → p l[j] = false) (fun k => l.length - k) 0 (Wk.slots (by simp)) ⟨by omega, by simp⟩ ?_
  rintro k ⟨hk, hinv⟩
  refine vc_sound h.mo _ _ _ (by kernel_rfl) ?_
  rcases Nat.lt_or_ge k l.length with hlt | hge
  · have hk1 := wrap_succ hlt hl
    simp [hlt]
    refine xcall_noid (hp _ (List.getElem_mem hlt)) (by simp [hn]) ?_
    rintro _ rfl
    simp
    refine ⟨fun g => (idxZ_at hlt g hinv).symm, fun g => ⟨k + 1, Wk.ren 0 [] hX rfl (by decide) (by simp [hk1, leL_noid hn]) (by simp [hasRL_noid hn]) (by simp) (by simp), ⟨by omega, step_no hinv hlt g⟩, by omega⟩⟩
  · have hge2 : ¬ k < l.length := by omega
    simp [hge2]
    exact (idxZ_no fun j hj => hinv j hj (by omega)).symm


theorem c_DeleteFuncM (p : TMsg → Bool) (fid : FuncId) (caps : List A) (l : List (TMsg)) (hl : l.length ≤ 9223372036854775807) (hn : noidL caps = true) (hw : wkL caps = caps) (hp : ∀ x ∈ l, FCall P fid (.agg x.cells :: caps) (fun r => r = .bool (p x))) :
    XCall P 37 [B 0 l, .fn fid caps] [RF 38 l 0] (fun r H' => ∃ r1 k, H' = r1 :: List.replicate k dead0 ∧ (r1.live = true → (RF 38 l 0).live = true) ∧ noidL r1.es = true ∧ frmd r = true ∧ ∃ c ex, r = .own 0 0 (l.filter fun x => !p x).length c ex ∧ RowCut (some r1) (l.filter fun x => !p x)) := by
  refine xcall_of h.f37 rfl (by decide) h.mo (by kernel_rfl) fun X hX => ?_
  simp
  refine xcall_fn (c_IndexFuncM p fid caps l hl hn hp) (by simp [hn, hw]) ?_
  rcases idxZ_or p l with ⟨hz, hno⟩ | ⟨i0, hz, hi0, hyes, hno⟩
  · have hf : l.filter (fun x => !p x) = l := List.filter_eq_self.2 fun x hx => by simp [hno x hx]
    rw [hf]
    simp [hz]
    refine ⟨rfl, ⟨l.length, by cases l <;> simp [B]⟩, ?_⟩
    · cases l with
      | nil => exact .inl rfl
      | cons x l => exact .inr ⟨_, _, _, rfl, List.take_of_length_le (by simp)⟩
  have hne : l ≠ [] := by rintro rfl; simp at hi0
  have hem : l.isEmpty = false := by cases l with | nil => exact (hne rfl).elim | cons _ _ => rfl
  have hz' : ¬ (i0 : Int) = -1 := by omega
  have hk0 := wrap_succ hi0 hl
  simp [hz, hz', hk0]
  have hf0 : (l.take (i0 + 1)).filter (fun x => !p x) = l.take i0 := by
    rw [List.take_succ_eq_append_getElem hi0, List.filter_append]
    have : (l.take i0).filter (fun x => !p x) = l.take i0 := List.filter_eq_self.2 fun x hx => by
      obtain ⟨j, hj, rfl⟩ := List.mem_take_iff_getElem.1 hx
      simp [hno j (by omega) (by omega)]
    rw [this]; simp [hyes]
  refine awp_loop (σ := Nat × Nat × List (TMsg)) (fun s => (⟨[B 0 l, .fn fid caps, .any, .any, .any, .int .i64 s.1, .int .i64 s.2.1, .any, .any, .any, .any, .any, .any, .any, .any, .any, .any, .any, .any, .any, .any, .any, .any, .any, .any, .any, .any, .any, .any, .any, .any, .any, .any, .any, .any, .any, .any, .any, .any, .any, .any, .any], [⟨38, Enc.sz (TMsg), s.2.2.map Enc.enc, 0, true⟩]⟩ : S)) (fun s => s.1 < s.2.1 ∧ s.2.1 ≤ l.length ∧ s.2.2.length = l.length ∧ s.2.2.take s.1 = (l.take s.2.1).filter (fun x => !p x) ∧ s.2.2.drop s.2.1 = l.drop s.2.1) (fun s => l.length - s.2.1) (i0, i0 + 1, l) (Wk.ren 1 [0] hX rfl (by decide) (by simp [hk0, leL_noid hn]) (by simp [hasRL_noid hn]) (by simp) (by simp [RF_ne hne])) ⟨by simp, by simp; omega, rfl, hf0.symm, rfl⟩ ?_
  rintro ⟨i, j, m⟩ ⟨hij, hj, hm, htk, hdr⟩
  simp only at hij hj hm htk hdr
  refine vc_sound h.mo _ _ _ (by kernel_rfl) ?_
  rcases Nat.lt_or_ge j l.length with hlt | hge
  · have hk1 := wrap_succ hlt hl
    have hi1 : i < m.length := by omega
    have hk2 := wrap_succ hi1 (by omega)
    have hjm : j < m.length := by omega
    have hx : m[j] = l[j] := by
      rw [List.drop_eq_getElem_cons hlt, List.drop_eq_getElem_cons hjm] at hdr
      exact (List.cons.inj hdr).1
    have hdr1 : m.drop (j + 1) = l.drop (j + 1) := by rw [← List.drop_drop, ← List.drop_drop, hdr]
    have hft : (l.take (j + 1)).filter (fun x => !p x) = if p l[j] = true then m.take i else m.take i ++ [l[j]] := by
      rw [List.take_succ_eq_append_getElem hlt, List.filter_append, ← htk]
      cases h1 : p l[j] <;> simp [h1]
    have hpx := hp _ (List.getElem_mem hlt)
    obtain ⟨x, hxe⟩ : ∃ x, l[j] = x := ⟨_, rfl⟩
    rw [hxe] at hx hft hpx
    simp [hlt, hm, hx]
    refine xcall_noid hpx (by simp [hn]) ?_
    rintro _ rfl
    cases hpv : p x
    · rw [if_neg (by simp [hpv])] at hft
      have hi2 : i < l.length := by omega
      obtain ⟨m', hm'⟩ : ∃ m', m.set i x = m' := ⟨_, rfl⟩
      have e : (m.map Enc.enc).set i (Enc.enc x) = m'.map Enc.enc := by rw [← hm', List.map_set]
      simp at e
      simp [hi2, hk2, hm]
      refine ⟨i + 1, j + 1, m', Wk.ren 1 [0] (by simp at hX ⊢; exact hX) rfl (by decide) (by simp [hk1, hk2, leL_noid hn]) (by simp [hasRL_noid hn]) (by simp) (by simp [e]), ⟨by omega, by omega, by rw [← hm']; simp [hm], ?_, ?_⟩, by omega⟩
      · rw [hft, ← hm', List.take_succ_eq_append_getElem (by simp; omega), List.take_set_of_le (Nat.le_refl i)]
        simp
      · rw [← hm', List.drop_set_of_lt (by omega)]
        exact hdr1
    · rw [if_pos hpv] at hft
      simp
      exact ⟨i, j + 1, m, Wk.ren 1 [0] (by simp at hX ⊢; exact hX) rfl (by decide) (by simp [hk1, leL_noid hn]) (by simp [hasRL_noid hn]) (by simp) (by simp), ⟨by omega, by omega, hm, hft.symm, hdr1⟩, by omega⟩
  · have hge2 : ¬ j < l.length := by omega
    have hjl : j = l.length := by omega
    subst hjl
    rw [List.take_length] at htk
    have hlen : (l.filter fun x => !p x).length = i := by rw [← htk, List.length_take]; omega
    rw [hlen]
    have hi3 : i ≤ l.length := by omega
    have hi4 : ¬ l.length - i = 0 := by omega
    simp [hi3, hi4, hm, hem]
    have ho : ∀ r : Row, r.live = true → r.ty = 38 → ownOK P [r] (23) (B 0 l) = true := by
      rintro ⟨_, _, _, _, _⟩ h1 h2
      simp only at h1 h2
      subst h1 h2
      simp [B]
    refine ⟨ho _ rfl rfl, ho _ rfl rfl, by rw [RF_ne hne], noidL_replicate _ rfl _, rfl, .inr ⟨_, _, _, rfl, ?_⟩⟩
    rw [hlen, List.take_append_of_le_length (by simp; omega), ← htk, List.map_take, List.take_take, Nat.min_self]

theorem c_CloneM (l : List (TMsg)) (hl : l.length ≤ 40000000000) (H : List Row) : XCall P 38 [Ls false l] H (fun r H' => r = B (H.length + 1) l ∧ H' = H ++ [dead0] ++ [RF 38 l 0]) := by
  refine xcall_new 38 l (xcall_of h.f38 rfl (by decide) h.mo (by kernel_rfl) fun X hX => ?_)
  cases l with
  | nil =>
    simp [Fresh]
  | cons x l =>
    simp [Fresh]
    simp at hl
    omega


theorem c_evNull (m : TMsg) : FCall P 39 [.agg m.cells] (fun r => r = .bool m.fNull) := by
  refine fcall_of h.f39 rfl (by decide) h.mo (by kernel_rfl) fun X hX => ?_
  simp
def evL (n : TNet) : List TMsg := if netE n = 0 then n.fMsgs.filter fun m => !m.fNull else []
theorem c_events (n : TNet) (hn : fitN n) : FCall P 34 [.agg n.cells] (fun r => r = Ls false (evL n)) := by
  refine fcall_of h.f34 rfl (by decide) h.mo (by kernel_rfl) fun X hX => ?_
  obtain ⟨d1, d2, d3⟩ := hn
  simp
  refine xcall_fn (c_Check n (by omega) (by omega)) (by simp) ?_
  by_cases h0 : netE n = 0
  case neg => simp [h0, evL]
  simp [h0, evL]
  refine xcall_mono (c_CloneM n.fMsgs (by omega) _) ?_
  rintro _ _ ⟨rfl, rfl⟩
  simp
  refine xcall_frame 2 (c_DeleteFuncM (fun m => m.fNull) _ [] n.fMsgs (by omega) rfl (by simp) fun m _ => c_evNull m) rfl (by simp) (by simp) (by simp) ?_
  rintro _ r1 ⟨c, ex, rfl, hcut⟩
  simp [reA, hcut]

/-- The least time. -/
def minT (a : Int) (l : List TMsg) : Int := l.foldl (fun a m => min a m.fEvent.fTime) a
theorem minT_take {a : Int} {l : List TMsg} {k : Nat} (hk : k < l.length) : minT a (l.take (k + 1)) = min (minT a (l.take k)) l[k].fEvent.fTime := by
  unfold minT
  rw [List.take_succ_eq_append_getElem hk, List.foldl_append]
  rfl
theorem lst_true : ∀ (l : List TMsg) (t : Int), lst t true l = (minT t (l.filter fun m => !m.fNull), true)
  | [], t => rfl
  | m :: l, t => by
    rw [lst_cons]
    cases h1 : m.fNull
    · by_cases h2 : m.fEvent.fTime < t
      · rw [if_pos ⟨rfl, .inr h2⟩, lst_true l, List.filter_cons, if_pos (by simp [h1])]
        have : min t m.fEvent.fTime = m.fEvent.fTime := by omega
        simp [minT, this]
      · rw [if_neg (by simp [h2]), lst_true l, List.filter_cons, if_pos (by simp [h1])]
        have : min t m.fEvent.fTime = t := by omega
        simp [minT, this]
    · rw [if_neg (by simp), List.filter_cons, if_neg (by simp [h1])]
      exact lst_true l t
theorem lst_false : ∀ (l : List TMsg), lst 0 false l = match l.filter fun m => !m.fNull with | [] => (0, false) | m :: r => (minT m.fEvent.fTime (m :: r), true)
  | [] => rfl
  | m :: l => by
    rw [lst_cons]
    cases h1 : m.fNull
    · rw [if_pos ⟨rfl, .inl rfl⟩, lst_true, List.filter_cons, if_pos (by simp [h1])]
      simp [minT]
    · rw [if_neg (by simp), List.filter_cons, if_neg (by simp [h1])]
      exact lst_false l
theorem leastP_eq (n : TNet) : leastP n = match evL n with | [] => (0, false) | m :: r => (minT m.fEvent.fTime (m :: r), true) := by
  unfold leastP evL
  by_cases h0 : netE n = 0
  · rw [if_pos h0, if_pos h0]; exact lst_false _
  · rw [if_neg h0, if_neg h0]
theorem evL_len (n : TNet) : (evL n).length ≤ n.fMsgs.length := by
  unfold evL
  split
  · exact List.length_filter_le _ _
  · simp

theorem c_Least (n : TNet) (hn : fitN n) : FCall P 19 [.agg n.cells] (fun r => r = .tup [.int .i64 (leastP n).1, .bool (leastP n).2]) := by
  refine fcall_of h.f19 rfl (by decide) h.mo (by kernel_rfl) fun X hX => ?_
  simp
  refine xcall_fn (c_events n hn) (by simp) ?_
  have hle := evL_len n
  have hle2 := hn.2.1
  have hP := leastP_eq n
  generalize evL n = l at hle hP
  by_cases hnil : l = []
  · subst hnil
    simp [hP]
  have hln : 0 < l.length := List.length_pos_iff.2 hnil
  have hP2 : leastP n = (minT l[0].fEvent.fTime l, true) := by
    cases l with
    | nil => exact (hnil rfl).elim
    | cons m r => exact hP
  have hlz : ¬ (l.length : Int) = 0 := by omega
  have hlz2 : (0 : Int) < l.length := by omega
  rw [hP2]
  clear hP hP2
  obtain ⟨a, ha⟩ : ∃ a, l[0] = a := ⟨_, rfl⟩
  simp [hnil, hln, hlz, hlz2, ha]
  generalize a.fEvent.fTime = a
  refine awp_loop (σ := Nat) (fun k => (⟨[.any, .any, .any, .any, .any, .int .i64 (minT a (l.take k)), .any, .any, .any, .any, .any, .any, .any, .any, .any, .any, .any, .any, Ls false l, .int .i64 l.length, .int .i64 k, .any, .any, .any, .any, .any, .any, .any, .any, .any, .any], []⟩ : S)) (fun k => k ≤ l.length) (fun k => l.length - k) 0 (Wk.ren 0 [] hX rfl (by decide) (by simp [minT]) (by simp) (by simp) (by simp)) (by omega) ?_
  rintro k hk
  refine vc_sound h.mo _ _ _ (by kernel_rfl) ?_
  rcases Nat.lt_or_ge k l.length with hlt | hge
  · have hk1 := wrap_succ hlt (by omega)
    have hmt := minT_take (a := a) hlt
    simp [hlt]
    exact ⟨k + 1, Wk.ren 0 [] hX rfl (by decide) (by simp [hk1, hmt]) (by simp) (by simp) (by simp), by omega, by omega⟩
  · have hkl : k = l.length := by omega
    subst hkl
    simp
theorem idle_eq (n : TNet) : idleB n = (decide (netE n = 0) && decide ((evL n).length = 0)) := by
  unfold idleB
  rw [leastP_eq]
  cases evL n <;> simp
theorem c_Idle (n : TNet) (hn : fitN n) : FCall P 22 [.agg n.cells] (fun r => r = .bool (idleB n)) := by
  refine fcall_of h.f22 rfl (by decide) h.mo (by kernel_rfl) fun X hX => ?_
  have hn0 := hn
  obtain ⟨d1, d2, d3⟩ := hn
  simp
  refine xcall_fn (c_Check n (by omega) (by omega)) (by simp) ?_
  rw [idle_eq]
  by_cases h0 : netE n = 0
  case neg => simp [h0]
  simp [h0]
  refine xcall_fn (c_events n hn0) (by simp) ?_
  simp
end Go.Proofs.Ytnnpahcanpakcaa
