/- Chapter 21: stores: Check, over any program that has the text. -/
import Derived.Test.YtmnpiibjjamjiaaW1
namespace Go.Proofs.Ytmnpiibjjamjiaa
open Go.AL
variable {P : Program} [h : Facts P]

theorem c_RWaiters (s : TStore) (hs : fitS s) : FCall P 34 [.agg s.cells] (fun r => r = Ls false (waitL s)) := by
  refine fcall_of h.f34 rfl (by decide) h.mo (by kernel_rfl) fun X hX => ?_
  obtain ⟨room, pol, items, put, get, i, o⟩ := s
  obtain ⟨d1, d2, d3⟩ := hs
  simp only at d1 d2 d3
  simp
  refine awp_loop (σ := Nat) (fun k => (⟨[.any, .pto 0 7 0 0, .any, B 1 (prc (put.take k)), .int .i64 k, .any, .any, .any, .any, .any, .any, .any, .any, .any, .any, .any, .any, .any, .any, .any, .any, .any, .any, .any, .any], [⟨26, 7, [.agg (⟨room, pol, items, put, get, i, o⟩ : TStore).cells], 0, true⟩, RF 3 (prc (put.take k)) 0]⟩ : S)) (fun k => k ≤ put.length) (fun k => put.length - k) 0 (Wk.ren 0 [0, 1] hX rfl (by decide) (by simp [prc]) (by simp) (by simp) (by simp [prc])) (by omega) ?_
  rintro k hk
  refine vc_sound h.mo _ _ _ (by kernel_rfl) ?_
  rcases Nat.lt_or_ge k put.length with hlt | hge
  · have hk1 := wrap_succ hlt (by omega)
    have hp := prc_take hlt
    have hpl : (prc (put.take k)).length ≤ put.length := by simp [prc]; omega
    generalize prc (put.take k) = L at hp hpl
    simp [hlt]
    exact ⟨⟨by omega, by omega⟩, k + 1, Wk.ren 0 [0, 3] hX rfl (by decide) (by simp [hk1, hp]) (by simp) (by simp) (by simp [hp]), by omega, by omega⟩
  · have hkl : k = put.length := by omega
    subst hkl
    have hpl : (prc put).length = put.length := by simp [prc]
    simp [waitL]
    omega

theorem c_out1 (n : Int) : FCall P 28 [.int .i64 n] (fun r => r = .bool (!inB n)) := by
  refine fcall_of h.f28 rfl (by decide) h.mo (by kernel_rfl) fun X hX => ?_
  simp
  refine xcall_fn (c_In n) (by simp) ?_
  simp
theorem c_out2 (x : TReady) : FCall P 32 [.agg x.cells, .ptr (.fn 28 [])] (fun r => r = .bool (!inB x.fItem)) := by
  refine fcall_of h.f32 rfl (by decide) h.mo (by kernel_rfl) fun X hX => ?_
  simp
  refine xcall_fn (c_out1 x.fItem) (by simp) ?_
  simp
theorem c_IndexFuncI (p : Int → Bool) (fid : FuncId) (caps : List A) (l : List (Int)) (hl : l.length ≤ 9223372036854775807) (hn : noidL caps = true) (hp : ∀ x ∈ l, FCall P fid (.int .i64 x :: caps) (fun r => r = .bool (p x))) :
    FCall P 48 [Ls false l, .fn fid caps] (fun r => r = .int .i64 (idxZ p l)) := by
  refine fcall_of h.f48 rfl (by decide) h.mo (by kernel_rfl) fun X hX => ?_
  simp
  refine awp_loop (σ := Nat) (fun k => (⟨[Ls false l, .fn fid caps, .any, .any, .any, .any, .any, .int .i64 l.length, .int .i64 k, .any, .any, .any, .any, .any, .any, .any, .any, .any, .any], []⟩ : S)) (fun k => k ≤ l.length ∧ ∀ j (hj : j < l.length), j < k → p l[j] = false) (fun k => l.length - k) 0 (Wk.slots (by simp)) ⟨by omega, by simp⟩ ?_
  rintro k ⟨hk, hinv⟩
  refine vc_sound h.mo _ _ _ (by kernel_rfl) ?_
  rcases Nat.lt_or_ge k l.length with hlt | hge
  · have hk1 := wrap_succ hlt hl
    simp [hlt]
    refine xcall_noid (hp _ (List.getElem_mem hlt)) (by simp [hn]) ?_
    rintro _ rfl
    simp
    refine ⟨fun g => (idxZ_at hlt g hinv).symm, fun g => ⟨k + 1, Wk.ren 0 [] hX rfl (by decide) (by simp [hk1, leL_noid hn]) (by simp [hasRL_noid hn]) (by simp) (by simp), ⟨by omega, step_no hinv hlt g⟩, by omega⟩⟩
  · have hge2 : ¬ k < l.length := by omega
    simp [hge2]
    exact (idxZ_no fun j hj => hinv j hj (by omega)).symm

theorem c_ContainsFuncI (p : Int → Bool) (fid : FuncId) (caps : List A) (l : List (Int)) (hl : l.length ≤ 9223372036854775807) (hn : noidL caps = true) (hp : ∀ x ∈ l, FCall P fid (.int .i64 x :: caps) (fun r => r = .bool (p x))) :
    FCall P 30 [Ls false l, .fn fid caps] (fun r => r = .bool (l.any p)) := by
  refine fcall_of h.f30 rfl (by decide) h.mo (by kernel_rfl) fun X hX => ?_
  simp
  refine xcall_noid (c_IndexFuncI p fid caps l hl hn hp) (by simp [hn]) ?_
  rintro _ rfl
  simp [idxZ_nonneg, -List.any_eq_true]


theorem c_IndexFuncR (p : TReady → Bool) (fid : FuncId) (caps : List A) (l : List (TReady)) (hl : l.length ≤ 9223372036854775807) (hn : noidL caps = true) (hp : ∀ x ∈ l, FCall P fid (.agg x.cells :: caps) (fun r => r = .bool (p x))) :
    FCall P 49 [Ls false l, .fn fid caps] (fun r => r = .int .i64 (idxZ p l)) := by
  refine fcall_of h.f49 rfl (by decide) h.mo (by kernel_rfl) fun X hX => ?_
  simp
  refine awp_loop (σ := Nat) (fun k => (⟨[Ls false l, .fn fid caps, .any, .any, .any, .any, .any, .int .i64 l.length, .int .i64 k, .any, .any, .any, .any, .any, .any, .any, .any, .any, .any], []⟩ : S)) (fun k => k ≤ l.length ∧ ∀ j (hj : j < l.length), j < k → p l[j] = false) (fun k => l.length - k) 0 (Wk.slots (by simp)) ⟨by omega, by simp⟩ ?_
  rintro k ⟨hk, hinv⟩
  refine vc_sound h.mo _ _ _ (by kernel_rfl) ?_
  rcases Nat.lt_or_ge k l.length with hlt | hge
  · have hk1 := wrap_succ hlt hl
    simp [hlt]
    refine xcall_noid (hp _ (List.getElem_mem hlt)) (by simp [hn]) ?_
    rintro _ rfl
    simp
    refine ⟨fun g => (idxZ_at hlt g hinv).symm, fun g => ⟨k + 1, Wk.ren 0 [] hX rfl (by decide) (by simp [hk1, leL_noid hn]) (by simp [hasRL_noid hn]) (by simp) (by simp), ⟨by omega, step_no hinv hlt g⟩, by omega⟩⟩
  · have hge2 : ¬ k < l.length := by omega
    simp [hge2]
    exact (idxZ_no fun j hj => hinv j hj (by omega)).symm

theorem c_ContainsFuncR (p : TReady → Bool) (fid : FuncId) (caps : List A) (l : List (TReady)) (hl : l.length ≤ 9223372036854775807) (hn : noidL caps = true) (hp : ∀ x ∈ l, FCall P fid (.agg x.cells :: caps) (fun r => r = .bool (p x))) :
    FCall P 31 [Ls false l, .fn fid caps] (fun r => r = .bool (l.any p)) := by
  refine fcall_of h.f31 rfl (by decide) h.mo (by kernel_rfl) fun X hX => ?_
  simp
  refine xcall_noid (c_IndexFuncR p fid caps l hl hn hp) (by simp [hn]) ?_
  rintro _ rfl
  simp [idxZ_nonneg, -List.any_eq_true]



def rng1 (s : TStore) : Bool := s.fItems.all inB && s.fPutters.all (fun r => inB r.fItem) && cntB s.fIn && cntB s.fOut
def formB (s : TStore) : Bool := decide (s.fIn - s.fOut = s.fItems.length) && (decide (s.fPutters.length = 0) || decide (s.fRoom ≤ s.fItems.length)) && (decide (s.fGetters.length = 0) || decide (s.fItems.length = 0))
def chkS (s : TStore) : Int := if newE s.fRoom s.fPolicy ≠ 0 then newE s.fRoom s.fPolicy else if s.fRoom < s.fItems.length ∨ 300 < (waitL s).length then 6 else if rng1 s = false ∨ (waitL s).all cntB = false then 2 else if ¬ (waitL s).Nodup then 4 else if formB s = true then 0 else 8

theorem any_not {α : Type} (p : α → Bool) (l : List α) : l.any (fun x => !p x) = !l.all p := by
  induction l with
  | nil => rfl
  | cons x l ih => simp [ih, Bool.not_and]

set_option maxHeartbeats 2000000 in
set_option maxRecDepth 20000 in
theorem c_Check (s : TStore) (hs : fitS s) : FCall P 15 [.agg s.cells] (fun r => r = .int .i64 (chkS s)) := by
  refine fcall_ofB [8] h.f15 rfl (by decide) h.mo (by kernel_rfl) fun X hX => ?_
  have hs0 := hs
  obtain ⟨d1, d2, d3⟩ := hs
  simp
  refine xcall_fn (c_New s.fRoom s.fPolicy) (by simp) ?_
  have hchk : chkS s = if newE s.fRoom s.fPolicy ≠ 0 then newE s.fRoom s.fPolicy else if s.fRoom < s.fItems.length ∨ 300 < (waitL s).length then 6 else if rng1 s = false ∨ (waitL s).all cntB = false then 2 else if ¬ (waitL s).Nodup then 4 else if formB s = true then 0 else 8 := rfl
  by_cases h0 : newE s.fRoom s.fPolicy = 0
  case neg =>
    rw [if_pos h0] at hchk
    simp [h0, hchk]
  rw [if_neg (by simp [h0])] at hchk
  simp [h0]
  refine xcall_fn (c_waiting s hs0) (by simp) ?_
  have hwl : (waitL s).length ≤ 8000000000 := by simp [waitL, prc]; omega
  by_cases h1 : s.fRoom < s.fItems.length
  · rw [if_pos (.inl h1)] at hchk
    simp [h1, hchk]
  by_cases h2 : 300 < (waitL s).length
  · rw [if_pos (.inr h2)] at hchk
    have h2' : (300 : Int) < (waitL s).length := by omega
    simp [h1, h2', hchk]
  rw [if_neg (by omega)] at hchk
  have h2' : ¬ (300 : Int) < (waitL s).length := by omega
  simp [h1, h2']
  refine awp_fz 0 (by rfl) (by simp) ?_
  refine awp_fz 2 (by rfl) (by simp) ?_
  simp
  refine awp_ops ?_
  simp
  refine xcall_noid (c_ContainsFuncI (fun n => !inB n) _ [] s.fItems (by omega) rfl fun n _ => c_out1 n) (by simp) ?_
  rintro _ rfl
  rw [any_not]
  by_cases g1 : s.fItems.all inB = true
  case neg =>
    rw [if_pos (.inl (by simp only [rng1, Bool.eq_false_iff.2 g1, Bool.false_and]))] at hchk
    simp [Bool.eq_false_iff.2 g1, hchk, -List.all_eq_true, -List.all_eq_false]
  simp [g1, -List.all_eq_true, -List.all_eq_false]
  refine xcall_noid (c_ContainsFuncR (fun r => !inB r.fItem) _ [.ptr (.fn 28 [])] s.fPutters (by omega) (by simp) fun n _ => c_out2 n) (by simp) ?_
  rintro _ rfl
  rw [any_not]
  by_cases g2 : s.fPutters.all (fun r => inB r.fItem) = true
  case neg =>
    rw [if_pos (.inl (by simp only [rng1, Bool.eq_false_iff.2 g2, Bool.false_and, Bool.and_false]))] at hchk
    simp [Bool.eq_false_iff.2 g2, hchk, -List.all_eq_true, -List.all_eq_false]
  simp [g2, -List.all_eq_true, -List.all_eq_false]
  refine xcall_fn (c_counts s.fIn) (by simp) ?_
  by_cases g3 : cntB s.fIn = true
  case neg =>
    rw [if_pos (.inl (by simp only [rng1, Bool.eq_false_iff.2 g3, Bool.false_and, Bool.and_false]))] at hchk
    simp [g3, hchk]
  simp [g3]
  refine xcall_fn (c_counts s.fOut) (by simp) ?_
  by_cases g4 : cntB s.fOut = true
  case neg =>
    rw [if_pos (.inl (by simp only [rng1, Bool.eq_false_iff.2 g4, Bool.and_false]))] at hchk
    simp [g4, hchk]
  have hr1 : rng1 s = true := by simp only [rng1, g1, g2, g3, g4, Bool.and_self]
  simp [g4]
  generalize hw : waitL s = w at hchk hwl
  refine awp_loop (σ := Nat) (fun k => (⟨[.any, .ptr (.agg s.cells), .any, .any, .any, Ls false w, .any, .mp 0, .any, .any, .any, .any, .any, .any, .any, .any, .any, .any, .any, .any, .any, .any, .any, .any, .any, .any, .any, .any, .any, .any, .any, .any, .any, .any, .any, .any, .any, .any, .any, .any, .any, .any, .any, .any, .any, .any, .any, .any, .any, .any, .any, .any, .any, .any, .any, .any, .any, .any, .any, Ls false w, .int .i64 w.length, .int .i64 k, .any, .any, .any, .any, .any, .any, .any, .any, .any, .any, .any, .any, .any, .any, .any, .any, .any, .any, .any, .any, .any, .any, .any, .any, .any, .any, .any, .any, .any, .any, .any, .any, .any, .any, .any, .any, .any, .any, .any, .any, .any, .any, .any, .any, .any, .any, .any, .any, .any, .any, .any, .any, .any, .any], [RM ([] : List (Int × Bool))]⟩ : S)) (fun k => k ≤ w.length ∧ ∀ j (hj : j < w.length), j < k → cntB w[j] = true) (fun k => w.length - k) 0 (Wk.ren 0 [3] hX rfl (by decide) (by simp) (by simp) (by simp) (by simp)) ⟨by omega, by simp⟩ ?_
  rintro k ⟨hk, hinv⟩
  refine vcB_sound [8] h.mo _ _ _ (by kernel_rfl) ?_
  rcases Nat.lt_or_ge k w.length with hlt | hge
  · have hk1 := wrap_succ hlt (by omega)
    have hsa := step_all hinv hlt
    have hno : cntB w[k] = false → w.all cntB = false := fun e => List.all_eq_false.2 ⟨_, List.getElem_mem hlt, by simp [e]⟩
    obtain ⟨x, hx⟩ : ∃ x, w[k] = x := ⟨_, rfl⟩
    rw [hx] at hsa hno
    simp [hlt, hx]
    refine xcall_fn (c_counts x) (by simp) ?_
    cases hcx : cntB x
    · rw [if_pos (.inr (hno hcx))] at hchk
      simp [hchk]
    · simp
      exact ⟨k + 1, Wk.ren 0 [0] hX rfl (by decide) (by simp [hk1]) (by simp) (by simp) (by simp), ⟨by omega, hsa hcx⟩, by omega⟩
  have hge2 : ¬ k < w.length := by omega
  have hall := all_yes (p := cntB) fun j hj => hinv j hj (by omega)
  rw [if_neg (by simp [hr1, hall])] at hchk
  clear hinv hge
  simp [hge2]
  refine awp_loop (σ := Nat × List (Int × Bool)) (fun z => (⟨[.any, .ptr (.agg s.cells), .any, .any, .any, Ls false w, .any, .mp 0, .any, .any, .any, .any, .any, .any, .any, .any, .any, .any, .any, .any, .any, .any, .any, .any, .any, .any, .any, .any, .any, .any, .any, .any, .any, .any, .any, .any, .any, .any, .any, .any, .any, .any, .any, .any, .any, .any, .any, .any, .any, .any, .any, .any, .any, .any, .any, .any, .any, .any, .any, .any, .any, .any, .any, .any, .any, .any, .any, .any, .any, Ls false w, .int .i64 w.length, .int .i64 z.1, .any, .any, .any, .any, .any, .any, .any, .any, .any, .any, .any, .any, .any, .any, .any, .any, .any, .any, .any, .any, .any, .any, .any, .any, .any, .any, .any, .any, .any, .any, .any, .any, .any, .any, .any, .any, .any, .any, .any, .any, .any, .any, .any, .any], [RM z.2]⟩ : S)) (fun z => z.1 ≤ w.length ∧ (w.take z.1).Nodup ∧ ∀ p, ((mget z.2 p).getD false = true) = (p ∈ w.take z.1)) (fun z => w.length - z.1) (0, []) (Wk.ren 0 [0] hX rfl (by decide) (by simp) (by simp) (by simp) (by simp)) ⟨by simp, by simp, by simp⟩ ?_
  rintro ⟨k, M⟩ ⟨hk, hnd, hM⟩
  simp only at hk hnd hM
  refine vcB_sound [8] h.mo _ _ _ (by kernel_rfl) ?_
  rcases Nat.lt_or_ge k w.length with hlt | hge
  · have hk1 := wrap_succ hlt (by omega)
    have htk := List.take_succ_eq_append_getElem hlt
    have hMk := hM w[k]
    have hdup : w[k] ∈ w.take k → ¬ w.Nodup := fun e n => by
      obtain ⟨j, hj, he⟩ := List.mem_take_iff_getElem.1 e
      exact List.pairwise_iff_getElem.1 n j k (by omega) hlt (by omega) he
    obtain ⟨x, hx⟩ : ∃ x, w[k] = x := ⟨_, rfl⟩
    rw [hx] at htk hMk hdup
    by_cases hin : x ∈ w.take k
    · rw [if_pos (hdup hin)] at hchk
      have : (mget M x).getD false = true := by rw [hMk]; exact hin
      simp (config := {maxSteps := 4000000}) [hlt, hx, this, hchk]
    · have : (mget M x).getD false = false := Bool.eq_false_iff.2 fun e => hin (by rw [← hMk]; exact e)
      simp (config := {maxSteps := 4000000}) [hlt, hx, this, -Prod.exists]
      refine ⟨(k + 1, mset M x true), Wk.ren 0 [0] hX rfl (by decide) (by simp [hk1]) (by simp) (by simp) (by simp), ⟨by simp only; omega, ?_, fun p => ?_⟩, by simp only; omega⟩
      · simp only
        rw [htk]
        exact List.nodup_append.2 ⟨hnd, by simp, by rintro a ha b hb rfl; rw [List.mem_singleton] at hb; rw [hb] at ha; exact hin ha⟩
      · simp only
        rw [htk, mget_set]
        by_cases e : x = p
        · rw [if_pos e]; simp [e]
        · have e' : ¬ p = x := fun q => e q.symm
          rw [if_neg e, hM p]
          simp [e']
  have hge2 : ¬ k < w.length := by omega
  rw [List.take_of_length_le (by omega)] at hnd
  rw [if_neg (by simp [hnd])] at hchk
  have a3 := cntB_iff.1 g3
  have a4 := cntB_iff.1 g4
  have wr : IntKind.i64.wrap (s.fIn - s.fOut) = s.fIn - s.fOut := i64_id (by omega) (by omega)
  have wrl : IntKind.i64.wrap (s.fItems.length : Int) = s.fItems.length := i64_id (by omega) (by omega)
  unfold formB at hchk
  by_cases e1 : s.fIn - s.fOut = s.fItems.length
  case neg =>
    rw [if_neg (by simp [e1])] at hchk
    simp (config := {maxSteps := 4000000}) [hge2, wr, e1, hchk]
  by_cases e2 : s.fPutters.length = 0
  · by_cases e3 : s.fGetters.length = 0
    · rw [if_pos (by simp [e1, e2, e3])] at hchk
      simp (config := {maxSteps := 4000000}) [hge2, wrl, e1, hchk, List.eq_nil_of_length_eq_zero e2, List.eq_nil_of_length_eq_zero e3]
    · have e3' : 0 < s.fGetters.length := by omega
      by_cases e4 : s.fItems.length = 0
      · rw [if_pos (by simp [e1, e2, e4])] at hchk
        simp (config := {maxSteps := 4000000}) [hge2, e1, hchk, List.eq_nil_of_length_eq_zero e2, e3', e4]
      · have e4' : 0 < s.fItems.length := by omega
        rw [if_neg (by simp [e1, e2, e3, e4])] at hchk
        simp (config := {maxSteps := 4000000}) [hge2, wrl, e1, hchk, List.eq_nil_of_length_eq_zero e2, e3', e4']
  · have e2' : 0 < s.fPutters.length := by omega
    by_cases e5 : s.fRoom ≤ s.fItems.length
    · have e5' : ¬ (s.fItems.length : Int) < s.fRoom := by omega
      by_cases e3 : s.fGetters.length = 0
      · rw [if_pos (by simp [e1, e5, e3])] at hchk
        simp (config := {maxSteps := 4000000}) [hge2, wrl, e1, hchk, e2', e5', List.eq_nil_of_length_eq_zero e3]
      · have e3' : 0 < s.fGetters.length := by omega
        by_cases e4 : s.fItems.length = 0
        · rw [if_pos (by simp only [e1, decide_true, e5, eq_true e4, Bool.or_true, Bool.and_self])] at hchk
          simp (config := {maxSteps := 4000000}) [hge2, e1, hchk, e2', e3', e4]
          omega
        · have e4' : 0 < s.fItems.length := by omega
          rw [if_neg (by simp [e1, e5, e3, e4])] at hchk
          simp (config := {maxSteps := 4000000}) [hge2, wrl, e1, hchk, e2', e5', e3', e4']
    · have e5' : (s.fItems.length : Int) < s.fRoom := by omega
      rw [if_neg (by simp [e1, e2, e5])] at hchk
      simp (config := {maxSteps := 4000000}) [hge2, wrl, e1, hchk, e2', e5']

end Go.Proofs.Ytmnpiibjjamjiaa
