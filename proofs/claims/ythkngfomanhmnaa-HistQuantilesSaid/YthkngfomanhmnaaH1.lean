/- Chapter 29: histograms: the plain forms, New and Check, over any program that has the text. -/
import Derived.Test.YthkngfomanhmnaaTy
namespace Go.Proofs.Ythkngfomanhmnaa
open Go.AL
variable {P : Program} [h : Facts P]

def inB (n : Int) : Bool := decide (-1000000000000 ≤ n) && decide (n ≤ 1000000000000)
def cntB (n : Int) : Bool := decide (0 ≤ n) && decide (n ≤ 1000000000000)
theorem inB_iff {n : Int} : inB n = true ↔ -1000000000000 ≤ n ∧ n ≤ 1000000000000 := by simp [inB]
theorem cntB_iff {n : Int} : cntB n = true ↔ 0 ≤ n ∧ n ≤ 1000000000000 := by simp [cntB]
def newE (low width bins : Int) : Int := if inB low = true ∧ 1 ≤ width ∧ width ≤ 1000000 ∧ 1 ≤ bins ∧ bins ≤ 100 then 0 else 2
def zeroH : THist := ⟨0, 0, [], 0, 0⟩
def newH (low width bins : Int) : THist := if newE low width bins = 0 then ⟨low, width, List.replicate bins.toNat 0, 0, 0⟩ else zeroH
def cnts (x : THist) : List Int := x.fBelow :: x.fBins ++ [x.fOver]
def hck (x : THist) : Int := if newE x.fLow x.fWidth x.fBins.length = 0 ∧ (cnts x).all cntB = true then 0 else 2

theorem newE_cases (a b c : Int) : newE a b c = 0 ∨ newE a b c = 2 := by unfold newE; split <;> simp
theorem newE_zero {a b c : Int} : newE a b c = 0 ↔ inB a = true ∧ 1 ≤ b ∧ b ≤ 1000000 ∧ 1 ≤ c ∧ c ≤ 100 := by unfold newE; split <;> simp_all
theorem hck_cases (x : THist) : hck x = 0 ∨ hck x = 2 := by unfold hck; split <;> simp
theorem hck_zero {x : THist} : hck x = 0 ↔ newE x.fLow x.fWidth x.fBins.length = 0 ∧ (cnts x).all cntB = true := by unfold hck; split <;> simp_all

theorem c_In (n : Int) : FCall P 28 [.int .i64 n] (fun r => r = .bool (inB n)) := by
  refine fcall_of h.f28 rfl (by decide) h.mo (by kernel_rfl) fun X hX => ?_
  by_cases h1 : -1000000000000 ≤ n <;> by_cases h2 : n ≤ 1000000000000 <;> simp [inB, h1, h2] <;> omega
theorem c_RIn (n : Int) : FCall P 29 [.int .i64 n] (fun r => r = .bool (inB n)) := by
  refine fcall_of h.f29 rfl (by decide) h.mo (by kernel_rfl) fun X hX => ?_
  by_cases h1 : -1000000000000 ≤ n <;> by_cases h2 : n ≤ 1000000000000 <;> simp [inB, h1, h2] <;> omega

theorem c_New (low width bins : Int) : FCall P 12 [.int .i64 low, .int .i64 width, .int .i64 bins] (fun r => r = .tup [.agg (newH low width bins).cells, .int .i64 (newE low width bins)]) := by
  refine fcall_of h.f12 rfl (by decide) h.mo (by kernel_rfl) fun X hX => ?_
  simp
  refine xcall_fn (c_In low) (by simp) ?_
  by_cases h0 : newE low width bins = 0
  · obtain ⟨g1, g2, g3, g4, g5⟩ := newE_zero.1 h0
    obtain ⟨m, rfl⟩ : ∃ m : Nat, bins = (m : Int) := ⟨bins.toNat, by omega⟩
    simp [h0, g1, g2, g3, g4, g5, newH]
    omega
  · have h1 : newH low width bins = zeroH := by simp [newH, h0]
    have h2 : newE low width bins = 2 := (newE_cases low width bins).resolve_left h0
    have h3 := mt newE_zero.2 h0
    simp [h1, h2, zeroH]
    exact fun a1 a2 a3 a4 => Int.not_le.1 fun a5 => h3 ⟨a1, a2, a3, a4, a5⟩

theorem c_RNew (low width bins : Int) : FCall P 13 [.int .i64 low, .int .i64 width, .int .i64 bins] (fun r => r = .tup [.agg (newH low width bins).cells, .int .i64 (newE low width bins)]) := by
  refine fcall_of h.f13 rfl (by decide) h.mo (by kernel_rfl) fun X hX => ?_
  simp
  refine xcall_fn (c_RIn low) (by simp) ?_
  by_cases h0 : newE low width bins = 0
  · obtain ⟨g1, g2, g3, g4, g5⟩ := newE_zero.1 h0
    obtain ⟨m, rfl⟩ : ∃ m : Nat, bins = (m : Int) := ⟨bins.toNat, by omega⟩
    simp [h0, g1, g2, g3, g4, g5, newH]
    omega
  · have h1 : newH low width bins = zeroH := by simp [newH, h0]
    have h2 : newE low width bins = 2 := (newE_cases low width bins).resolve_left h0
    have h3 := mt newE_zero.2 h0
    simp [h1, h2, zeroH]
    exact fun a1 a2 a3 a4 => Int.not_le.1 fun a5 => h3 ⟨a1, a2, a3, a4, a5⟩

theorem c_Cnt (n : Int) : FCall P 32 [.int .i64 n] (fun r => r = .bool (!cntB n)) := by
  refine fcall_of h.f32 rfl (by decide) h.mo (by kernel_rfl) fun X hX => ?_
  by_cases h1 : 0 ≤ n <;> by_cases h2 : n ≤ 1000000000000 <;> simp [cntB, h1, h2] <;> omega
theorem c_RCnt (n : Int) : FCall P 33 [.int .i64 n] (fun r => r = .bool (cntB n)) := by
  refine fcall_of h.f33 rfl (by decide) h.mo (by kernel_rfl) fun X hX => ?_
  by_cases h1 : 0 ≤ n <;> by_cases h2 : n ≤ 1000000000000 <;> simp [cntB, h1, h2] <;> omega

theorem c_IndexFunc (p : Int → Bool) (fid : FuncId) (caps : List A) (l : List (Int)) (hl : l.length ≤ 9223372036854775807) (hn : noidL caps = true) (hp : ∀ x ∈ l, FCall P fid (.int .i64 x :: caps) (fun r => r = .bool (p x))) :
    FCall P 38 [Ls false l, .fn fid caps] (fun r => r = .int .i64 (idxZ p l)) := by
  refine fcall_of h.f38 rfl (by decide) h.mo (by kernel_rfl) fun X hX => ?_
  simp
  refine awp_loop (σ := Nat) (fun k => (⟨[Ls false l, .fn fid caps, .any, .any, .any, .any, .any, .int .i64 l.length, .int .i64 k, .any, .any, .any, .any, .any, .any, .any, .any, .any, .any], []⟩ : S)) (fun k => k ≤ l.length ∧ ∀ j (hj : j < l.length), j < k → p l[j] = false) (fun k => l.length - k) 0 (Wk.slots (by simp)) ⟨by omega, by simp⟩ ?_
  rintro k ⟨hk, hinv⟩
  refine vc_sound h.mo _ _ _ (by kernel_rfl) ?_
  rcases Nat.lt_or_ge k l.length with hlt | hge
  · have hk1 := wrap_succ hlt hl
    simp [hlt]
    refine xcall_noid (hp _ (List.getElem_mem hlt)) (by simp [hn]) ?_
    rintro _ rfl
    simp
    refine ⟨fun g => (idxZ_at hlt g hinv).symm, fun g => ⟨k + 1, Wk.ren 0 [] hX rfl (by decide) (by simp [hk1, leL_noid hn]) (by simp [hasRL_noid hn]) (by simp) (by simp), ⟨by omega, step_no hinv hlt g⟩, by omega⟩⟩
  · have hge2 : ¬ k < l.length := by omega
    simp [hge2]
    exact (idxZ_no fun j hj => hinv j hj (by omega)).symm

theorem c_ContainsFunc (p : Int → Bool) (fid : FuncId) (caps : List A) (l : List (Int)) (hl : l.length ≤ 9223372036854775807) (hn : noidL caps = true) (hp : ∀ x ∈ l, FCall P fid (.int .i64 x :: caps) (fun r => r = .bool (p x))) :
    FCall P 30 [Ls false l, .fn fid caps] (fun r => r = .bool (l.any p)) := by
  refine fcall_of h.f30 rfl (by decide) h.mo (by kernel_rfl) fun X hX => ?_
  simp
  refine xcall_noid (c_IndexFunc p fid caps l hl hn hp) (by simp [hn]) ?_
  rintro _ rfl
  simp [idxZ_nonneg, -List.any_eq_true]


theorem c_Clone (l : List (Int)) (hl : l.length ≤ 40000000000) (H : List Row) : XCall P 34 [Ls false l] H (fun r H' => r = B (H.length + 1) l ∧ H' = H ++ [dead0] ++ [RF 3 l 0]) := by
  refine xcall_new 3 l (xcall_of h.f34 rfl (by decide) h.mo (by kernel_rfl) fun X hX => ?_)
  cases l with
  | nil =>
    simp [Fresh]
  | cons x l =>
    simp [Fresh]
    simp at hl
    omega


theorem c_counts (x : THist) (hl : x.fBins.length ≤ 4000000000) (h0 : x.fBins ≠ []) (H : List Row) : XCall P 31 [.agg x.cells] H (fun r H' => r = B (H.length + 4) (cnts x) ∧ ∃ d1 d2 d3 d4, H' = H ++ [d1, d2, d3, d4] ++ [RF 3 (cnts x) 0]) := by
  obtain ⟨x1, x2, x3, x4, x5⟩ := x
  obtain ⟨b, bs, rfl⟩ := List.exists_cons_of_ne_nil h0
  simp at hl
  refine xcall_of h.f31 rfl (by decide) h.mo (by kernel_rfl) fun X hX => ?_
  simp
  refine awp_fzH (by simp) ?_
  simp
  refine awp_tree (.take 0 (.take 1 (.take 3 (.take 4 (.take 6 (.take 7 (.alt 2 (.alt 5 (.alt 8 (.alt 9 (.take 10 .done) .stop) .stop) (.alt 8 (.alt 5 (.alt 9 (.take 10 .done) .stop) .stop) .stop)) (.alt 8 (.alt 2 (.alt 5 (.alt 9 (.take 10 .done) .stop) .stop) .stop) .stop)))))))) _ h.mo (by kernel_rfl) (by decide) (by kernel_rfl) (by rfl) ?_
  have e1 : 1 + (bs.length + 1) = bs.length + 2 := by omega
  simp [e1]
  simp [cnts, B, RF]
  omega

theorem hck_ne {x : THist} (h0 : newE x.fLow x.fWidth x.fBins.length = 0) : x.fBins ≠ [] ∧ x.fBins.length ≤ 100 := by
  obtain ⟨_, _, _, g1, g2⟩ := newE_zero.1 h0
  exact ⟨by rintro h1; simp [h1] at g1, by omega⟩
theorem hck_any {x : THist} (h0 : newE x.fLow x.fWidth x.fBins.length = 0) : hck x = if (cnts x).any (fun n => !cntB n) = true then 2 else 0 := by
  unfold hck
  by_cases h1 : (cnts x).all cntB = true
  · rw [if_pos ⟨h0, h1⟩, if_neg]
    simpa using h1
  · rw [if_neg (fun h => h1 h.2), if_pos]
    simpa using h1

theorem c_Check (x : THist) (hl : x.fBins.length ≤ 4000000000) : FCall P 15 [.agg x.cells] (fun r => r = .int .i64 (hck x)) := by
  refine fcall_of h.f15 rfl (by decide) h.mo (by kernel_rfl) fun X hX => ?_
  simp
  refine xcall_fn (c_New x.fLow x.fWidth x.fBins.length) (by simp) ?_
  by_cases h0 : newE x.fLow x.fWidth x.fBins.length = 0
  · have h1 := hck_any h0
    simp [h0]
    refine xcall_mono (c_counts x hl (hck_ne h0).1 _) ?_
    rintro _ _ ⟨rfl, d1, d2, d3, d4, rfl⟩
    simp
    refine xcall_fn (c_ContainsFunc (fun n => !cntB n) _ [] (cnts x) (by simp [cnts]; omega) (by simp) fun n _ => c_Cnt n) (by simp) ?_
    simp [h1]
  · have h1 : hck x = 2 := (hck_cases x).resolve_left (fun h2 => h0 (hck_zero.1 h2).1)
    simp [h0, h1]
    exact (newE_cases _ _ _).resolve_left h0
end Go.Proofs.Ythkngfomanhmnaa
