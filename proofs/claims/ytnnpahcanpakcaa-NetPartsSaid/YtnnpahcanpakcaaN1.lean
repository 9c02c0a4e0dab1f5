/- Chapter 35: networks: the plain forms; delays, New, over any program that has the text. -/
import Derived.Test.YtnnpahcanpakcaaTy
namespace Go.Proofs.Ytnnpahcanpakcaa
open Go.AL
variable {P : Program} [h : Facts P]

def wiB (n most : Int) : Bool := decide (0 ≤ n) && decide (n ≤ most)
theorem wiB_iff {n most : Int} : wiB n most = true ↔ 0 ≤ n ∧ n ≤ most := by simp [wiB]
def dlyE (l : List Int) : Int := if l.length = 0 then 7 else if 50 < l.length then 6 else if l.all (fun n => wiB n 50) = true then 0 else 2
def zeroN : TNet := ⟨[], 0, []⟩
def newN (l : List Int) : TNet := if dlyE l = 0 then ⟨l, 0, []⟩ else zeroN

theorem c_within (n most : Int) : FCall P 28 [.int .i64 n, .int .i64 most] (fun r => r = .bool (wiB n most)) := by
  refine fcall_of h.f28 rfl (by decide) h.mo (by kernel_rfl) fun X hX => ?_
  by_cases h1 : 0 ≤ n <;> by_cases h2 : n ≤ most <;> simp [wiB, h1, h2] <;> omega
theorem c_dly1 (n : Int) : FCall P 36 [.int .i64 n] (fun r => r = .bool (!wiB n 50)) := by
  refine fcall_of h.f36 rfl (by decide) h.mo (by kernel_rfl) fun X hX => ?_
  simp
  refine xcall_fn (c_within n 50) (by simp) ?_
  simp
theorem c_IndexFunc (p : Int → Bool) (fid : FuncId) (caps : List A) (l : List (Int)) (hl : l.length ≤ 9223372036854775807) (hn : noidL caps = true) (hp : ∀ x ∈ l, FCall P fid (.int .i64 x :: caps) (fun r => r = .bool (p x))) :
    FCall P 40 [Ls false l, .fn fid caps] (fun r => r = .int .i64 (idxZ p l)) := by
  refine fcall_of h.f40 rfl (by decide) h.mo (by kernel_rfl) fun X hX => ?_
  simp
  refine awp_loop (σ := Nat) (fun k => (⟨[Ls false l, .fn fid caps, .any, .any, .any, .any, .any, .int .i64 l.length, .int .i64 k, .any, .any, .any, .any, .any, .any, .any, .any, .any, .any], []⟩ : S)) (fun k => k ≤ l.length ∧ ∀ j (hj : j < l.length), j < k → p l[j] = false) (fun k => l.length - k) 0 (Wk.slots (by simp)) ⟨by omega, by simp⟩ ?_
  rintro k ⟨hk, hinv⟩
  refine vc_sound h.mo _ _ _ (by kernel_rfl) ?_
  rcases Nat.lt_or_ge k l.length with hlt | hge
  · have hk1 := wrap_succ hlt hl
    simp [hlt]
    refine xcall_noid (hp _ (List.getElem_mem hlt)) (by simp [hn]) ?_
    rintro _ rfl
    simp
    refine ⟨fun g => (idxZ_at hlt g hinv).symm, fun g => ⟨k + 1, Wk.ren 0 [] hX rfl (by decide) (by simp [hk1, leL_noid hn]) (by simp [hasRL_noid hn]) (by simp) (by simp), ⟨by omega, step_no hinv hlt g⟩, by omega⟩⟩
  · have hge2 : ¬ k < l.length := by omega
    simp [hge2]
    exact (idxZ_no fun j hj => hinv j hj (by omega)).symm

theorem c_ContainsFunc (p : Int → Bool) (fid : FuncId) (caps : List A) (l : List (Int)) (hl : l.length ≤ 9223372036854775807) (hn : noidL caps = true) (hp : ∀ x ∈ l, FCall P fid (.int .i64 x :: caps) (fun r => r = .bool (p x))) :
    FCall P 35 [Ls false l, .fn fid caps] (fun r => r = .bool (l.any p)) := by
  refine fcall_of h.f35 rfl (by decide) h.mo (by kernel_rfl) fun X hX => ?_
  simp
  refine xcall_noid (c_IndexFunc p fid caps l hl hn hp) (by simp [hn]) ?_
  rintro _ rfl
  simp [idxZ_nonneg, -List.any_eq_true]


theorem c_Clone (l : List (Int)) (hl : l.length ≤ 40000000000) (H : List Row) : XCall P 26 [Ls false l] H (fun r H' => r = B (H.length + 1) l ∧ H' = H ++ [dead0] ++ [RF 3 l 0]) := by
  refine xcall_new 3 l (xcall_of h.f26 rfl (by decide) h.mo (by kernel_rfl) fun X hX => ?_)
  cases l with
  | nil =>
    simp [Fresh]
  | cons x l =>
    simp [Fresh]
    simp at hl
    omega


theorem c_delays (l : List Int) (hl : l.length ≤ 9223372036854775807) : FCall P 25 [Ls false l] (fun r => r = .int .i64 (dlyE l)) := by
  refine fcall_of h.f25 rfl (by decide) h.mo (by kernel_rfl) fun X hX => ?_
  unfold dlyE
  by_cases h0 : l.length = 0
  · have : l = [] := List.eq_nil_of_length_eq_zero h0
    simp [this]
  by_cases h1 : 50 < l.length
  · have h2 : (50 : Int) < l.length := by omega
    have h3 : l ≠ [] := by simpa using h0
    simp [h1, h2, h3]
  have h2 : ¬ (50 : Int) < l.length := by omega
  have h3 : l ≠ [] := by simpa using h0
  simp [h1, h2, h3]
  refine xcall_fn (c_ContainsFunc (fun n => !wiB n 50) _ [] l hl (by simp) fun n _ => c_dly1 n) (by simp) ?_
  by_cases h4 : l.any (fun n => !wiB n 50) = true
  · have h5 : ∃ x, x ∈ l ∧ wiB x 50 = false := by simpa using h4
    rw [h4]
    simp
    exact h5
  · have h5 : ∀ x ∈ l, wiB x 50 = true := by simpa using h4
    rw [Bool.not_eq_true] at h4
    rw [h4]
    simp
    exact h5

theorem c_New (l : List Int) (hl : l.length ≤ 4000000000) : FCall P 10 [Ls false l] (fun r => r = .tup [.agg (newN l).cells, .int .i64 (dlyE l)]) := by
  refine fcall_of h.f10 rfl (by decide) h.mo (by kernel_rfl) fun X hX => ?_
  simp
  refine xcall_fn (c_delays l (by omega)) (by simp) ?_
  by_cases h0 : dlyE l = 0
  · simp [h0, newN]
    refine xcall_mono (c_Clone l (by omega) _) ?_
    rintro _ _ ⟨rfl, rfl⟩
    simp
  · simp [h0, newN, zeroN]

theorem c_of (m : TMsg) : FCall P 30 [.agg m.cells] (fun r => r = .agg [.int .i64 m.fFrom, .int .i64 m.fTo]) := by
  refine fcall_of h.f30 rfl (by decide) h.mo (by kernel_rfl) fun X hX => ?_
  simp
def endsB (m : TMsg) : Bool := wiB m.fFrom 15 && wiB m.fTo 15
theorem c_ends (m : TMsg) : FCall P 29 [.agg m.cells] (fun r => r = .bool (endsB m)) := by
  refine fcall_of h.f29 rfl (by decide) h.mo (by kernel_rfl) fun X hX => ?_
  simp
  refine xcall_fn (c_within m.fFrom 15) (by simp) ?_
  unfold endsB
  cases h1 : wiB m.fFrom 15
  · simp
  · simp
    refine xcall_fn (c_within m.fTo 15) (by simp) ?_
    simp
end Go.Proofs.Ytnnpahcanpakcaa
