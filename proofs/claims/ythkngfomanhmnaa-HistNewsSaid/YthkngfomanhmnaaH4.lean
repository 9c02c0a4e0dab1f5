/- Chapter 29: histograms: Merge, over any program that has the text. -/
import Derived.Test.YthkngfomanhmnaaH3
namespace Go.Proofs.Ythkngfomanhmnaa
open Go.AL
variable {P : Program} [h : Facts P]

def mrgT (a b : THist) : THist := ⟨a.fLow, a.fWidth, List.zipWith (· + ·) a.fBins b.fBins, a.fBelow + b.fBelow, a.fOver + b.fOver⟩
def leB (n : Int) : Bool := decide (n ≤ 1000000000000)
def mrgE (a b : THist) : Int := if hck a = 0 ∧ hck b = 0 then (if a.fLow = b.fLow ∧ a.fWidth = b.fWidth ∧ a.fBins.length = b.fBins.length then (if (cnts (mrgT a b)).all leB = true then 0 else 13) else 8) else 2
def mrgH (a b : THist) : THist := if mrgE a b = 0 then mrgT a b else zeroH

theorem cnts_mrg {a b : THist} (hl : a.fBins.length = b.fBins.length) : List.zipWith (· + ·) (cnts a) (cnts b) = cnts (mrgT a b) := by
  simp only [cnts, mrgT, List.cons_append, List.zipWith_cons_cons]
  rw [List.zipWith_append hl]
  rfl

/-- The first k are sums. -/
def mix (a b : List Int) (k : Nat) : List Int := (List.zipWith (· + ·) a b).take k ++ a.drop k
theorem mix_len {a b : List Int} (hl : a.length = b.length) {k : Nat} (hk : k ≤ a.length) : (mix a b k).length = a.length := by
  simp [mix]; omega
theorem mix_get {a b : List Int} (hl : a.length = b.length) {k : Nat} (hk : k < a.length) : (mix a b k)[k]? = some a[k] := by
  unfold mix
  rw [List.getElem?_append_right (by simp; omega)]
  have : (List.take k (List.zipWith (· + ·) a b)).length = k := by simp; omega
  rw [this]
  simp [hk]
theorem mix_at {a b : List Int} (hl : a.length = b.length) {k : Nat} (hk : k < a.length) (h : k < (mix a b k).length) : (mix a b k)[k] = a[k] := by
  have := mix_get hl hk
  rw [List.getElem?_eq_getElem h] at this
  simpa using this
theorem B_len {α : Type} {l m : List α} (id : Nat) (h : l.length = m.length) : B id l = B id m := by
  unfold B
  rw [h]
  cases l <;> cases m <;> simp_all
theorem mix_set {a b : List Int} (hl : a.length = b.length) {k : Nat} (hk : k < a.length) : (mix a b k).set k (a[k] + b[k]) = mix a b (k + 1) := by
  have hz : k < (List.zipWith (· + ·) a b).length := by simp; omega
  unfold mix
  rw [List.take_succ_eq_append_getElem hz, List.drop_eq_getElem_cons hk, List.append_assoc]
  rw [List.set_append_right _ _ (by simp; omega)]
  have : (List.take k (List.zipWith (· + ·) a b)).length = k := by simp; omega
  rw [this, Nat.sub_self, List.set_cons_zero, List.getElem_zipWith]
  rfl
theorem mix_all {a b : List Int} (hl : a.length = b.length) : mix a b a.length = List.zipWith (· + ·) a b := by
  unfold mix
  rw [List.drop_length, List.take_of_length_le (by simp; omega)]
  simp

def okUp (l : List Int) (k : Nat) : Prop := (l.take k).all leB = true
theorem okUp_zero (l : List Int) : okUp l 0 := by simp [okUp]
theorem okUp_succ {l : List Int} {k : Nat} (hk : k < l.length) : okUp l (k + 1) ↔ okUp l k ∧ leB l[k] = true := by
  unfold okUp
  rw [List.take_succ_eq_append_getElem hk, List.all_append, Bool.and_eq_true]; simp
theorem okUp_all {l : List Int} (h : okUp l l.length) : l.all leB = true := by unfold okUp at h; rwa [List.take_length] at h
theorem okUp_not {l : List Int} {k : Nat} (hk : k < l.length) (h : ¬ leB l[k] = true) : ¬ l.all leB = true := fun hh => h (List.all_eq_true.1 hh _ (List.getElem_mem hk))

theorem c_Merge (a b : THist) (hla : a.fBins.length ≤ 4000000000) (hlb : b.fBins.length ≤ 4000000000) : FCall P 21 [.agg a.cells, .agg b.cells] (fun r => r = .tup [.agg (mrgH a b).cells, .int .i64 (mrgE a b)]) := by
  refine fcall_ofB [9] h.f21 rfl (by decide) h.mo (by kernel_rfl) fun X hX => ?_
  simp
  refine xcall_fn (c_Check a hla) (by simp) ?_
  by_cases h0 : hck a = 0
  case neg =>
    have e1 := (hck_cases a).resolve_left h0
    simp [mrgH, mrgE, zeroH, e1]
  simp [h0]
  refine xcall_fn (c_Check b hlb) (by simp) ?_
  by_cases h1 : hck b = 0
  case neg =>
    have e1 := (hck_cases b).resolve_left h1
    simp [mrgH, mrgE, zeroH, e1]
  simp [h1]
  by_cases g1 : a.fLow = b.fLow
  case neg => simp [mrgH, mrgE, zeroH, h0, h1, g1]
  by_cases g2 : a.fWidth = b.fWidth
  case neg => simp [mrgH, mrgE, zeroH, h0, h1, g1, g2]
  by_cases g3 : a.fBins.length = b.fBins.length
  case neg =>
    have g4 : ¬ (a.fBins.length : Int) = b.fBins.length := by omega
    simp [mrgH, mrgE, zeroH, h0, h1, g1, g2, g3, g4]
  obtain ⟨k1, k2⟩ := hck_ne (hck_zero.1 h0).1
  obtain ⟨k3, k4⟩ := hck_ne (hck_zero.1 h1).1
  have g4 : (a.fBins.length : Int) = b.fBins.length := by omega
  simp [eq_true g1, eq_true g2, eq_true g4]
  refine awp_fz 0 (by rfl) (by simp) ?_
  refine awp_fz 1 (by rfl) (by simp) ?_
  simp
  refine awp_tree (.take 0 (.take 2 (.alt 1 (.alt 3 (.take 4 (.take 5 .done)) .stop) .stop))) _ h.mo (by kernel_rfl) (by decide) (by kernel_rfl) (by rfl) ?_
  simp
  refine xcall_mono (c_counts a hla k1 _) ?_
  rintro _ _ ⟨rfl, d1, d2, d3, d4, rfl⟩
  simp
  refine xcall_mono (c_counts b hlb k3 _) ?_
  rintro _ _ ⟨rfl, f1, f2, f3, f4, rfl⟩
  simp
  have hcl : (cnts a).length = (cnts b).length := by simp [cnts, g3]
  have hca : (cnts a).length ≤ 102 := by simp [cnts]; omega
  have hz := cnts_mrg g3
  have hoa := (hck_zero.1 h0).2
  have hob := (hck_zero.1 h1).2
  generalize hA : cnts a = ca at hcl hca hz hoa
  generalize hB : cnts b = cb at hcl hz hob
  have hE : mrgE a b = if (List.zipWith (· + ·) ca cb).all leB = true then 0 else 13 := by rw [hz]; simp [mrgE, h0, h1, g1, g2, g3]
  refine awp_loop (σ := Nat) (fun k => (⟨[.any, .any, .ptr (.agg a.cells), .ptr (.agg b.cells), .pto 0 5 0 0, .any, .any, .any, B 1 (mix ca cb k), B 2 cb, .any, .any, .any, .any, .any, .any, .any, .any, .any, .any, .any, .any, .any, .any, .any, .any, .any, .any, .any, .any, .any, .any, .any, .any, .any, .any, .any, .any, .any, .any, .any, .any, .any, .any, .any, .any, .any, .any, .any, .any, .any, .int .i64 ca.length, .int .i64 k, .any, .any, .any, .any, .any, .any, .any, .any, .any, .any, .any, .any, .any, .any, .any, .any, .any, .any, .any, .any, .any, .any, .any, .any, .any, .any, .any, .any, .any, .any, .any, .any, .any, .any, .any, .any, .any], [⟨24, 5, [.agg zeroH.cells], 0, true⟩, RF 3 (mix ca cb k) 0, RF 3 cb 0]⟩ : S)) (fun k => k ≤ ca.length ∧ okUp (List.zipWith (· + ·) ca cb) k) (fun k => ca.length - k) 0 (Wk.ren 0 [2, 7, 12] hX rfl (by decide) (by simp [mix]) (by simp) (by simp) (by simp [mix, zeroH])) ⟨by omega, okUp_zero _⟩ ?_
  rintro k ⟨hk, hinv⟩
  refine vc_sound h.mo _ _ _ (by kernel_rfl) ?_
  rcases Nat.lt_or_ge k ca.length with hlt | hge
  · have hk1 := wrap_succ hlt (by omega)
    have m1 := mix_len hcl hk
    have m2 := mix_at hcl hlt
    have m3 := mix_set hcl hlt
    have m4 := B_len 1 (mix_len hcl (k := k) (by omega) |>.trans (mix_len hcl (k := k + 1) (by omega)).symm)
    simp [hlt]
    have hltb : k < cb.length := by omega
    have o1 := cntB_iff.1 (List.all_eq_true.1 hoa _ (List.getElem_mem hlt))
    have o2 := cntB_iff.1 (List.all_eq_true.1 hob _ (List.getElem_mem hltb))
    have hw : IntKind.i64.wrap (ca[k] + cb[k]) = ca[k] + cb[k] := i64_id (by omega) (by omega)
    refine awp_draw_tail 9 h.mo (by kernel_rfl) (by simp) (by simp) ?_
    simp [m1, m2, hlt, hltb, hw]
    have hzk : k < (List.zipWith (· + ·) ca cb).length := by simp; omega
    have m6 : (List.zipWith (· + ·) ca cb)[k] = ca[k] + cb[k] := List.getElem_zipWith
    refine ⟨fun g => ?_, fun g => ⟨k + 1, Wk.ren 0 [0, 1, 2] hX rfl (by decide) (by simp [hk1, m4]) (by simp) (by simp) (by simp [m3]), ⟨by omega, (okUp_succ hzk).2 ⟨hinv, by rw [m6]; simpa [leB] using g⟩⟩, by omega⟩⟩
    have e2 : mrgE a b = 13 := by rw [hE, if_neg (okUp_not hzk (by rw [m6]; simp [leB]; omega))]
    simp [mrgH, e2, zeroH]
  · have hkl : k = ca.length := by omega
    subst hkl
    have e2 : mrgE a b = 0 := by rw [hE, if_pos (okUp_all (by rw [show (List.zipWith (· + ·) ca cb).length = ca.length by simp; omega]; exact hinv))]
    have e3 := mix_all hcl
    rw [e3, hz]
    have hlc : ca.length = (cnts (mrgT a b)).length := by rw [← hz]; simp; omega
    have hlm : (mrgT a b).fBins.length + 2 = (cnts (mrgT a b)).length := by simp [cnts]
    have f1 : (mrgT a b).fLow = a.fLow := rfl
    have f2 : (mrgT a b).fWidth = a.fWidth := rfl
    rw [show cnts (mrgT a b) = (mrgT a b).fBelow :: ((mrgT a b).fBins ++ [(mrgT a b).fOver]) from rfl]
    have q0 : mrgH a b = mrgT a b := by simp [mrgH, e2]
    simp only [q0, f1, f2, e2]
    have hm : ca.length = (mrgT a b).fBins.length + 2 := by omega
    rw [hm]
    rw [hm] at hca
    generalize (mrgT a b).fBelow = s0
    generalize (mrgT a b).fBins = s1 at hca
    generalize (mrgT a b).fOver = s2
    simp
    refine awp_draw_tail 15 h.mo (by kernel_rfl) (by simp) (by simp) ?_
    have hw2 : IntKind.i64.wrap ((s1.length : Int) + 1) = ((s1.length + 1 : Nat) : Int) := by rw [i64_id (by omega) (by omega)]; omega
    have e5 : (0 : Int) ≤ (s1.length : Int) + 1 := by omega
    have e6 : (s1.length : Int) + 1 < (s1.length : Int) + 1 + 1 := by omega
    have e7 : (0 : Int) < (s1.length : Int) + 1 + 1 := by omega
    have e8 : s1 = [] ∨ 1 + s1.length ≤ s1.length + 1 + 1 := .inr (by omega)
    simp [hw2, e5, e6, e7, e8, zeroH]
end Go.Proofs.Ythkngfomanhmnaa
