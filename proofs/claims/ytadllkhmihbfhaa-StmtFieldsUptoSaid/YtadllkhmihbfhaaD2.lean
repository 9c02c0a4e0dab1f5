/- Chapter 10: statements: the check of a distribution, over any program that has the text. -/
import Derived.Test.YtadllkhmihbfhaaD1
namespace Go.Proofs.Ytadllkhmihbfhaa
open Go.AL
variable {P : Program} [h : Facts P]

/-- The lists of a table. -/
def tabE (vs ws : List Int) : Int :=
  if vs.length ≠ ws.length then 8 else if vs.length = 0 then 7 else if 20 < vs.length then 6
  else if (vs.all (bwB 0 1000000000) && ws.all (bwB 1 1000)) = true then 0 else 2
def goodD (d : TDist) : Bool :=
  if d.fOp = 1 then bwB 0 1000000000 d.fA
  else if d.fOp = 2 then bwB 0 d.fB d.fA && decide (d.fB ≤ 1000000000)
  else if d.fOp = 4 then bwB 1 20 d.fN && (bwB 0 d.fB d.fA && decide (d.fB ≤ 1000000))
  else bwB 1 1000 d.fA && bwB 1 1000 d.fB
/-- The error of a distribution. -/
def chkD (d : TDist) : Int := if unuB d = false then 1 else if d.fOp = 3 then tabE d.fValues d.fWeights else if goodD d = true then 0 else 2
theorem unuB_op {d : TDist} (hu : unuB d = true) : d.fOp = 1 ∨ d.fOp = 2 ∨ d.fOp = 3 ∨ d.fOp = 4 ∨ d.fOp = 5 := by
  unfold unuB at hu
  split at hu
  · omega
  split at hu
  · omega
  split at hu
  · omega
  split at hu
  · omega
  · cases hu

theorem c_Rbetween (n lo hi : Int) : FCall P 86 [.int .i64 n, .int .i64 lo, .int .i64 hi] (fun r => r = .bool (bwB lo hi n)) := by
  refine fcall_of h.f86 rfl (by decide) h.mo (by kernel_rfl) fun X hX => ?_
  by_cases h1 : lo ≤ n <;> by_cases h2 : n ≤ hi <;> simp [bwB, h1, h2]
theorem bw_two {a b top : Int} (h1 : a ≤ b) : (bwB 0 top a && bwB 0 top b) = (bwB 0 b a && decide (b ≤ top)) := by
  rw [Bool.eq_iff_iff]
  simp only [bwB, Bool.and_eq_true, decide_eq_true_eq]
  omega
theorem bw_no {a b : Int} (h1 : ¬ a ≤ b) : bwB 0 b a = false := by
  unfold bwB
  simp only [Bool.and_eq_false_iff, decide_eq_false_iff_not]
  omega
set_option maxHeartbeats 4000000 in
theorem c_DCheck (d : TDist) (hv : d.fValues.length ≤ 9223372036854775807) (hw : d.fWeights.length ≤ 9223372036854775807) : FCall P 58 [.agg d.cells] (fun r => r = .int .i64 (chkD d)) := by
  refine fcall_of h.f58 rfl (by decide) h.mo (by kernel_rfl) fun X hX => ?_
  simp
  refine xcall_fn (c_unused d hv hw) (by simp) ?_
  unfold chkD
  cases hu : unuB d
  · simp
  have ho := unuB_op hu
  obtain ⟨op, A, B, N, vs, ws⟩ := d
  simp only at hv hw ho ⊢
  clear hu
  simp only [reduceCtorEq, if_false]
  rcases ho with rfl | rfl | rfl | rfl | rfl
  · simp
    refine xcall_fn (c_within 0 1000000000 [A] (by simp)) (by simp) ?_
    simp only [List.all_cons, List.all_nil, Bool.and_true]
    cases hg : bwB 0 1000000000 A <;> simp [goodD, hg]
  · simp
    refine xcall_fn (c_within 0 1000000000 [A, B] (by simp)) (by simp) ?_
    simp only [List.all_cons, List.all_nil, Bool.and_true]
    by_cases hab : A ≤ B
    · rw [bw_two hab]
      cases hg : (bwB 0 B A && decide (B ≤ 1000000000)) <;> simp [goodD, hg, hab]
    · have hn := bw_no hab
      cases hg : (bwB 0 1000000000 A && bwB 0 1000000000 B) <;> simp [goodD, hn, hab]
  · simp
    by_cases t1 : vs.length = ws.length
    case neg =>
      have t1' : ¬ (vs.length : Int) = ws.length := by omega
      simp [t1', t1, tabE]
    have t1' : (vs.length : Int) = ws.length := by omega
    by_cases t2 : vs.length = 0
    · have t4 : ws.length = 0 := by omega
      have t5 : vs = [] := List.eq_nil_of_length_eq_zero t2
      have t6 : ws = [] := List.eq_nil_of_length_eq_zero t4
      subst t5 t6
      simp [tabE]
    have t2' : ¬ (vs.length : Int) = 0 := by omega
    have t2e : ¬ vs = [] := fun q => t2 (by rw [q]; rfl)
    by_cases t3 : 20 < vs.length
    · have t3' : (20 : Int) < vs.length := by omega
      have t3n : ¬ (vs.length : Int) ≤ 20 := by omega
      simp [eq_true t1', t3', t2e, t3n, t2, t3, eq_true t1, tabE]
    have t3' : ¬ (20 : Int) < vs.length := by omega
    have t3n : (vs.length : Int) ≤ 20 := by omega
    have hres : tabE vs ws = if (vs.all (bwB 0 1000000000) && ws.all (bwB 1 1000)) = true then 0 else 2 := by
      unfold tabE
      rw [if_neg (by omega), if_neg (by omega), if_neg (by omega)]
    rw [hres]
    simp [eq_true t1', t3', t2e, t3n, -Bool.and_eq_true, -List.all_eq_true]
    refine xcall_fn (c_within 0 1000000000 vs hv) (by simp) ?_
    cases hg : vs.all (bwB 0 1000000000)
    · simp [-Bool.and_eq_true, -List.all_eq_true, -List.all_eq_false]
    · simp [-Bool.and_eq_true, -List.all_eq_true, -List.all_eq_false]
      refine xcall_fn (c_within 1 1000 ws hw) (by simp) ?_
      cases hg2 : ws.all (bwB 1 1000) <;> simp [-Bool.and_eq_true, -List.all_eq_true, -List.all_eq_false]
  · simp
    refine xcall_fn (c_within 1 20 [N] (by simp)) (by simp) ?_
    simp only [List.all_cons, List.all_nil, Bool.and_true]
    cases hn : bwB 1 20 N
    · simp [goodD, hn]
    simp
    refine xcall_fn (c_within 0 1000000 [A, B] (by simp)) (by simp) ?_
    simp only [List.all_cons, List.all_nil, Bool.and_true]
    by_cases hab : A ≤ B
    · rw [bw_two hab]
      cases hg : (bwB 0 B A && decide (B ≤ 1000000)) <;> simp [goodD, hn, hg, hab]
    · have hno := bw_no hab
      cases hg : (bwB 0 1000000 A && bwB 0 1000000 B) <;> simp [goodD, hno, hab]
  · simp
    refine xcall_fn (c_within 1 1000 [A, B] (by simp)) (by simp) ?_
    simp only [List.all_cons, List.all_nil, Bool.and_true]
    cases hg : (bwB 1 1000 A && bwB 1 1000 B) <;> simp [goodD, hg]
theorem c_Rtable (d : TDist) (hv : d.fValues.length ≤ 9223372036854775807) : FCall P 87 [.agg d.cells] (fun r => r = .int .i64 (tabE d.fValues d.fWeights)) := by
  refine fcall_of h.f87 rfl (by decide) h.mo (by kernel_rfl) fun X hX => ?_
  obtain ⟨op, A, B, N, vs, ws⟩ := d
  simp only at hv ⊢
  by_cases t1 : vs.length = ws.length
  case neg =>
    have t1' : ¬ (vs.length : Int) = ws.length := by omega
    simp [t1', t1, tabE]
  have t1' : (vs.length : Int) = ws.length := by omega
  by_cases t2 : vs.length = 0
  · have t4 : ws.length = 0 := by omega
    have t5 : vs = [] := List.eq_nil_of_length_eq_zero t2
    have t6 : ws = [] := List.eq_nil_of_length_eq_zero t4
    subst t5 t6
    simp [tabE]
  have t2' : ¬ (vs.length : Int) = 0 := by omega
  have t2e : ¬ vs = [] := fun q => t2 (by rw [q]; rfl)
  by_cases t3 : 20 < vs.length
  · have t3' : (20 : Int) < vs.length := by omega
    have t3n : ¬ (vs.length : Int) ≤ 20 := by omega
    simp [eq_true t1', t3', t2, t3, eq_true t1, tabE]
  have t3' : ¬ (20 : Int) < vs.length := by omega
  have t3n : (vs.length : Int) ≤ 20 := by omega
  have hres : tabE vs ws = if (vs.all (bwB 0 1000000000) && ws.all (bwB 1 1000)) = true then 0 else 2 := by
    unfold tabE
    rw [if_neg (by omega), if_neg (by omega), if_neg (by omega)]
  rw [hres]
  simp [eq_true t1', t3', t2e, -Bool.and_eq_true, -List.all_eq_true]
  refine awp_loop (σ := Nat) (fun k => (⟨[.any, .pto 0 6 0 0, .any, .int .i64 k, .any, .any, .any, .any, .any, .any, .any, .any, .any, .any, .any, .any, .any, .any, .any, .any, .any, .any, .any, .any, .any, .any, .any, .any, .any, .any, .any, .any, .any, .any, .any, .any, .any, .any, .any, .any, .any, .any], [⟨45, 6, [.agg (⟨op, A, B, N, vs, ws⟩ : TDist).cells], 0, true⟩]⟩ : S)) (fun k => k ≤ vs.length ∧ ∀ j (hj : j < vs.length) (hj2 : j < ws.length), j < k → bwB 0 1000000000 vs[j] = true ∧ bwB 1 1000 ws[j] = true) (fun k => vs.length - k) 0 (Wk.ren 0 [0] hX rfl (by decide) (by simp) (by simp) (by simp) (by simp)) ⟨by omega, by simp⟩ ?_
  rintro k ⟨hk, hinv⟩
  refine vc_sound h.mo _ _ _ (by kernel_rfl) ?_
  rcases Nat.lt_or_ge k vs.length with hlt | hge
  · have hlt2 : k < ws.length := by omega
    have hk1 := wrap_succ hlt hv
    simp [hlt, -Bool.and_eq_true, -List.all_eq_true]
    refine xcall_fn (c_Rbetween vs[k] 0 1000000000) (by simp) ?_
    cases g1 : bwB 0 1000000000 vs[k]
    · have : vs.all (bwB 0 1000000000) = false := List.all_eq_false.2 ⟨_, List.getElem_mem hlt, by simp [g1]⟩
      simp [this, -Bool.and_eq_true, -List.all_eq_true, -List.all_eq_false]
    simp [hlt2, -Bool.and_eq_true, -List.all_eq_true]
    refine xcall_fn (c_Rbetween ws[k] 1 1000) (by simp) ?_
    cases g2 : bwB 1 1000 ws[k]
    · have : ws.all (bwB 1 1000) = false := List.all_eq_false.2 ⟨_, List.getElem_mem hlt2, by simp [g2]⟩
      simp [this, -Bool.and_eq_true, -List.all_eq_true, -List.all_eq_false]
    simp [-Bool.and_eq_true, -List.all_eq_true]
    refine ⟨k + 1, Wk.ren 0 [0] hX rfl (by decide) (by simp [hk1]) (by simp) (by simp) (by simp), ⟨by omega, fun j hj hj2 hjk => ?_⟩, by omega⟩
    by_cases e : j = k
    · subst e; exact ⟨g1, g2⟩
    · exact hinv j hj hj2 (by omega)
  · have h1 : vs.all (bwB 0 1000000000) = true := List.all_eq_true.2 fun x hx => by
      obtain ⟨j, hj, rfl⟩ := List.getElem_of_mem hx
      exact (hinv j hj (by omega) (by omega)).1
    have h2 : ws.all (bwB 1 1000) = true := List.all_eq_true.2 fun x hx => by
      obtain ⟨j, hj, rfl⟩ := List.getElem_of_mem hx
      exact (hinv j (by omega) hj (by omega)).2
    have hge2 : ¬ k < vs.length := by omega
    simp [hge2, h1, h2, -List.all_eq_true]
set_option maxHeartbeats 4000000 in
theorem c_RDCheck (d : TDist) (hv : d.fValues.length ≤ 9223372036854775807) : FCall P 63 [.agg d.cells] (fun r => r = .int .i64 (chkD d)) := by
  have htab := c_Rtable (P := P) d hv
  refine fcall_of h.f63 rfl (by decide) h.mo (by kernel_rfl) fun X hX => ?_
  simp
  refine xcall_fn (c_Runused d) (by simp) ?_
  unfold chkD
  cases hu : unuB d
  · simp
  have ho := unuB_op hu
  obtain ⟨op, A, B, N, vs, ws⟩ := d
  simp only at hv ho htab ⊢
  clear hu
  simp only [reduceCtorEq, if_false]
  rcases ho with rfl | rfl | rfl | rfl | rfl
  · simp
    refine xcall_fn (c_Rbetween A 0 1000000000) (by simp) ?_
    cases hg : bwB 0 1000000000 A <;> simp [goodD, hg]
  · simp
    refine xcall_fn (c_Rbetween A 0 B) (by simp) ?_
    by_cases hb : B ≤ 1000000000 <;> cases hg : bwB 0 B A <;> simp [goodD, hg, hb]
  · simp
    refine xcall_fn htab (by simp) ?_
    simp
  · simp
    refine xcall_fn (c_Rbetween N 1 20) (by simp) ?_
    cases hn : bwB 1 20 N
    · simp [goodD, hn]
    simp
    refine xcall_fn (c_Rbetween A 0 B) (by simp) ?_
    by_cases hb : B ≤ 1000000 <;> cases hg : bwB 0 B A <;> simp [goodD, hn, hg, hb]
  · simp
    refine xcall_fn (c_Rbetween A 1 1000) (by simp) ?_
    cases hn : bwB 1 1000 A
    · simp [goodD, hn]
    simp
    refine xcall_fn (c_Rbetween B 1 1000) (by simp) ?_
    cases hg : bwB 1 1000 B <;> simp [goodD, hn, hg]

/-! Equality. -/
theorem take_eq_allI {a b : List Int} (hl : a.length = b.length) (ht : a.take a.length = b.take a.length) : a = b := by
  rw [List.take_length, List.take_of_length_le (by omega)] at ht
  exact ht
theorem take_stepI {a b : List Int} {k : Nat} (ha : k < a.length) (hb : k < b.length) (ht : a.take k = b.take k) (he : a[k] = b[k]) : a.take (k + 1) = b.take (k + 1) := by
  rw [List.take_succ_eq_append_getElem ha, List.take_succ_eq_append_getElem hb, ht, he]
theorem take_noI {a b : List Int} {k : Nat} (ha : k < a.length) (hb : k < b.length) (he : a[k] ≠ b[k]) : a ≠ b := by
  rintro rfl
  exact he rfl
theorem c_EqInts (a b : List Int) (hl : a.length ≤ 9223372036854775807) : FCall P 75 [Ls false a, Ls false b] (fun r => r = .bool (decide (a = b))) := by
  refine fcall_of h.f75 rfl (by decide) h.mo (by kernel_rfl) fun X hX => ?_
  simp
  refine ⟨fun e => fun g => e (by rw [g]), fun e => ?_⟩
  refine awp_loop (σ := Nat) (fun k => (⟨[Ls false a, Ls false b, .any, .any, .any, .any, .any, .any, .any, .any, .any, Ls false a, .int .i64 a.length, .int .i64 k, .any, .any, .any, .any, .any, .any, .any, .any, .any, .any, .any, .any], []⟩ : S)) (fun k => k ≤ a.length ∧ a.take k = b.take k) (fun k => a.length - k) 0 (Wk.slots (by simp)) ⟨by omega, by simp⟩ ?_
  rintro k ⟨hk, hinv⟩
  refine vc_sound h.mo _ _ _ (by kernel_rfl) ?_
  rcases Nat.lt_or_ge k a.length with hlt | hge
  · have hlb : k < b.length := by omega
    have hk1 := wrap_succ hlt hl
    simp [hlt, hlb]
    refine ⟨fun g => take_noI hlt hlb g, fun g => ⟨k + 1, Wk.ren 0 [] hX rfl (by decide) (by simp [hk1]) (by simp) (by simp) (by simp), ⟨by omega, take_stepI hlt hlb hinv g⟩, by omega⟩⟩
  · simp [hge]
    have : k = a.length := by omega
    subst this
    exact take_eq_allI (by omega) hinv
theorem c_RsameInts (a b : List Int) (hl : a.length ≤ 9223372036854775807) : FCall P 54 [Ls false a, Ls false b] (fun r => r = .bool (decide (a = b))) := by
  refine fcall_of h.f54 rfl (by decide) h.mo (by kernel_rfl) fun X hX => ?_
  simp
  refine ⟨fun e => fun g => e (by rw [g]), fun e => ?_⟩
  refine awp_loop (σ := Nat) (fun k => (⟨[Ls false a, Ls false b, .any, .any, .any, .int .i64 k, .any, .any, .any, .any, .any, .any, .any, .any, .any, .any, .any, .any, .any, .any, .any, .any, .any, .any, .any, .any], []⟩ : S)) (fun k => k ≤ a.length ∧ a.take k = b.take k) (fun k => a.length - k) 0 (Wk.slots (by simp)) ⟨by omega, by simp⟩ ?_
  rintro k ⟨hk, hinv⟩
  refine vc_sound h.mo _ _ _ (by kernel_rfl) ?_
  rcases Nat.lt_or_ge k a.length with hlt | hge
  · have hlb : k < b.length := by omega
    have hk1 := wrap_succ hlt hl
    simp [hlt, hlb]
    refine ⟨fun g => take_noI hlt hlb g, fun g => ⟨k + 1, Wk.ren 0 [] hX rfl (by decide) (by simp [hk1]) (by simp) (by simp) (by simp), ⟨by omega, take_stepI hlt hlb hinv g⟩, by omega⟩⟩
  · simp [hge]
    have : k = a.length := by omega
    subst this
    exact take_eq_allI (by omega) hinv
theorem c_DSame (a b : TDist) (hv : a.fValues.length ≤ 9223372036854775807) (hw : a.fWeights.length ≤ 9223372036854775807) : FCall P 51 [.agg a.cells, .agg b.cells] (fun r => r = .bool (decide (a = b))) := by
  refine fcall_of h.f51 rfl (by decide) h.mo (by kernel_rfl) fun X hX => ?_
  obtain ⟨op, A, B, N, vs, ws⟩ := a
  obtain ⟨op2, A2, B2, N2, vs2, ws2⟩ := b
  simp only at hv hw
  by_cases q1 : op = op2
  case neg => simp [q1]
  by_cases q2 : A = A2
  case neg => simp [eq_true q1, q2]
  by_cases q3 : B = B2
  case neg => simp [eq_true q1, eq_true q2, q3]
  by_cases q4 : N = N2
  case neg => simp [eq_true q1, eq_true q2, eq_true q3, q4]
  simp [eq_true q1, eq_true q2, eq_true q3, eq_true q4]
  refine xcall_fn (c_EqInts vs vs2 hv) (by simp) ?_
  by_cases q5 : vs = vs2
  case neg => simp [q5]
  simp [eq_true q5]
  refine xcall_fn (c_EqInts ws ws2 hw) (by simp) ?_
  by_cases q6 : ws = ws2 <;> simp [q6]
theorem c_RDSame (a b : TDist) (hv : a.fValues.length ≤ 9223372036854775807) (hw : a.fWeights.length ≤ 9223372036854775807) : FCall P 41 [.agg a.cells, .agg b.cells] (fun r => r = .bool (decide (a = b))) := by
  refine fcall_of h.f41 rfl (by decide) h.mo (by kernel_rfl) fun X hX => ?_
  obtain ⟨op, A, B, N, vs, ws⟩ := a
  obtain ⟨op2, A2, B2, N2, vs2, ws2⟩ := b
  simp only at hv hw
  by_cases q1 : op = op2
  case neg => simp [q1]
  by_cases q2 : A = A2
  case neg => simp [eq_true q1, q2]
  by_cases q3 : B = B2
  case neg => simp [eq_true q1, eq_true q2, q3]
  by_cases q4 : N = N2
  case neg => simp [eq_true q1, eq_true q2, eq_true q3, q4]
  simp [eq_true q1, eq_true q2, eq_true q3, eq_true q4]
  refine xcall_fn (c_RsameInts vs vs2 hv) (by simp) ?_
  by_cases q5 : vs = vs2
  case neg => simp [q5]
  simp [eq_true q5]
  refine xcall_fn (c_RsameInts ws ws2 hw) (by simp) ?_
  by_cases q6 : ws = ws2 <;> simp [q6]
end Go.Proofs.Ytadllkhmihbfhaa
