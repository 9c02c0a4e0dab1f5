/- Chapter 09: expressions: the law Counts, over any program that has the text, given the library's sort. -/
import Derived.Test.YtnfjdpnkkmflbaaG1
namespace Go.Proofs.Ytnfjdpnkkmflbaa
open Go.AL
variable {P : Program} [h : Facts P]

/-- The names of both, in one increasing list. -/
theorem all_incr (a b : List (List UInt8)) : incr (insL (insL [] a) b) := insL_incr _ _ (insL_incr _ _ List.Pairwise.nil)
theorem all_mem {a b : List (List UInt8)} {x : List UInt8} (h : x ∈ a ∨ x ∈ b) : x ∈ insL (insL [] a) b := by
  rw [insL_mem, insL_mem]
  rcases h with h | h
  · exact .inl (.inr h)
  · exact .inr h
theorem all_len (a b : List (List UInt8)) : (insL (insL [] a) b).length ≤ a.length + b.length := by
  have h1 := insL_len b (insL [] a)
  have h2 := insL_len a []
  simp only [List.length_nil] at h2
  omega
theorem insL_take {a : List (List UInt8)} {l : List (List UInt8)} {k : Nat} (hk : k < a.length) : insL l (a.take (k + 1)) = insF a[k] (insL l (a.take k)) false := by
  rw [List.take_succ_eq_append_getElem hk, insL_app, insL_cons, insL_nil]
set_option maxRecDepth 20000 in
set_option maxHeartbeats 4000000 in
theorem c_ExprCounts (hso : SortAt P 39) (e : TExpr) (s : List UInt8) (y : TExpr) (hok : e.ok) (hs : s.length ≤ 9223372036854775807) (hy : y.ok) : FCall P 8 [.agg e.cells, .str s, .agg y.cells] (fun r => r = .bool true) := by
  refine fcall_ofA h.f8 rfl (by decide) fun X hX => ?_
  refine awp_seq (vc_sound h.mo _ _ _ (by kernel_rfl) ?_)
  simp
  refine awp_seq (vc_sound h.mo _ _ _ (by kernel_rfl) ?_)
  simp
  refine xcall_fn (c_few e hok) (by simp) ?_
  cases hf : fewB e
  · simp
    refine xcall_fn (c_awake hso) (by simp) ?_
    simp
  simp
  refine xcall_fn (c_few y hy) (by simp) ?_
  cases hg : fewB y
  · simp
    refine xcall_fn (c_awake hso) (by simp) ?_
    simp
  simp
  refine xcall_fn (c_bare s e hok) (by simp) ?_
  cases hb : barE s e
  · simp
    refine xcall_fn (c_awake hso) (by simp) ?_
    simp
  have hca := (fewB_cnt hf).1
  have hcb := (fewB_cnt hg).1
  have htc := tim_cnt s e
  have hrc := rep_cnt (y := y) e hb
  have hrd := rep_dep (s := s) (y := y) e
  have hrk := rep_ok (s := s) hy e hok
  have hr0 := rep_same (s := s) (y := y) e
  have hrn := fun x => rep_nm (s := s) (y := y) (x := x) e
  have hed := depE_cnt e
  have hyd := depE_cnt y
  have hyp : 1 ≤ cntE y := by rw [cntE_eq]; omega
  have hmul : timE s e * cntE y ≤ 40000 := Nat.le_trans (Nat.mul_le_mul (Nat.le_trans htc hca) hcb) (by decide)
  simp
  refine awp_seq (vc_sound h.mo _ _ _ (by kernel_rfl) ?_)
  simp
  refine xcall_fn (c_Replace s y e hok (by omega)) (by simp) ?_
  simp
  generalize repE s y e = x at *
  refine awp_seq (vc_sound h.mo _ _ _ (by kernel_rfl) ?_)
  simp
  refine xcall_fn (c_times s e hok (by omega)) (by simp) ?_
  simp
  generalize timE s e = k at *
  obtain ⟨c1, hc1⟩ : ∃ c1, cntE y = c1 + 1 := ⟨cntE y - 1, by omega⟩
  have w1 : IntKind.i64.wrap ((cntE y : Int) - 1) = (c1 : Int) := by rw [i64_id (by omega) (by omega)]; omega
  have hkk : k ≤ k * cntE y := Nat.le_mul_of_pos_right k hyp
  have hm2 : k * c1 = k * cntE y - k := by rw [hc1, Nat.mul_add, Nat.mul_one]; omega
  obtain ⟨m, hm⟩ : ∃ m, m = k * c1 := ⟨_, rfl⟩
  rw [← hm] at hm2
  generalize k * cntE y = ky at *
  have w2 : IntKind.i64.wrap ((k : Int) * (c1 : Int)) = (m : Int) := by rw [← Int.natCast_mul, ← hm, i64_id (by omega) (by omega)]
  have w3 : IntKind.i64.wrap ((cntE e : Int) + (m : Int)) = (cntE x : Int) := by rw [i64_id (by omega) (by omega)]; omega
  have w4 : IntKind.i64.wrap ((depE e : Int) + (depE y : Int)) = (depE e : Int) + (depE y : Int) := i64_id (by omega) (by omega)
  refine awp_cut2 (⟨[.any, .str s, .any, .pto 0 4 0 0, .any, .pto 1 4 0 0, .bool false, .pto 2 4 0 0, .int .i64 k, .any, .any, .any, .any, .any, .any, .any, .any, .any, .any, .any, .any, .any, .any, .any, .any, .any, .any, .any, .any, .any, .any, .any, .any, .any, .any, .any, .any, .any, .any, .any, .any, .any, .any, .any, .any, .any, .any, .any, .any, .any, .any, .any, .any, .any, .any, .any, .any, .any, .any, .any, .any, .any, .any, .any, .any, .any, .any, .any, .any, .any, .any, .any, .any, .any, .any, .any, .any, .any, .any, .any, .any, .any, .any, .any, .any, .any, .any, .any, .any, .any, .any, .any, .any, .any, .any, .any, .any, .any, .any, .any, .any, .any, .any, .any, .any, .any, .any, .any, .any, .any, .any, .any, .any, .any, .any, .any, .any, .any, .any, .any, .any, .any, .any, .any, .any, .any, .any, .any, .any, .any, .any, .any, .any, .any], [⟨25, 4, [.agg (e : TExpr).cells], 0, true⟩, ⟨25, 4, [.agg (y : TExpr).cells], 0, true⟩, ⟨25, 4, [.agg (x : TExpr).cells], 0, true⟩]⟩ : S) True (awp_seq (awp_quiet [0, 2, 4, 5, 1, 3, 6, 7, 8, 9, 10, 11, 12, 14, 16, 13, 15, 17, 18, 19, 20, 21, 22, 23, 24, 25, 26, 27, 28, 29, 30] _ h.mo (by kernel_rfl) (by decide) (by kernel_rfl) (by rfl) ?_)) ?_
  case refine_1 =>
    simp
    refine ⟨_, c_Nodes x (by omega), ?_⟩
    refine ⟨_, c_Nodes e (by omega), ?_⟩
    refine ⟨_, c_Nodes y (by omega), ?_⟩
    simp [w1, w2, w3]
    refine ⟨_, c_Depth x (by omega), ?_⟩
    refine ⟨_, c_Depth e (by omega), ?_⟩
    refine ⟨_, c_Depth y (by omega), ?_⟩
    have hgt : ¬ ((depE e : Int) + (depE y : Int) < (depE x : Int)) := by omega
    have hle : (depE x : Int) ≤ (depE e : Int) + (depE y : Int) := by omega
    simp [w4, hgt, hle]
    by_cases k0 : k = 0
    case' pos =>
      have hxe := hr0 k0
      simp [k0]
      refine ⟨_, c_Same x hrk e, ?_⟩
      simp [hxe, sameB_self]
    case' neg =>
      have k0i : ¬ (k : Int) = 0 := by omega
      simp [k0, k0i]
    all_goals
      refine vc_sound h.mo _ _ _ (by kernel_rfl) ?_
      simp
      exact Wk.ren 0 [0, 1, 2] hX rfl (by decide) (by simp [*]) (by simp) (by simp) (by simp [*])
  intro _
  refine awp_cut2 (⟨[.any, .str s, .any, .pto 0 4 0 0, .any, .pto 1 4 0 0, .bool false, .pto 2 4 0 0, .int .i64 k, .any, .any, .any, .any, .any, .any, .any, .any, .any, .any, .any, .any, .any, .any, .any, .any, .any, .any, .any, .any, .any, .any, .any, .any, .any, .any, .any, .any, .any, .any, .any, .any, .any, .any, .any, .any, .any, .any, .any, .any, .any, .any, .any, .any, .any, .any, .any, .any, .any, .any, .any, .any, .any, .any, .any, .any, .any, .any, .any, .any, .any, .any, .any, .any, .any, .any, .any, .any, .any, .any, .any, .any, .any, .any, .any, .any, .any, .any, .any, .any, .any, .any, .any, .any, .any, .any, .any, .any, .any, .any, .any, .any, .any, .any, .any, .any, .any, .any, .any, .any, .any, .any, .any, .any, .any, .any, .any, .any, .any, .any, .any, .any, .any, .any, .any, .any, .any, .any, .any, .any, .any, .any, .any, .any, .any], [⟨25, 4, [.agg (e : TExpr).cells], 0, true⟩, ⟨25, 4, [.agg (y : TExpr).cells], 0, true⟩, ⟨25, 4, [.agg (x : TExpr).cells], 0, true⟩]⟩ : S) (∀ z ∈ namesZ x, z ∈ namesZ e ∨ z ∈ namesZ y) (vc_sound h.mo _ _ _ (by kernel_rfl) ?_) ?_
  case refine_1 =>
    simp
    refine xcall_fn (c_Check x hrk (by omega)) (by simp) ?_
    by_cases cx : chkE false x = 0
    case neg =>
      simp [cx]
      refine xcall_fn (c_awake hso) (by simp) ?_
      simp
    simp [cx]
    refine xcall_fn (c_Check e hok (by omega)) (by simp) ?_
    by_cases ce : chkE false e = 0
    case neg =>
      simp [ce]
      refine xcall_fn (c_awake hso) (by simp) ?_
      simp
    simp [ce]
    have fin : (0 < k → chkE false y = 0) → ∀ z ∈ namesZ x, z ∈ namesZ e ∨ z ∈ namesZ y := by
      intro hk z hz
      rw [names_mem cx] at hz
      rcases hrn z hz with q | ⟨q1, q2⟩
      · exact .inl ((names_mem ce z).2 q)
      · exact .inr ((names_mem (hk q1) z).2 q2)
    by_cases k0 : k = 0
    · simp [k0]
      exact ⟨fin fun q => absurd q (by omega), Wk.ren 0 [0, 1, 2] hX rfl (by decide) (by simp [k0]) (by simp) (by simp) (by simp)⟩
    · have k0p : 0 < k := by omega
      simp [k0, k0p]
      refine xcall_fn (c_Check y hy (by omega)) (by simp) ?_
      by_cases cy : chkE false y = 0
      case neg =>
        simp [cy]
        refine xcall_fn (c_awake hso) (by simp) ?_
        simp
      simp [cy]
      exact ⟨fin fun _ => cy, Wk.ren 0 [0, 1, 2] hX rfl (by decide) (by simp) (by simp) (by simp) (by simp)⟩
  intro hsub
  refine awp_seq (vc_sound h.mo _ _ _ (by kernel_rfl) ?_)
  simp
  refine awp_seq (awp_quiet [0, 2, 1, 3, 4, 5] _ h.mo (by kernel_rfl) (by decide) (by kernel_rfl) (by rfl) ?_)
  simp
  refine ⟨_, c_Names hso e hok (by omega), ?_⟩
  refine ⟨_, c_Names hso y hy (by omega), ?_⟩
  have hN := c_Names hso x hrk (by omega)
  have hle := names_len e
  have hly := names_len y
  have hlx := names_len x
  generalize namesZ e = l at *
  generalize namesZ y = m2 at *
  generalize namesZ x = n at *
  refine vc_sound h.mo _ _ _ (by kernel_rfl) ?_
  simp
  have hal := all_len l m2
  have hai := all_incr l m2
  have ham := fun z (hz : z ∈ l ∨ z ∈ m2) => all_mem hz
  refine awp_loop (σ := Nat) (fun i => (⟨[.any, .str s, .any, .pto 0 4 0 0, .any, .pto 1 4 0 0, .bool false, .pto 2 4 0 0, .int .i64 k, Ls false (insL [] (l.take i)), Ls false l, Ls false m2, .int .i64 i, .any, .any, .any, .any, .any, .any, .any, .any, .any, .any, .any, .any, .any, .any, .any, .any, .any, .any, .any, .any, .any, .any, .any, .any, .any, .any, .any, .any, .any, .any, .any, .any, .any, .any, .any, .any, .any, .any, .any, .any, .any, .any, .any, .any, .any, .any, .any, .any, .any, .any, .any, .any, .any, .any, .any, .any, .any, .any, .any, .any, .any, .any, .any, .any, .any, .any, .any, .any, .any, .any, .any, .any, .any, .any, .any, .any, .any, .any, .any, .any, .any, .any, .any, .any, .any, .any, .any, .any, .any, .any, .any, .any, .any, .any, .any, .any, .any, .any, .any, .any, .any, .any, .any, .any, .any, .any, .any, .any, .any, .any, .any, .any, .any, .any, .any, .any, .any, .any, .any, .any, .any], [⟨25, 4, [.agg (e : TExpr).cells], 0, true⟩, ⟨25, 4, [.agg (y : TExpr).cells], 0, true⟩, ⟨25, 4, [.agg (x : TExpr).cells], 0, true⟩]⟩ : S)) (fun i => i ≤ l.length) (fun i => l.length - i) 0 (Wk.ren 0 [0, 1, 2] hX rfl (by decide) (by simp [insL_nil]) (by simp) (by simp) (by simp)) (by omega) ?_
  rintro i hi
  refine vc_sound h.mo _ _ _ (by kernel_rfl) ?_
  rcases Nat.lt_or_ge i l.length with hlt | hge
  · have hk1 := wrap_succ hlt (by omega)
    have hli := insL_len (l.take i) []
    simp only [List.length_nil, List.length_take] at hli
    have hit := insL_take (l := []) hlt
    simp [hlt]
    refine xcall_fn (c_Insert (insL [] (l.take i)) l[i] (by omega)) (by simp) ?_
    simp
    exact ⟨i + 1, Wk.ren 0 [0, 1, 2] hX rfl (by decide) (by simp [hk1, hit]) (by simp) (by simp) (by simp), by omega, by omega⟩
  have hil : i = l.length := by omega
  subst hil
  rw [List.take_length]
  have hll := insL_len l []
  simp only [List.length_nil] at hll
  simp
  refine awp_loop (σ := Nat) (fun i => (⟨[.any, .str s, .any, .pto 0 4 0 0, .any, .pto 1 4 0 0, .bool false, .pto 2 4 0 0, .int .i64 k, Ls false (insL (insL [] l) (m2.take i)), .any, Ls false m2, .any, .int .i64 i, .any, .any, .any, .any, .any, .any, .any, .any, .any, .any, .any, .any, .any, .any, .any, .any, .any, .any, .any, .any, .any, .any, .any, .any, .any, .any, .any, .any, .any, .any, .any, .any, .any, .any, .any, .any, .any, .any, .any, .any, .any, .any, .any, .any, .any, .any, .any, .any, .any, .any, .any, .any, .any, .any, .any, .any, .any, .any, .any, .any, .any, .any, .any, .any, .any, .any, .any, .any, .any, .any, .any, .any, .any, .any, .any, .any, .any, .any, .any, .any, .any, .any, .any, .any, .any, .any, .any, .any, .any, .any, .any, .any, .any, .any, .any, .any, .any, .any, .any, .any, .any, .any, .any, .any, .any, .any, .any, .any, .any, .any, .any, .any, .any, .any, .any, .any, .any, .any, .any, .any], [⟨25, 4, [.agg (e : TExpr).cells], 0, true⟩, ⟨25, 4, [.agg (y : TExpr).cells], 0, true⟩, ⟨25, 4, [.agg (x : TExpr).cells], 0, true⟩]⟩ : S)) (fun i => i ≤ m2.length) (fun i => m2.length - i) 0 (Wk.ren 0 [0, 1, 2] hX rfl (by decide) (by simp [insL_nil]) (by simp) (by simp) (by simp)) (by omega) ?_
  rintro i hi
  refine vc_sound h.mo _ _ _ (by kernel_rfl) ?_
  rcases Nat.lt_or_ge i m2.length with hlt | hge
  · have hk1 := wrap_succ hlt (by omega)
    have hli := insL_len (m2.take i) (insL [] l)
    simp only [List.length_take] at hli
    have hit := insL_take (l := insL [] l) hlt
    simp [hlt]
    refine xcall_fn (c_Insert (insL (insL [] l) (m2.take i)) m2[i] (by omega)) (by simp) ?_
    simp
    exact ⟨i + 1, Wk.ren 0 [0, 1, 2] hX rfl (by decide) (by simp [hk1, hit]) (by simp) (by simp) (by simp), by omega, by omega⟩
  have hil : i = m2.length := by omega
  subst hil
  rw [List.take_length]
  generalize insL (insL [] l) m2 = all at *
  simp
  refine xcall_fn hN (by simp) ?_
  simp
  refine awp_loop (σ := Nat) (fun i => (⟨[.any, .str s, .any, .pto 0 4 0 0, .any, .pto 1 4 0 0, .bool false, .pto 2 4 0 0, .int .i64 k, Ls false all, .any, .any, .any, .any, Ls false n, .int .i64 i, .any, .any, .any, .any, .any, .any, .any, .any, .any, .any, .any, .any, .any, .any, .any, .any, .any, .any, .any, .any, .any, .any, .any, .any, .any, .any, .any, .any, .any, .any, .any, .any, .any, .any, .any, .any, .any, .any, .any, .any, .any, .any, .any, .any, .any, .any, .any, .any, .any, .any, .any, .any, .any, .any, .any, .any, .any, .any, .any, .any, .any, .any, .any, .any, .any, .any, .any, .any, .any, .any, .any, .any, .any, .any, .any, .any, .any, .any, .any, .any, .any, .any, .any, .any, .any, .any, .any, .any, .any, .any, .any, .any, .any, .any, .any, .any, .any, .any, .any, .any, .any, .any, .any, .any, .any, .any, .any, .any, .any, .any, .any, .any, .any, .any, .any, .any, .any, .any], [⟨25, 4, [.agg (e : TExpr).cells], 0, true⟩, ⟨25, 4, [.agg (y : TExpr).cells], 0, true⟩, ⟨25, 4, [.agg (x : TExpr).cells], 0, true⟩]⟩ : S)) (fun i => i ≤ n.length) (fun i => n.length - i) 0 (Wk.ren 0 [0, 1, 2] hX rfl (by decide) (by simp) (by simp) (by simp) (by simp)) (by omega) ?_
  rintro i hi
  refine vc_sound h.mo _ _ _ (by kernel_rfl) ?_
  rcases Nat.lt_or_ge i n.length with hlt | hge
  · have hk1 := wrap_succ hlt (by omega)
    have hii := insF_has hai (ham _ (hsub _ (List.getElem_mem hlt)))
    simp [hlt]
    refine xcall_fn (c_Insert all n[i] (by omega)) (by simp) ?_
    simp [hii]
    exact ⟨i + 1, Wk.ren 0 [0, 1, 2] hX rfl (by decide) (by simp [hk1]) (by simp) (by simp) (by simp), by omega, by omega⟩
  have hil : i = n.length := by omega
  subst hil
  simp
  refine xcall_fn (c_awake hso) (by simp) ?_
  simp
end Go.Proofs.Ytnfjdpnkkmflbaa
