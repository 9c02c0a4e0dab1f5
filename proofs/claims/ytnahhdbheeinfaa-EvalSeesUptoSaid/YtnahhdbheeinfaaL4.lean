/- Chapter 15: values of expressions: what the value sees, over any program that has the text. -/
import Derived.Test.YtnahhdbheeinfaaA1
import Derived.Test.YtnahhdbheeinfaaP2
namespace Go.Proofs.Ytnahhdbheeinfaa
open Go.AL
variable {P : Program} [h : Facts P]

theorem c_mentions (op n : Int) : ∀ (e : TExpr), e.ok → FCall P 17 [.agg e.cells, .int .i64 op, .int .i64 n] (fun r => r = .bool (menE op n e)) := by
  refine TExpr.ind fun e ih => ?_
  intro hok
  rw [menE_eq]
  obtain ⟨_, _, _, _, hkl, hko⟩ := hok
  obtain ⟨o, nm, m, ks⟩ := e
  simp only at hkl hko ih ⊢
  refine fcall_of h.f17 rfl (by decide) h.mo (by kernel_rfl) fun X hX => ?_
  by_cases q1 : o = op
  case' pos =>
    by_cases q2 : m = n
    case' pos => simp [eq_true q1, eq_true q2]
    case' neg => simp [eq_true q1, q2]
  case' neg => simp [q1]
  all_goals
    refine awp_loop (σ := Nat) (fun k => (⟨[.any, .int .i64 op, .int .i64 n, .pto 0 4 0 0, .any, .any, .any, .int .i64 k, .any, .any, .any, .any, .any, .any, .any, .any, .any, .any, .any, .any, .any, .any, .any, .any, .any, .any, .any, .any, .any, .any, .any, .any, .any], [⟨32, 4, [.agg (⟨o, nm, m, ks⟩ : TExpr).cells], 0, true⟩]⟩ : S)) (fun k => k ≤ ks.length ∧ menL op n ks = menL op n (ks.drop k)) (fun k => ks.length - k) 0 (Wk.ren 0 [0] hX rfl (by decide) (by simp) (by simp) (by simp) (by simp)) ⟨by simp, by simp⟩ ?_
    rintro k ⟨hk, hinv⟩
    refine vc_sound h.mo _ _ _ (by kernel_rfl) ?_
    rcases Nat.lt_or_ge k ks.length with hlt | hge
    · have hk1 := wrap_succ hlt hkl
      have hmem := List.getElem_mem hlt
      rw [List.drop_eq_getElem_cons hlt, menL_cons] at hinv
      simp [hlt]
      refine xcall_fn (ih ks[k] hmem (hko _ hmem)) (by simp) ?_
      cases hz : menE op n ks[k]
      · rw [hz, Bool.false_or] at hinv
        simp
        exact ⟨k + 1, Wk.ren 0 [0] hX rfl (by decide) (by simp [hk1]) (by simp) (by simp) (by simp), ⟨by omega, hinv⟩, by omega⟩
      · rw [hz, Bool.true_or] at hinv
        simp [hinv]
    · have hkl : k = ks.length := by omega
      subst hkl
      rw [List.drop_length, menL_nil] at hinv
      simp [hinv]
theorem c_other (l : List Int) (k : Nat) (n : Int) (hl : l.length ≤ 4000000000) : FCall P 18 [Ls false l, .int .i64 (k : Int), .int .i64 n] (fun r => r = Ls false (l.set k n)) := by
  refine fcall_of h.f18 rfl (by decide) h.mo (by kernel_rfl) fun X hX => ?_
  simp
  exact ⟨⟨by omega, by omega⟩, fun hk => by rw [List.set_eq_of_length_le hk]⟩
omit h in
theorem awp_cutS {X : Ctx} {x y : Code} {Q : AX → S → Prop} {s : S} (s1 : S) (h1 : awp P X x (fun e s' => e = .normal ∧ Wk P X s' s1) s) (h2 : awp P X y Q s1) : awp P X (.seq x y) Q s :=
  awp_seq (awp_mono h1 (by rintro e s' ⟨rfl, hw⟩; exact awp_weaken hw h2))
set_option maxRecDepth 4000 in
set_option maxHeartbeats 4000000 in
theorem c_EvalSees (v : TView) (e : TExpr) (k : Nat) (n : Int) (hk : k ≤ 255) (hok : e.ok) (hs : v.fSlots.length ≤ 4000000000 ∧ v.fVars.length ≤ 4000000000 ∧ v.fFree.length ≤ 4000000000 ∧ v.fSize.length ≤ 4000000000 ∧ v.fWaiting.length ≤ 4000000000) : FCall P 7 [.agg v.cells, .agg e.cells, .int .u8 (k : Int), .int .i64 n] (fun r => r = .bool true) := by
  refine fcall_ofA h.f7 rfl (by decide) fun X hX => ?_
  obtain ⟨s1, s2, s3, s4, s5⟩ := hs
  have cf := c_few (P := P) e hok
  have cm := fun a b => c_mentions (P := P) a b e hok
  have hseen := seen_expr v e k n
  have hkw : IntKind.i64.wrap (k : Int) = (k : Int) := i64_id (by omega) (by omega)
  obtain ⟨op, nm, m, ks⟩ := e
  refine awp_seq (vc_sound h.mo _ _ _ (by kernel_rfl) ?_)
  simp
  refine awp_seq (vc_sound h.mo _ _ _ (by kernel_rfl) ?_)
  simp
  refine xcall_fn cf (by simp) ?_
  cases hf : fewB ⟨op, nm, m, ks⟩
  · simp
    refine xcall_fn c_awake (by simp) ?_
    simp
  have hcnt := (fewB_cnt hf).1
  have cx := c_Expr (P := P) v ⟨op, nm, m, ks⟩ hok (by omega)
  have cy := c_Expr (P := P) (seenV v ⟨op, nm, m, ks⟩ k n) ⟨op, nm, m, ks⟩ hok (by omega)
  rw [← hseen] at cy
  simp
  refine awp_seq (vc_sound h.mo _ _ _ (by kernel_rfl) ?_)
  simp [hkw]
  refine awp_cutS (⟨[.any, .any, .any, .int .i64 n, .pto 0 6 0 0, .pto 1 4 0 0, .any, .any, .any, .int .i64 k, .pto 2 6 0 0, .any, .any, .any, .any, .any, .any, .any, .any, .any, .any, .any, .any, .any, .any, .any, .any, .any, .any, .any, .any, .any, .any, .any, .any, .any, .any, .any, .any, .any, .any, .any, .any, .any, .any, .any, .any, .any, .any, .any, .any, .any, .any, .any, .any, .any, .any, .any, .any, .any, .any, .any, .any, .any, .any, .any, .any, .any, .any, .any, .any, .any, .any, .any, .any, .any, .any, .any, .any, .any, .any, .any, .any], [⟨29, 6, [.agg v.cells], 0, true⟩, ⟨32, 4, [.agg (⟨op, nm, m, ks⟩ : TExpr).cells], 0, true⟩, ⟨29, 6, [.agg (⟨v.fNow, v.fSlots, v.fVars, v.fFree, v.fSize, v.fWaiting⟩ : TView).cells], 0, true⟩]⟩ : S) (vc_sound h.mo _ _ _ (by kernel_rfl) ?_) ?_
  case refine_1 =>
    simp
    exact Wk.ren 0 [0, 1, 2] hX rfl (by decide) (by simp) (by simp) (by simp) (by simp)
  refine awp_cutS (⟨[.any, .any, .any, .int .i64 n, .pto 0 6 0 0, .pto 1 4 0 0, .any, .any, .any, .int .i64 k, .pto 2 6 0 0, .any, .any, .any, .any, .any, .any, .any, .any, .any, .any, .any, .any, .any, .any, .any, .any, .any, .any, .any, .any, .any, .any, .any, .any, .any, .any, .any, .any, .any, .any, .any, .any, .any, .any, .any, .any, .any, .any, .any, .any, .any, .any, .any, .any, .any, .any, .any, .any, .any, .any, .any, .any, .any, .any, .any, .any, .any, .any, .any, .any, .any, .any, .any, .any, .any, .any, .any, .any, .any, .any, .any, .any], [⟨29, 6, [.agg v.cells], 0, true⟩, ⟨32, 4, [.agg (⟨op, nm, m, ks⟩ : TExpr).cells], 0, true⟩, ⟨29, 6, [.agg (⟨v.fNow, setIf (menE 25 k (⟨op, nm, m, ks⟩ : TExpr)) v.fSlots k n, v.fVars, v.fFree, v.fSize, v.fWaiting⟩ : TView).cells], 0, true⟩]⟩ : S) (vc_sound h.mo _ _ _ (by kernel_rfl) ?_) ?_
  case refine_1 =>
    simp
    refine xcall_fn (cm 25 k) (by simp) ?_
    cases menE 25 k (⟨op, nm, m, ks⟩ : TExpr)
    · simp
      refine xcall_fn (c_other v.fSlots k n s1) (by simp) ?_
      simp [setIf]
      exact Wk.ren 0 [0, 1, 2] hX rfl (by decide) (by simp) (by simp) (by simp) (by simp)
    · simp [setIf]
      exact Wk.ren 0 [0, 1, 2] hX rfl (by decide) (by simp) (by simp) (by simp) (by simp)
  refine awp_cutS (⟨[.any, .any, .any, .int .i64 n, .pto 0 6 0 0, .pto 1 4 0 0, .any, .any, .any, .int .i64 k, .pto 2 6 0 0, .any, .any, .any, .any, .any, .any, .any, .any, .any, .any, .any, .any, .any, .any, .any, .any, .any, .any, .any, .any, .any, .any, .any, .any, .any, .any, .any, .any, .any, .any, .any, .any, .any, .any, .any, .any, .any, .any, .any, .any, .any, .any, .any, .any, .any, .any, .any, .any, .any, .any, .any, .any, .any, .any, .any, .any, .any, .any, .any, .any, .any, .any, .any, .any, .any, .any, .any, .any, .any, .any, .any, .any], [⟨29, 6, [.agg v.cells], 0, true⟩, ⟨32, 4, [.agg (⟨op, nm, m, ks⟩ : TExpr).cells], 0, true⟩, ⟨29, 6, [.agg (⟨v.fNow, setIf (menE 25 k (⟨op, nm, m, ks⟩ : TExpr)) v.fSlots k n, setIf (menE 26 k (⟨op, nm, m, ks⟩ : TExpr)) v.fVars k n, v.fFree, v.fSize, v.fWaiting⟩ : TView).cells], 0, true⟩]⟩ : S) (vc_sound h.mo _ _ _ (by kernel_rfl) ?_) ?_
  case refine_1 =>
    simp
    refine xcall_fn (cm 26 k) (by simp) ?_
    cases menE 26 k (⟨op, nm, m, ks⟩ : TExpr)
    · simp
      refine xcall_fn (c_other v.fVars k n s2) (by simp) ?_
      simp [setIf]
      exact Wk.ren 0 [0, 1, 2] hX rfl (by decide) (by simp) (by simp) (by simp) (by simp)
    · simp [setIf]
      exact Wk.ren 0 [0, 1, 2] hX rfl (by decide) (by simp) (by simp) (by simp) (by simp)
  refine awp_cutS (⟨[.any, .any, .any, .int .i64 n, .pto 0 6 0 0, .pto 1 4 0 0, .any, .any, .any, .int .i64 k, .pto 2 6 0 0, .any, .any, .any, .any, .any, .any, .any, .any, .any, .any, .any, .any, .any, .any, .any, .any, .any, .any, .any, .any, .any, .any, .any, .any, .any, .any, .any, .any, .any, .any, .any, .any, .any, .any, .any, .any, .any, .any, .any, .any, .any, .any, .any, .any, .any, .any, .any, .any, .any, .any, .any, .any, .any, .any, .any, .any, .any, .any, .any, .any, .any, .any, .any, .any, .any, .any, .any, .any, .any, .any, .any, .any], [⟨29, 6, [.agg v.cells], 0, true⟩, ⟨32, 4, [.agg (⟨op, nm, m, ks⟩ : TExpr).cells], 0, true⟩, ⟨29, 6, [.agg (⟨v.fNow, setIf (menE 25 k (⟨op, nm, m, ks⟩ : TExpr)) v.fSlots k n, setIf (menE 26 k (⟨op, nm, m, ks⟩ : TExpr)) v.fVars k n, setIf (menE 22 k (⟨op, nm, m, ks⟩ : TExpr)) v.fFree k n, v.fSize, v.fWaiting⟩ : TView).cells], 0, true⟩]⟩ : S) (vc_sound h.mo _ _ _ (by kernel_rfl) ?_) ?_
  case refine_1 =>
    simp
    refine xcall_fn (cm 22 k) (by simp) ?_
    cases menE 22 k (⟨op, nm, m, ks⟩ : TExpr)
    · simp
      refine xcall_fn (c_other v.fFree k n s3) (by simp) ?_
      simp [setIf]
      exact Wk.ren 0 [0, 1, 2] hX rfl (by decide) (by simp) (by simp) (by simp) (by simp)
    · simp [setIf]
      exact Wk.ren 0 [0, 1, 2] hX rfl (by decide) (by simp) (by simp) (by simp) (by simp)
  refine awp_cutS (⟨[.any, .any, .any, .int .i64 n, .pto 0 6 0 0, .pto 1 4 0 0, .any, .any, .any, .int .i64 k, .pto 2 6 0 0, .any, .any, .any, .any, .any, .any, .any, .any, .any, .any, .any, .any, .any, .any, .any, .any, .any, .any, .any, .any, .any, .any, .any, .any, .any, .any, .any, .any, .any, .any, .any, .any, .any, .any, .any, .any, .any, .any, .any, .any, .any, .any, .any, .any, .any, .any, .any, .any, .any, .any, .any, .any, .any, .any, .any, .any, .any, .any, .any, .any, .any, .any, .any, .any, .any, .any, .any, .any, .any, .any, .any, .any], [⟨29, 6, [.agg v.cells], 0, true⟩, ⟨32, 4, [.agg (⟨op, nm, m, ks⟩ : TExpr).cells], 0, true⟩, ⟨29, 6, [.agg (⟨v.fNow, setIf (menE 25 k (⟨op, nm, m, ks⟩ : TExpr)) v.fSlots k n, setIf (menE 26 k (⟨op, nm, m, ks⟩ : TExpr)) v.fVars k n, setIf (menE 22 k (⟨op, nm, m, ks⟩ : TExpr)) v.fFree k n, setIf (menE 23 k (⟨op, nm, m, ks⟩ : TExpr)) v.fSize k n, v.fWaiting⟩ : TView).cells], 0, true⟩]⟩ : S) (vc_sound h.mo _ _ _ (by kernel_rfl) ?_) ?_
  case refine_1 =>
    simp
    refine xcall_fn (cm 23 k) (by simp) ?_
    cases menE 23 k (⟨op, nm, m, ks⟩ : TExpr)
    · simp
      refine xcall_fn (c_other v.fSize k n s4) (by simp) ?_
      simp [setIf]
      exact Wk.ren 0 [0, 1, 2] hX rfl (by decide) (by simp) (by simp) (by simp) (by simp)
    · simp [setIf]
      exact Wk.ren 0 [0, 1, 2] hX rfl (by decide) (by simp) (by simp) (by simp) (by simp)
  refine awp_cutS (⟨[.any, .any, .any, .int .i64 n, .pto 0 6 0 0, .pto 1 4 0 0, .any, .any, .any, .int .i64 k, .pto 2 6 0 0, .any, .any, .any, .any, .any, .any, .any, .any, .any, .any, .any, .any, .any, .any, .any, .any, .any, .any, .any, .any, .any, .any, .any, .any, .any, .any, .any, .any, .any, .any, .any, .any, .any, .any, .any, .any, .any, .any, .any, .any, .any, .any, .any, .any, .any, .any, .any, .any, .any, .any, .any, .any, .any, .any, .any, .any, .any, .any, .any, .any, .any, .any, .any, .any, .any, .any, .any, .any, .any, .any, .any, .any], [⟨29, 6, [.agg v.cells], 0, true⟩, ⟨32, 4, [.agg (⟨op, nm, m, ks⟩ : TExpr).cells], 0, true⟩, ⟨29, 6, [.agg (⟨v.fNow, setIf (menE 25 k (⟨op, nm, m, ks⟩ : TExpr)) v.fSlots k n, setIf (menE 26 k (⟨op, nm, m, ks⟩ : TExpr)) v.fVars k n, setIf (menE 22 k (⟨op, nm, m, ks⟩ : TExpr)) v.fFree k n, setIf (menE 23 k (⟨op, nm, m, ks⟩ : TExpr)) v.fSize k n, setIf (menE 24 k (⟨op, nm, m, ks⟩ : TExpr)) v.fWaiting k n⟩ : TView).cells], 0, true⟩]⟩ : S) (vc_sound h.mo _ _ _ (by kernel_rfl) ?_) ?_
  case refine_1 =>
    simp
    refine xcall_fn (cm 24 k) (by simp) ?_
    cases menE 24 k (⟨op, nm, m, ks⟩ : TExpr)
    · simp
      refine xcall_fn (c_other v.fWaiting k n s5) (by simp) ?_
      simp [setIf]
      exact Wk.ren 0 [0, 1, 2] hX rfl (by decide) (by simp) (by simp) (by simp) (by simp)
    · simp [setIf]
      exact Wk.ren 0 [0, 1, 2] hX rfl (by decide) (by simp) (by simp) (by simp) (by simp)
  refine awp_cutS (⟨[.any, .any, .any, .int .i64 n, .pto 0 6 0 0, .pto 1 4 0 0, .any, .any, .any, .int .i64 k, .pto 2 6 0 0, .any, .any, .any, .any, .any, .any, .any, .any, .any, .any, .any, .any, .any, .any, .any, .any, .any, .any, .any, .any, .any, .any, .any, .any, .any, .any, .any, .any, .any, .any, .any, .any, .any, .any, .any, .any, .any, .any, .any, .any, .any, .any, .any, .any, .any, .any, .any, .any, .any, .any, .any, .any, .any, .any, .any, .any, .any, .any, .any, .any, .any, .any, .any, .any, .any, .any, .any, .any, .any, .any, .any, .any], [⟨29, 6, [.agg v.cells], 0, true⟩, ⟨32, 4, [.agg (⟨op, nm, m, ks⟩ : TExpr).cells], 0, true⟩, ⟨29, 6, [.agg (⟨if menE 4 0 (⟨op, nm, m, ks⟩ : TExpr) = true then v.fNow else n, setIf (menE 25 k (⟨op, nm, m, ks⟩ : TExpr)) v.fSlots k n, setIf (menE 26 k (⟨op, nm, m, ks⟩ : TExpr)) v.fVars k n, setIf (menE 22 k (⟨op, nm, m, ks⟩ : TExpr)) v.fFree k n, setIf (menE 23 k (⟨op, nm, m, ks⟩ : TExpr)) v.fSize k n, setIf (menE 24 k (⟨op, nm, m, ks⟩ : TExpr)) v.fWaiting k n⟩ : TView).cells], 0, true⟩]⟩ : S) (vc_sound h.mo _ _ _ (by kernel_rfl) ?_) ?_
  case refine_1 =>
    simp
    refine xcall_fn (cm 4 0) (by simp) ?_
    cases menE 4 0 (⟨op, nm, m, ks⟩ : TExpr)
    · simp
      exact Wk.ren 0 [0, 1, 2] hX rfl (by decide) (by simp) (by simp) (by simp) (by simp)
    · simp
      exact Wk.ren 0 [0, 1, 2] hX rfl (by decide) (by simp) (by simp) (by simp) (by simp)
  unfold seenV at cy
  refine awp_seq (awp_quiet [0, 1, 3, 4, 2, 5, 6, 7, 8, 9, 10] _ h.mo (by kernel_rfl) (by decide) (by kernel_rfl) (by rfl) ?_)
  simp
  refine ⟨_, cx, ?_⟩
  simp
  refine ⟨_, by simpa using cy, ?_⟩
  simp
  refine ⟨_, c_awake, ?_⟩
  refine vc_sound h.mo _ _ _ (by kernel_rfl) ?_
  simp
end Go.Proofs.Ytnahhdbheeinfaa
