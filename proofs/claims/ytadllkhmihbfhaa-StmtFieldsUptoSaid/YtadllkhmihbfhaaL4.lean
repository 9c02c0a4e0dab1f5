/- Chapter 10: the law Names, over any program that has the text, given the library's sort. -/
import Derived.Test.YtadllkhmihbfhaaL3
namespace Go.Proofs.Ytadllkhmihbfhaa
open Go.AL
variable {P : Program} [h : Facts P]

theorem take_eq_all1 {α : Type} {a b : List α} (hl : a.length = b.length) (ht : a.take a.length = b.take a.length) : a = b := take_eq_all hl ht
theorem c_R07Same (a b : List (List UInt8)) (hl : a.length ≤ 9223372036854775807) : FCall P 20 [Ls false a, Ls false b] (fun r => r = .bool (decide (a = b))) := by
  refine fcall_of h.f20 rfl (by decide) h.mo (by kernel_rfl) fun X hX => ?_
  by_cases q4 : a.length = b.length
  case neg =>
    have q4' : ¬ (a.length : Int) = (b.length : Int) := by omega
    rw [decide_eq_false (by intro q; exact q4 (by rw [q]))]
    simp [q4']
  have q4' : (a.length : Int) = (b.length : Int) := by omega
  simp [eq_true q4']
  refine awp_loop (σ := Nat) (fun k => (⟨[Ls false a, Ls false b, .any, .any, .any, .int .i64 k, .any, .any, .any, .any, .any, .any, .any, .any, .any, .any, .any, .any, .any, .any, .any, .any, .any, .any, .any, .any], []⟩ : S)) (fun k => k ≤ a.length ∧ a.take k = b.take k) (fun k => a.length - k) 0 (Wk.ren 0 [] hX rfl (by decide) (by simp) (by simp) (by simp) (by simp)) ⟨by simp, by simp⟩ ?_
  rintro k ⟨hk, hinv⟩
  refine vc_sound h.mo _ _ _ (by kernel_rfl) ?_
  rcases Nat.lt_or_ge k a.length with hlt | hge
  · have hlt2 : k < b.length := by omega
    have hk1 := wrap_succ hlt hl
    by_cases q5 : a[k] = b[k]
    · simp [hlt, hlt2, eq_true q5]
      exact ⟨k + 1, Wk.ren 0 [] hX rfl (by decide) (by simp [hk1]) (by simp) (by simp) (by simp), ⟨by omega, take_step hlt hlt2 hinv q5⟩, by omega⟩
    · simp [hlt, hlt2, q5]
      exact take_no hlt hlt2 q5
  · have hkl : k = a.length := by omega
    subst hkl
    have hall := take_eq_all q4 hinv
    subst hall
    simp
theorem c_sameTargets (a b : List TPair) (hl : a.length ≤ 9223372036854775807) : FCall P 17 [Ls false a, Ls false b] (fun r => r = .bool (decide (a = b))) := by
  refine fcall_of h.f17 rfl (by decide) h.mo (by kernel_rfl) fun X hX => ?_
  by_cases q4 : a.length = b.length
  case neg =>
    have q4' : ¬ (a.length : Int) = (b.length : Int) := by omega
    rw [decide_eq_false (by intro q; exact q4 (by rw [q]))]
    simp [q4']
  have q4' : (a.length : Int) = (b.length : Int) := by omega
  simp [eq_true q4']
  refine awp_loop (σ := Nat) (fun k => (⟨[Ls false a, Ls false b, .any, .any, .any, .int .i64 k, .any, .any, .any, .any, .any, .any, .any, .any, .any, .any, .any, .any, .any, .any, .any, .any, .any, .any, .any, .any], []⟩ : S)) (fun k => k ≤ a.length ∧ a.take k = b.take k) (fun k => a.length - k) 0 (Wk.ren 0 [] hX rfl (by decide) (by simp) (by simp) (by simp) (by simp)) ⟨by simp, by simp⟩ ?_
  rintro k ⟨hk, hinv⟩
  refine vc_sound h.mo _ _ _ (by kernel_rfl) ?_
  rcases Nat.lt_or_ge k a.length with hlt | hge
  · have hlt2 : k < b.length := by omega
    have hk1 := wrap_succ hlt hl
    have hpe : a[k] = b[k] ↔ a[k].fA = b[k].fA ∧ a[k].fB = b[k].fB := by
      constructor
      · intro q; rw [q]; exact ⟨rfl, rfl⟩
      · rintro ⟨q1, q2⟩
        cases hx : a[k]; cases hy : b[k]
        rw [hx, hy] at q1 q2
        simp only at q1 q2
        rw [q1, q2]
    by_cases q5 : a[k] = b[k]
    · have q6 := hpe.1 q5
      simp [hlt, hlt2, q6.1, q6.2]
      exact ⟨k + 1, Wk.ren 0 [] hX rfl (by decide) (by simp [hk1]) (by simp) (by simp) (by simp), ⟨by omega, take_step hlt hlt2 hinv q5⟩, by omega⟩
    · have hn := take_no hlt hlt2 q5
      rw [hpe] at q5
      simp [hlt, hlt2]
      exact ⟨fun _ => hn, fun q1 q2 => (q5 ⟨q1, q2⟩).elim⟩
  · have hkl : k = a.length := by omega
    subst hkl
    have hall := take_eq_all q4 hinv
    subst hall
    simp
omit h in
theorem siz_cnt : ∀ s : TStmt, cntS s ≤ sizS s := by
  refine TStmt.ind fun e ih1 ih2 => ?_
  have key : ∀ l : List TStmt, (∀ y ∈ l, cntS y ≤ sizS y) → cntT l ≤ sizT l := by
    intro l
    induction l with
    | nil => intro _; rw [cntT_nil, sizT_nil]; exact Nat.le_refl _
    | cons x l ihl =>
      intro hl
      rw [cntT_cons, sizT_cons]
      have h1 := hl x (List.mem_cons_self ..)
      have h2 := ihl fun y hy => hl y (List.mem_cons_of_mem _ hy)
      omega
  rw [cntS_eq, sizS_eq]
  have h1 := key _ ih1
  have h2 := key _ ih2
  omega
omit h in
theorem sizT_cnt (l : List TStmt) : cntT l ≤ sizT l := by
  induction l with
  | nil => rw [cntT_nil, sizT_nil]; exact Nat.le_refl _
  | cons x l ih => rw [cntT_cons, sizT_cons]; have := siz_cnt x; omega
omit h in
theorem small_cnt {l : List TStmt} (hz : sizT l ≤ 4000000000) (hs : smallS l = true) : sizT l ≤ 3000 ∧ cntT l ≤ 3000 := by
  have h1 := of_decide_eq_true hs
  rw [wr_id (by omega) (by omega)] at h1
  have := sizT_cnt l
  omega
omit h in
theorem cnt_len (l : List TStmt) : l.length ≤ cntT l := by
  induction l with
  | nil => simp
  | cons x l ih => rw [cntT_cons, cntS_eq, List.length_cons]; omega
set_option maxHeartbeats 2000000 in
theorem c_StmtNames (hso : SortAt P 33) (l : List TStmt) (hl : l.length ≤ 9223372036854775807) (hok : ∀ s ∈ l, s.ok) (hz : sizT l ≤ 4000000000) : FCall P 4 [Ls false l] (fun r => r = .bool true) := by
  refine fcall_ofB [3] h.f4 rfl (by decide) h.mo (by kernel_rfl) fun X hX => ?_
  simp
  refine xcall_fn (c_small l hl hok) (by simp) ?_
  cases hs : smallS l
  · simp
    refine xcall_fn (c_awake hso) (by simp) ?_
    simp
  have ⟨_, hc⟩ := small_cnt hz hs
  have ht := flT_len tgF tgF_len l
  have hu := useL_len l
  simp
  refine awp_ops ?_
  simp
  refine xcall_fn (c_Targets l hl hok (by omega)) (by simp) ?_
  simp
  refine xcall_fn (c_RTargets l hl hok (by omega)) (by simp) ?_
  simp
  refine xcall_fn (c_sameTargets (flT tgF l) (flT tgF l) (by omega)) (by simp) ?_
  simp
  refine xcall_fn (c_Uses hso l hl hok (by omega)) (by simp) ?_
  simp
  refine xcall_fresh (c_RUses l hl hok (by omega)) (by simp) ?_
  rintro _ _ ⟨rfl, rfl⟩
  rw [shA_B]
  simp
  refine xcall_fn (c_R07Same (useL l) (useL l) (by omega)) (by simp) ?_
  simp
  refine xcall_fn (c_awake hso) (by simp) ?_
  simp
end Go.Proofs.Ytadllkhmihbfhaa
