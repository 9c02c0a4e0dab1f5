/- Chapter 10: the law Joins, over any program that has the text, given the library's sort. -/
import Derived.Test.YtadllkhmihbfhaaL5
namespace Go.Proofs.Ytadllkhmihbfhaa
open Go.AL
variable {P : Program} [h : Facts P]

theorem c_contains (l : List (List UInt8)) (s : List UInt8) (hl : l.length ≤ 9223372036854775807) : FCall P 25 [Ls false l, .str s] (fun r => r = .bool (decide (s ∈ l))) := by
  refine fcall_of h.f25 rfl (by decide) h.mo (by kernel_rfl) fun X hX => ?_
  simp
  refine xcall_fn (c_RFind l s hl) (by simp) ?_
  have e : (0 ≤ fnd l s) = (s ∈ l) := by
    unfold fnd
    rw [idxZ_nonneg]
    simp
  simp [e]
omit h in
theorem dpT_app (a b : List TStmt) : dpT (a ++ b) = max (dpT a) (dpT b) := by
  have hb := dpT_nn b
  induction a with
  | nil => rw [List.nil_append, dpT_nil]; omega
  | cons x a ih => rw [List.cons_append, dpT_cons, dpT_cons, ih]; omega
omit h in
theorem use_mem (x : List UInt8) (l : List TStmt) : x ∈ useL l ↔ x ∈ flT usF l := by
  unfold useL
  rw [insL_mem]
  simp
omit h in
theorem use_app (x : List UInt8) (a b : List TStmt) : x ∈ useL (a ++ b) ↔ x ∈ useL a ∨ x ∈ useL b := by
  rw [use_mem, use_mem, use_mem, flT_app, List.mem_append]
set_option maxRecDepth 20000 in
set_option maxHeartbeats 8000000 in
theorem c_StmtJoins (hso : SortAt P 33) (a b : List TStmt) (s : List UInt8) (hl : a.length ≤ 9223372036854775807) (hok : ∀ s ∈ a, s.ok) (hl2 : b.length ≤ 9223372036854775807) (hok2 : ∀ s ∈ b, s.ok) (hz : sizT a ≤ 4000000000) (hz2 : sizT b ≤ 4000000000) : FCall P 6 [Ls false a, Ls false b, .str s] (fun r => r = .bool true) := by
  have hla := cnt_len a
  have hlb := cnt_len b
  refine fcall_ofB [4, 13] h.f6 rfl (by decide) h.mo (by kernel_rfl) fun X hX => ?_
  simp
  refine xcall_fn (c_small a hl hok) (by simp) ?_
  cases hs : smallS a
  · simp
    refine xcall_fn (c_awake hso) (by simp) ?_
    simp
  simp
  refine xcall_fn (c_small b hl2 hok2) (by simp) ?_
  cases hs2 : smallS b
  · simp
    refine xcall_fn (c_awake hso) (by simp) ?_
    simp
  obtain ⟨_, hca⟩ := small_cnt hz hs
  obtain ⟨_, hcb⟩ := small_cnt hz2 hs2
  have hcab := cntT_app a b
  have hokab : ∀ x ∈ a ++ b, x.ok := fun x hx => (List.mem_append.1 hx).elim (hok x) (hok2 x)
  have hlab : (a ++ b).length = a.length + b.length := List.length_append
  simp
  refine ⟨⟨by omega, by omega⟩, ⟨by omega, by omega⟩, ?_⟩
  refine awp_fzB 2 47 (a ++ b) 0 (by rfl) ?_
  refine awp_weaken (s' := (⟨[Ls false a, Ls false b, .str s, .any, .any, .any, .any, Ls false (a ++ b), .any, .any, .any, .any, .any, .any, .any, .any, .any, .any, .any, .any, .any, .any, .any, .any, .any, .any, .any, .any, .any, .any, .any, .any, .any, .any, .any, .any, .any, .any, .any, .any, .any, .any, .any, .any, .any, .any, .any, .any, .any, .any, .any, .any, .any, .any, .any, .any, .any, .any, .any, .any, .any, .any, .any, .any, .any, .any, .any, .any, .any, .any, .any, .any, .any, .any, .any, .any, .any, .any, .any, .any, .any, .any, .any, .any, .any, .any, .any, .any, .any, .any, .any, .any, .any, .any, .any, .any, .any, .any, .any, .any, .any, .any, .any, .any, .any, .any, .any, .any, .any, .any, .any, .any, .any, .any, .any, .any], []⟩ : S)) (Wk.ren 0 [] hX rfl (by decide) (by simp) (by simp) (by simp) (by simp)) ?_
  refine awp_ops ?_
  have hlc : (a ++ b).length ≤ 9223372036854775807 := by omega
  have hT := c_Targets (P := P) (a ++ b) hlc hokab (by omega)
  have hU := c_Uses (P := P) hso (a ++ b) hlc hokab (by omega)
  have hC := c_Count (P := P) (a ++ b) hlc hokab
  have hD := c_SDepth (P := P) (a ++ b) hlc hokab
  have hCa := c_Count (P := P) a hl hok
  have hCb := c_Count (P := P) b hl2 hok2
  rw [hcab, wr_id (by omega) (by omega)] at hC
  rw [wr_id (by omega) (by omega)] at hCa hCb
  rw [dpT_app] at hD
  rw [flT_app] at hT
  have hta := flT_len tgF tgF_len a
  have htb := flT_len tgF tgF_len b
  have hmem := fun x => use_app x a b
  have hinc := useL_incr (a ++ b)
  have hul := useL_len (a ++ b)
  have hua := useL_len a
  have hub := useL_len b
  have w1 : IntKind.i64.wrap ((cntT a : Int) + (cntT b : Int)) = ((cntT a + cntT b : Nat) : Int) := by rw [i64_id (by omega) (by omega)]; omega
  rw [hcab] at hul
  generalize useL (a ++ b) = u at *
  generalize a ++ b = l at *
  simp
  refine xcall_fn (c_Targets a hl hok (by omega)) (by simp) ?_
  simp
  refine ⟨⟨by omega, by omega⟩, ?_⟩
  refine xcall_fn (c_Targets b hl2 hok2 (by omega)) (by simp) ?_
  simp
  refine ⟨⟨by omega, by omega⟩, ?_⟩
  refine xcall_fn hC (by simp) ?_
  simp
  refine xcall_fn hCa (by simp) ?_
  simp
  refine xcall_fn hCb (by simp) ?_
  simp [w1]
  refine xcall_fn hD (by simp) ?_
  simp
  refine xcall_fn (c_SDepth a hl hok) (by simp) ?_
  simp
  refine xcall_fn (c_SDepth b hl2 hok2) (by simp) ?_
  simp
  refine xcall_fn hT (by simp) ?_
  simp
  refine xcall_fn (c_sameTargets (flT tgF a ++ flT tgF b) (flT tgF a ++ flT tgF b) (by simp only [List.length_append]; omega)) (by simp) ?_
  simp
  refine xcall_fn hU (by simp) ?_
  simp
  refine xcall_fn (c_Uses hso a hl hok (by omega)) (by simp) ?_
  simp
  refine xcall_fn (c_Uses hso b hl2 hok2 (by omega)) (by simp) ?_
  generalize useL a = x at *
  generalize useL b = y at *
  simp
  refine xcall_fn (c_contains u s (by omega)) (by simp) ?_
  simp
  refine xcall_fn (c_contains x s (by omega)) (by simp) ?_
  have hms := hmem s
  by_cases q1 : s ∈ x
  case' pos =>
    have q0 : s ∈ u := hms.2 (.inl q1)
    simp [q0, q1]
  case' neg =>
    simp [q1]
    refine xcall_fn (c_contains y s (by omega)) (by simp) ?_
    by_cases q2 : s ∈ y
    case' pos =>
      have q0 : s ∈ u := hms.2 (.inr q2)
      simp [q0, q2]
    case' neg =>
      have q0 : ¬ s ∈ u := fun q => (hms.1 q).elim q1 q2
      simp [q0, q2]
  all_goals
    refine awp_loop (σ := Nat) (fun k => (⟨[.any, .any, .any, .any, .any, .any, .any, .any, .any, Ls false u, Ls false x, Ls false y, .int .i64 k, .any, .any, .any, .any, .any, .any, .any, .any, .any, .any, .any, .any, .any, .any, .any, .any, .any, .any, .any, .any, .any, .any, .any, .any, .any, .any, .any, .any, .any, .any, .any, .any, .any, .any, .any, .any, .any, .any, .any, .any, .any, .any, .any, .any, .any, .any, .any, .any, .any, .any, .any, .any, .any, .any, .any, .any, .any, .any, .any, .any, .any, .any, .any, .any, .any, .any, .any, .any, .any, .any, .any, .any, .any, .any, .any, .any, .any, .any, .any, .any, .any, .any, .any, .any, .any, .any, .any, .any, .any, .any, .any, .any, .any, .any, .any, .any, .any, .any, .any, .any, .any, .any, .any], []⟩ : S)) (fun k => k ≤ u.length) (fun k => u.length - k) 0 (Wk.ren 0 [] hX rfl (by decide) (by simp) (by simp) (by simp) (by simp)) (by omega) ?_
    rintro k hk
    refine vcB_sound [13] h.mo _ _ _ (by kernel_rfl) ?_
    rcases Nat.lt_or_ge k u.length with hlt | hge
    case inr =>
      have hge' : ¬ k < u.length := by omega
      simp [hge']
      refine xcall_fn (c_awake hso) (by simp) ?_
      simp
    have hk1 := wrap_succ hlt (by omega)
    have hin := (hmem u[k]).1 (List.getElem_mem hlt)
    simp [hlt]
    refine awp_quiet [0, 1, 2, 3, 4, 5, 6, 7, 8, 9, 10, 11, 12, 13, 14, 15, 16, 17, 18, 19, 20, 21, 22, 23, 24, 25, 26, 27, 28, 29, 30, 31] _ h.mo (by kernel_rfl) (by decide) (by kernel_rfl) (by rfl) ?_
    have hcx := c_contains (P := P) x u[k] (by omega)
    have hcy := c_contains (P := P) y u[k] (by omega)
    have hd : k = 0 ∨ ∃ j, k = j + 1 := by cases k; exact .inl rfl; exact .inr ⟨_, rfl⟩
    rcases hd with k0 | ⟨j, hj⟩
    case' inl =>
      have k0n : ¬ 0 < k := by omega
      simp [k0n, hlt]
    case' inr =>
      have k0n : 0 < k := by omega
      have hjl : j < u.length := by omega
      have hwm : IntKind.i64.wrap ((k : Int) - 1) = (j : Int) := by rw [i64_id (by omega) (by omega)]; omega
      have hlt2 : u[j] < u[k] := by subst hj; exact List.pairwise_iff_getElem.1 hinc j (j + 1) hjl hlt (by omega)
      have hb : Op.bytesLess u[k] u[j] = false := by rw [less_eq]; exact decide_eq_false fun z => List.lt_irrefl _ (List.lt_trans z hlt2)
      have hne : ¬ u[k] = u[j] := fun e => by rw [e] at hlt2; exact List.lt_irrefl _ hlt2
      clear hj
      simp [k0n, hlt, hwm, hjl, hb, hne]
    all_goals
      refine ⟨_, hcx, ?_⟩
      by_cases c1 : u[k] ∈ x
      · simp [c1]
        exact ⟨k + 1, Wk.ren 0 [] hX rfl (by decide) (by simp [hk1]) (by simp) (by simp) (by simp), by omega, by omega⟩
      · have c2 : u[k] ∈ y := hin.resolve_left c1
        simp [c1, hlt]
        refine ⟨_, hcy, ?_⟩
        simp [c2]
        exact ⟨k + 1, Wk.ren 0 [] hX rfl (by decide) (by simp [hk1]) (by simp) (by simp) (by simp), by omega, by omega⟩
end Go.Proofs.Ytadllkhmihbfhaa
