/- Chapter 10: the law Parts, over any program that has the text, given the library's sort. -/
import Derived.Test.YtadllkhmihbfhaaL4
namespace Go.Proofs.Ytadllkhmihbfhaa
open Go.AL
variable {P : Program} [h : Facts P]

omit h in
theorem nz_zero {a b : Int} : nz a b = 0 ↔ a = 0 ∧ b = 0 := by
  unfold nz
  split
  · rename_i q; constructor
    · intro z; exact absurd z q
    · intro z; exact absurd z.1 q
  · rename_i q
    simp at q
    simp [q]
omit h in
theorem stL_zero {l : List TStmt} : stL l = 0 ↔ ∀ s ∈ l, stE s = 0 := by
  induction l with
  | nil => rw [stL_nil]; simp
  | cons x l ih => rw [stL_cons, nz_zero, ih]; simp
omit h in
theorem dpT_mem {l : List TStmt} {s : TStmt} (hs : s ∈ l) : dpS s ≤ dpT l := by
  induction l with
  | nil => cases hs
  | cons x l ih =>
    rw [dpT_cons]
    rcases List.mem_cons.1 hs with rfl | hs
    · omega
    · have := ih hs; omega
omit h in
theorem dpT_le {l : List TStmt} {n : Int} (h0 : 0 ≤ n) (hs : ∀ s ∈ l, dpS s ≤ n) : dpT l ≤ n := by
  induction l with
  | nil => rw [dpT_nil]; exact h0
  | cons x l ih =>
    rw [dpT_cons]
    have h1 := hs x (List.mem_cons_self ..)
    have h2 := ih fun s hs' => hs s (List.mem_cons_of_mem _ hs')
    omega
omit h in
theorem chkS_ok {l : List TStmt} (hz : cntT l ≤ 4000000000) (hk : chkS l = 0) : cntT l ≤ 200 ∧ dpT l ≤ 12 ∧ stL l = 0 := by
  unfold chkS at hk
  rw [wr_id (by omega) (by omega)] at hk
  split at hk
  · cases hk
  · split at hk
    · cases hk
    · exact ⟨by omega, by omega, hk⟩
omit h in
theorem chkS_of {l : List TStmt} (h1 : cntT l ≤ 200) (h2 : dpT l ≤ 12) (h3 : stL l = 0) : chkS l = 0 := by
  unfold chkS
  rw [wr_id (by omega) (by omega), if_neg (by omega), if_neg (by omega), h3]
omit h in
theorem chkS_take {l : List TStmt} (hz : cntT l ≤ 4000000000) (hk : chkS l = 0) (m : Nat) : chkS (l.take m) = 0 := by
  obtain ⟨h1, h2, h3⟩ := chkS_ok hz hk
  refine chkS_of ?_ ?_ ?_
  · have := cntT_app (l.take m) (l.drop m)
    rw [List.take_append_drop] at this
    omega
  · exact dpT_le (by omega) fun s hs => by have := dpT_mem (List.mem_of_mem_take hs); omega
  · rw [stL_zero] at h3 ⊢
    exact fun s hs => h3 s (List.mem_of_mem_take hs)
/-- A condition with this list as its Body. -/
def sPar (l : List TStmt) : TStmt := ⟨3, [], [], ⟨2, [], 0, []⟩, zE, [], zD, false, l, []⟩
omit h in
theorem ok_sPar {l : List TStmt} (hl : l.length ≤ 9223372036854775807) (hok : ∀ s ∈ l, s.ok) : (sPar l).ok := ok_stmt _ _ _ _ _ _ _ (by decide) (by simp) (by simp) (ok_leaf _ _ _ (by decide) (by simp) (by decide)) ok_zE ⟨hl, hok⟩ (by simp)
omit h in
theorem o_par (l : List TStmt) : oneE (sPar l) = 0 := by
  rw [one_of (u := ⟨false, false, true, false, false, false, false, true, true⟩) (by show usesT 3 = _; decide) (by simp [fB7, fB6, fB5, fB4, fB3, fB2, fB1, fB0, sPar, noneB_z])]
  have : partE (sPar l) ⟨false, false, true, false, false, false, false, true, true⟩ = partE (sPar []) ⟨false, false, true, false, false, false, false, true, true⟩ := rfl
  rw [this]
  decide
omit h in
theorem par_cnt (l : List TStmt) : cntT [sPar l] = cntT l + 1 := by
  rw [cntT_cons, cntT_nil, cntS_eq]
  show 1 + cntT l + cntT [] + 0 = _
  rw [cntT_nil]; omega
omit h in
theorem par_dep (l : List TStmt) (hd : dpT l ≤ 12) : dpT [sPar l] = dpT l + 1 := by
  have h0 := dpT_nn l
  rw [dpT_cons, dpT_nil, dpS_eq]
  show max (max (wr (1 + dpT l)) (wr (1 + dpT []))) 0 = _
  rw [dpT_nil, wr_id (by omega) (by omega), wr_id (by omega) (by omega)]
  omega
omit h in
theorem par_chk {l : List TStmt} (hz : cntT l ≤ 4000000000) (hk : chkS l = 0) : chkS [sPar l] = if 200 ≤ cntT l then 6 else if 12 ≤ dpT l then 11 else 0 := by
  obtain ⟨h1, h2, h3⟩ := chkS_ok hz hk
  unfold chkS
  rw [par_cnt, par_dep l h2, wr_id (by omega) (by omega)]
  by_cases c1 : 200 ≤ cntT l
  · rw [if_pos (by omega), if_pos c1]
  rw [if_neg (by omega), if_neg c1]
  by_cases c2 : 12 ≤ dpT l
  · rw [if_pos (by omega), if_pos c2]
  rw [if_neg (by omega), if_neg c2, stL_cons, stL_nil, stE_eq, o_par]
  show nz (nz 0 (nz (stL l) (stL []))) 0 = 0
  rw [h3, stL_nil]; rfl
set_option maxHeartbeats 4000000 in
theorem c_StmtParts (hso : SortAt P 33) (l : List TStmt) (k : Nat) (hl : l.length ≤ 9223372036854775807) (hok : ∀ s ∈ l, s.ok) (hk : k ≤ 255) (hz : sizT l ≤ 4000000000) : FCall P 7 [Ls false l, .int .u8 k] (fun r => r = .bool true) := by
  have hzc := sizT_cnt l
  have hln := cnt_len l
  refine fcall_of h.f7 rfl (by decide) h.mo (by kernel_rfl) fun X hX => ?_
  simp
  refine xcall_fn (c_small l hl hok) (by simp) ?_
  cases hs : smallS l
  · simp
    refine xcall_fn (c_awake hso) (by simp) ?_
    simp
  simp
  refine xcall_fn (c_SCheck l hl hok) (by simp) ?_
  by_cases hc0 : chkS l = 0
  case neg =>
    simp [hc0]
    refine xcall_fn (c_awake hso) (by simp) ?_
    simp
  obtain ⟨h1, h2, h3⟩ := chkS_ok (by omega) hc0
  have h2n := dpT_nn l
  have hw : IntKind.i64.wrap ((l.length : Int) + 1) = (l.length : Int) + 1 := i64_id (by omega) (by omega)
  have hwk : IntKind.i64.wrap (k : Int) = (k : Int) := i64_id (by omega) (by omega)
  have hne : ¬ (l.length : Int) + 1 = 0 := by omega
  have hmod : (k : Int).tmod ((l.length : Int) + 1) = ((k % (l.length + 1) : Nat) : Int) := by
    rw [Int.tmod_eq_emod_of_nonneg (by omega)]; exact (Int.natCast_emod _ _).symm
  have hmle : k % (l.length + 1) ≤ l.length := by have := Nat.mod_lt k (show 0 < l.length + 1 by omega); omega
  generalize hm : k % (l.length + 1) = m at *
  have htake : List.map Enc.enc (l.take m) = (l.map Enc.enc).take m := List.map_take
  have htk := c_SCheck (P := P) (l.take m) (by rw [List.length_take]; omega) (fun s hs => hok s (List.mem_of_mem_take hs))
  rw [chkS_take (by omega) hc0] at htk
  simp [hc0, hw, hwk, hne, hmod, hmle]
  refine xcall_fn htk (by simp) ?_
  simp
  have hpo := ok_sPar hl hok
  have hC := c_Count (P := P) l hl hok
  have hCm := c_Count (P := P) [sPar l] (by simp) (by simp [hpo])
  have hD := c_SDepth (P := P) l hl hok
  have hDm := c_SDepth (P := P) [sPar l] (by simp) (by simp [hpo])
  have hKm := c_SCheck (P := P) [sPar l] (by simp) (by simp [hpo])
  rw [wr_id (by omega) (by omega)] at hC
  rw [par_cnt, wr_id (by omega) (by omega)] at hCm
  rw [par_dep l h2] at hDm
  rw [par_chk (by omega) hc0] at hKm
  have w1 : IntKind.i64.wrap ((cntT l : Int) + 1) = (cntT l : Int) + 1 := i64_id (by omega) (by omega)
  have w2 : IntKind.i64.wrap (dpT l + 1) = dpT l + 1 := i64_id (by omega) (by omega)
  generalize hcl : cntT l = c at *
  generalize hdl : dpT l = d at *
  refine xcall_fn hCm (by simp [sPar, zE, zD, Ls]) ?_
  simp
  refine xcall_fn hC (by simp) ?_
  simp [w1]
  refine xcall_fn hDm (by simp [sPar, zE, zD, Ls]) ?_
  simp
  refine xcall_fn hD (by simp) ?_
  simp [w2]
  refine xcall_fn hKm (by simp [sPar, zE, zD, Ls]) ?_
  simp
  refine xcall_fn hC (by simp) ?_
  by_cases c1 : 200 ≤ c
  · have c1' : (200 : Int) ≤ c := by omega
    simp [c1, c1']
    refine xcall_fn (c_awake hso) (by simp) ?_
    simp
  have c1' : ¬ (200 : Int) ≤ c := by omega
  simp [c1, c1']
  refine xcall_fn hD (by simp) ?_
  by_cases c2 : 12 ≤ d
  · simp [c2]
    refine xcall_fn (c_awake hso) (by simp) ?_
    simp
  simp [c2]
  refine xcall_fn (c_awake hso) (by simp) ?_
  simp
end Go.Proofs.Ytadllkhmihbfhaa
