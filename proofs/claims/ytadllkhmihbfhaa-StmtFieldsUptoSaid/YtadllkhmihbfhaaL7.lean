/- Chapter 10: the law Fields, walked, over any program that has the text, given the library's sort. -/
import Derived.Test.YtadllkhmihbfhaaL6
namespace Go.Proofs.Ytadllkhmihbfhaa
open Go.AL
variable {P : Program} [h : Facts P]

omit h in
theorem ok_set {l : List TStmt} {k : Nat} {t : TStmt} (hok : ∀ s ∈ l, s.ok) (ht : t.ok) : ∀ s ∈ l.set k t, s.ok := by
  intro s hs
  rcases List.mem_or_eq_of_mem_set hs with q | q
  · exact hok s q
  · rw [q]; exact ht
omit h in
theorem ok_flag {s : TStmt} (hs : s.ok) : ({ s with fFlag := true } : TStmt).ok := by
  obtain ⟨_, h1, h2, h3, h4, h5, h6, h7, h8, h9, h10, h11⟩ := hs
  exact .mk _ h1 h2 h3 h4 h5 h6 h7 h8 h9 h10 h11
omit h in
theorem ok_of {s : TStmt} (hs : s.ok) : ({ s with fOf := [97] } : TStmt).ok := by
  obtain ⟨_, h1, h2, h3, h4, h5, h6, h7, h8, h9, h10, h11⟩ := hs
  exact .mk _ h1 h2 (by simp) h4 h5 h6 h7 h8 h9 h10 h11
omit h in
theorem ok_f {s : TStmt} (hs : s.ok) : ({ s with fF := nE 1 } : TStmt).ok := by
  obtain ⟨_, h1, h2, h3, h4, h5, h6, h7, h8, h9, h10, h11⟩ := hs
  exact .mk _ h1 h2 h3 h4 (ok_nE (by decide)) h6 h7 h8 h9 h10 h11
def oneD : TDist := ⟨1, 0, 0, 0, [], []⟩
omit h in
theorem ok_d {s : TStmt} (hs : s.ok) : ({ s with fDist := oneD } : TStmt).ok := by
  obtain ⟨_, h1, h2, h3, h4, h5, h6, h7, h8, h9, h10, h11⟩ := hs
  exact .mk _ h1 h2 h3 h4 h5 h6 ⟨(by decide : (Lit.int .i64 1).wf = true), (by decide : (Lit.int .i64 0).wf = true), (by decide : (Lit.int .i64 0).wf = true), (by decide : (Lit.int .i64 0).wf = true), by simp [oneD], by simp [oneD]⟩ h8 h9 h10 h11
omit h in
theorem no_of {b : Bool} (hn : b = true → False) : b = false := by cases b <;> simp_all
omit h in
theorem one_flag {s : TStmt} (hs : stE s = 0) (ho : ¬ s.fOp = 6) : oneE ({ s with fFlag := true } : TStmt) = 1 := by
  obtain ⟨u, hq, _, _⟩ := stE_ok hs
  refine one_bad (u := u) hq (no_of fun q => ?_)
  rw [fB7_of] at q
  rcases q.2.2.2.2.2.2.1 with q | q
  · exact ho (flag_op hq q)
  · cases q
omit h in
theorem one_of1 {s : TStmt} (hs : stE s = 0) (ho : s.fOf = []) : oneE ({ s with fOf := [97] } : TStmt) = 1 := by
  obtain ⟨u, hq, _, hp⟩ := stE_ok hs
  refine one_bad (u := u) hq (no_of fun q => ?_)
  rw [fB7_of] at q
  rcases q.2.1 with q | q
  · rw [of_bad hp ho] at q; cases q
  · cases q
omit h in
theorem one_f {s : TStmt} (hs : stE s = 0) (ho : s.fF.fOp = 0) : oneE ({ s with fF := nE 1 } : TStmt) = 1 := by
  obtain ⟨u, hq, _, hp⟩ := stE_ok hs
  refine one_bad (u := u) hq (no_of fun q => ?_)
  rw [fB7_of] at q
  rcases q.2.2.2.1 with q | q
  · rw [f_bad hp ho] at q; cases q
  · simp [nE, zE] at q
omit h in
theorem one_d {s : TStmt} (hs : stE s = 0) (ho : s.fDist.fOp = 0) : oneE ({ s with fDist := oneD } : TStmt) = 1 := by
  obtain ⟨u, hq, _, hp⟩ := stE_ok hs
  refine one_bad (u := u) hq (no_of fun q => ?_)
  rw [fB7_of] at q
  rcases q.2.2.2.2.2.1 with q | q
  · rw [d_bad hp ho] at q; cases q
  · simp [oneD, zD] at q
omit h in
theorem noid_set (X : A) (hX : X.noid = true) : ∀ (l : List TStmt) (k : Nat), noidL ((l.map Enc.enc).set k X) = true
  | [], k => rfl
  | x :: l, 0 => by simp only [List.map_cons, List.set_cons_zero, noidL, hX, noidL_enc, Bool.and_self]
  | x :: l, k + 1 => by simp only [List.map_cons, List.set_cons_succ, noidL, Enc.noid, noid_set X hX l k, Bool.and_self]
omit h in
theorem wk_set (X : A) : ∀ (l : List TStmt) (k : Nat), wkL ((l.map Enc.enc).set k X) = (l.map Enc.enc).set k (wkA X)
  | [], k => rfl
  | x :: l, 0 => by
    have := wk_set X l 0
    simp only [List.map_cons, List.set_cons_zero, wkL]
    rw [wkL_enc]
  | x :: l, k + 1 => by simp only [List.map_cons, List.set_cons_succ, wkL, Enc.wk, wk_set X l k]
set_option maxRecDepth 20000 in
set_option maxHeartbeats 8000000 in
theorem c_StmtFields (hso' : SortAt P 33) (l : List TStmt) (ka kf : Nat) (hl : l.length ≤ 9223372036854775807) (hok : ∀ s ∈ l, s.ok) (hk1 : ka ≤ 255) (hk2 : kf ≤ 255) (hz : sizT l ≤ 4000000000) : FCall P 8 [Ls false l, .int .u8 ka, .int .u8 kf] (fun r => r = .bool true) := by
  have hzc := sizT_cnt l
  have hln := cnt_len l
  refine fcall_ofB [7] h.f8 rfl (by decide) h.mo (by kernel_rfl) fun X hX => ?_
  simp
  refine xcall_fn (c_small l hl hok) (by simp) ?_
  cases hs : smallS l
  · simp
    refine xcall_fn (c_awake hso') (by simp) ?_
    simp
  obtain ⟨_, hc3⟩ := small_cnt hz hs
  by_cases h0 : l.length = 0
  · have h0' : (l.length : Int) = 0 := by omega
    have h0l : l = [] := List.eq_nil_of_length_eq_zero h0
    simp [h0l]
    refine xcall_fn (c_awake hso') (by simp) ?_
    simp
  have h0' : ¬ (l.length : Int) = 0 := by omega
  have h0l : ¬ l = [] := fun q => h0 (by rw [q]; rfl)
  simp [h0l]
  refine xcall_fn (c_SCheck l hl hok) (by simp) ?_
  by_cases hc0 : chkS l = 0
  case neg =>
    simp [hc0]
    refine xcall_fn (c_awake hso') (by simp) ?_
    simp
  have hwk : IntKind.i64.wrap (ka : Int) = (ka : Int) := i64_id (by omega) (by omega)
  have hmod : (ka : Int).tmod (l.length : Int) = ((ka % l.length : Nat) : Int) := by
    rw [Int.tmod_eq_emod_of_nonneg (by omega)]; exact (Int.natCast_emod _ _).symm
  have hkl : ka % l.length < l.length := Nat.mod_lt _ (by omega)
  generalize hm : ka % l.length = k at *
  have hmodf : (kf : Int).tmod 4 = ((kf % 4 : Nat) : Int) := by
    rw [Int.tmod_eq_emod_of_nonneg (by omega)]; exact (Int.natCast_emod _ _).symm
  have hmap : ∀ t : TStmt, (l.map Enc.enc).set k (Enc.enc t) = (l.set k t).map Enc.enc := fun t => by rw [List.map_set]
  simp [hc0, hwk, hmod, h0l]
  refine ⟨⟨by omega, by omega⟩, ?_⟩
  simp [hkl]
  refine awp_weaken (s' := (⟨[.any, .any, .int .u8 kf, .any, .any, .any, .any, .int .i64 k, .own 0 0 l.length l.length false, .pto 1 21 0 0, .any, .any, .any, .any, .any, .any, .any, .any, .any, .any, .any, .any, .any, .any, .any, .any, .any, .any, .any, .any, .any, .any, .any, .any, .any, .any, .any, .any, .any, .any, .any, .any, .any, .any, .any, .any, .any, .any, .any, .any, .any, .any, .any, .any, .any, .any, .any, .any, .any, .any, .any, .any, .any, .any, .any, .any, .any, .any, .any, .any, .any, .any, .any, .any, .any, .any, .any, .any, .any, .any, .any, .any, .any, .any, .any, .any, .any, .any, .any, .any, .any, .any, .any, .any, .any, .any, .any, .any, .any, .any, .any, .any, .any, .any], [⟨47, 21, l.map Enc.enc, 0, true⟩, ⟨47, 21, [.agg l[k].cells], 0, true⟩]⟩ : S)) (Wk.ren 0 [1, 2] hX rfl (by decide) (by simp) (by simp) (by simp) (by simp)) ?_
  refine awp_ops ?_
  have hst : stE l[k] = 0 := stL_zero.1 (chkS_ok (by omega) hc0).2.2 _ (List.getElem_mem hkl)
  have hso := hok _ (List.getElem_mem hkl)
  have fin : ∀ t : TStmt, t.ok → t.fBody = l[k].fBody → t.fElse = l[k].fElse → oneE t = 1 → ∃ l' : List TStmt, (l.map Enc.enc).set k (Enc.enc t) = l'.map Enc.enc ∧ l'.length = l.length ∧ FCall P 11 [Ls false l'] (fun r => r = .int .i64 1) := fun t h1 h2 h3 h4 => by
    refine ⟨l.set k t, hmap t, List.length_set, ?_⟩
    have := c_SCheck (P := P) (l.set k t) (by rw [List.length_set]; exact hl) (ok_set hok h1)
    rw [chk_set hkl (by omega) hc0 t h2 h3 h4] at this
    exact this
  generalize hsk : l[k] = s at *
  rcases (by omega : kf % 4 = 0 ∨ kf % 4 = 1 ∨ kf % 4 = 2 ∨ kf % 4 = 3) with f | f | f | f
  · rw [f] at hmodf
    have hmodf : (kf : Int).tmod 4 = 0 := hmodf
    by_cases g1 : s.fFlag = true
    · simp [hmodf, g1]
      refine xcall_fn (c_awake hso') (by simp) ?_
      simp
    by_cases g2 : s.fOp = 6
    · simp [hmodf, g1, g2]
      refine xcall_fn (c_awake hso') (by simp) ?_
      simp
    obtain ⟨l', e, hle, hcl⟩ := fin _ (ok_flag hso) rfl rfl (one_flag hst g2)
    simp at e
    simp [hmodf, g1, g2, hkl, hsk]
    rw [e, ← hle]
    refine xcall_fn hcl (by simp) ?_
    simp
    refine xcall_fn (c_awake hso') (by simp) ?_
    simp
  · rw [f] at hmodf
    have hmodf : (kf : Int).tmod 4 = 1 := hmodf
    by_cases g1 : s.fOf = []
    case neg =>
      simp [hmodf, g1]
      refine xcall_fn (c_awake hso') (by simp) ?_
      simp
    obtain ⟨l', e, hle, hcl⟩ := fin _ (ok_of hso) rfl rfl (one_of1 hst g1)
    simp at e
    simp [hmodf, g1, hkl, hsk]
    rw [e, ← hle]
    refine xcall_fn hcl (by simp) ?_
    simp
    refine xcall_fn (c_awake hso') (by simp) ?_
    simp
  · rw [f] at hmodf
    have hmodf : (kf : Int).tmod 4 = 2 := hmodf
    by_cases g1 : s.fF.fOp = 0
    case neg =>
      simp [hmodf, g1]
      refine xcall_fn (c_awake hso') (by simp) ?_
      simp
    obtain ⟨l', e, hle, hcl⟩ := fin _ (ok_f hso) rfl rfl (one_f hst g1)
    simp [nE] at e
    simp [hmodf, g1]
    refine xcall_fn (c_number 1) (by simp) ?_
    simp [hkl, hsk, nE]
    rw [e, ← hle]
    refine xcall_fn hcl (by simp) ?_
    simp
    refine xcall_fn (c_awake hso') (by simp) ?_
    simp
  · rw [f] at hmodf
    have hmodf : (kf : Int).tmod 4 = 3 := hmodf
    by_cases g1 : s.fDist.fOp = 0
    case neg =>
      simp [hmodf, g1]
      refine xcall_fn (c_awake hso') (by simp) ?_
      simp
    obtain ⟨l', e, hle, hcl⟩ := fin _ (ok_d hso) rfl rfl (one_d hst g1)
    simp [oneD] at e
    simp [hmodf, g1, hkl, hsk]
    refine xcall_fn hcl (by simp [noid_set, wk_set, e]) ?_
    simp
    refine xcall_fn (c_awake hso') (by simp) ?_
    simp
end Go.Proofs.Ytadllkhmihbfhaa
