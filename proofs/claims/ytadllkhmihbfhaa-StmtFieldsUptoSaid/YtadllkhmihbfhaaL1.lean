/- Chapter 10: statements: the chapter's examples, over any program that has the text, given the library's sort. -/
import Derived.Test.YtadllkhmihbfhaaG7
import Derived.Test.YtadllkhmihbfhaaK4
import Derived.Test.YtadllkhmihbfhaaAlM4
namespace Go.Proofs.Ytadllkhmihbfhaa
open Go.AL
variable {P : Program} [h : Facts P]

/-- Check. -/
noncomputable def chkS (l : List TStmt) : Int := if 200 < wr (cntT l) then 6 else if 12 < dpT l then 11 else stL l
theorem c_SCheck (l : List TStmt) (hl : l.length ≤ 9223372036854775807) (hok : ∀ s ∈ l, s.ok) : FCall P 11 [Ls false l] (fun r => r = .int .i64 (chkS l)) := by
  refine fcall_of h.f11 rfl (by decide) h.mo (by kernel_rfl) fun X hX => ?_
  simp
  refine xcall_fn (c_Count l hl hok) (by simp) ?_
  unfold chkS
  by_cases h1 : 200 < wr (cntT l)
  · simp [h1]
  simp [h1]
  refine xcall_fn (c_SDepth l hl hok) (by simp) ?_
  by_cases h2 : 12 < dpT l
  · simp [h2]
  simp [h2]
  refine xcall_fn (c_lcheck l hl hok) (by simp) ?_
  simp
theorem c_SRCheck (l : List TStmt) (hl : l.length ≤ 9223372036854775807) (hok : ∀ s ∈ l, s.ok) : FCall P 12 [Ls false l] (fun r => r = .int .i64 (chkS l)) := by
  refine fcall_of h.f12 rfl (by decide) h.mo (by kernel_rfl) fun X hX => ?_
  simp
  refine xcall_fn (c_RCount l hl hok) (by simp) ?_
  unfold chkS
  by_cases h1 : 200 < wr (cntT l)
  · simp [h1]
  simp [h1]
  refine xcall_fn (c_SRDepth l hl hok) (by simp) ?_
  by_cases h2 : 12 < dpT l
  · simp [h2]
  simp [h2]
  refine xcall_fn (c_Rlist l hl hok) (by simp) ?_
  simp
def smallS (l : List TStmt) : Bool := decide (wr (sizT l) ≤ 3000)
theorem c_small (l : List TStmt) (hl : l.length ≤ 9223372036854775807) (hok : ∀ s ∈ l, s.ok) : FCall P 9 [Ls false l] (fun r => r = .bool (smallS l)) := by
  refine fcall_of h.f9 rfl (by decide) h.mo (by kernel_rfl) fun X hX => ?_
  simp
  refine xcall_fn (c_Size l hl hok) (by simp) ?_
  simp [smallS]
def nE (n : Int) : TExpr := ⟨1, [], n, []⟩
def durE (n : Int) : TExpr := ⟨7, [], 0, [nE n]⟩
theorem c_number (n : Int) : FCall P 26 [.int .i64 n] (fun r => r = .agg (nE n).cells) := by
  refine fcall_of h.f26 rfl (by decide) h.mo (by kernel_rfl) fun X hX => ?_
  simp [nE]
def deskT : List UInt8 := [100, 101, 115, 107]
def boxT : List UInt8 := [98, 111, 120]
def packT : List UInt8 := [112, 97, 99, 107]
def sHold : TStmt := ⟨5, [], [], durE 5, zE, [], zD, false, [], []⟩
def sSeize : TStmt := ⟨6, deskT, [], nE 1, nE 2, [], zD, false, [], []⟩
def sOdd : TStmt := ⟨5, [], [97], durE 5, zE, [], zD, false, [], []⟩
def sSend : TStmt := ⟨13, boxT, packT, durE 2, zE, [], zD, false, [], []⟩
def sIf : TStmt := ⟨3, [], [], ⟨2, [], 1, []⟩, zE, [], zD, false, [sSeize, sHold], [sSend]⟩
def sRel : TStmt := ⟨7, [104, 111, 108, 100], [], nE 1, zE, [], zD, false, [], []⟩
theorem ok_leaf (op : Int) (nm : List UInt8) (n : Int) (h1 : (Lit.int .i64 op).wf = true) (h2 : nm.length ≤ 9223372036854775807) (h3 : (Lit.int .i64 n).wf = true) : (⟨op, nm, n, []⟩ : TExpr).ok := .mk _ h1 h2 h3 (by simp) (by simp)
theorem ok_zE : zE.ok := ok_leaf _ _ _ (by decide) (by simp) (by decide)
theorem ok_zD : zD.ok := ⟨(by decide : (Lit.int .i64 0).wf = true), (by decide : (Lit.int .i64 0).wf = true), (by decide : (Lit.int .i64 0).wf = true), (by decide : (Lit.int .i64 0).wf = true), by simp [zD], by simp [zD]⟩
theorem ok_nE {n : Int} (h1 : (Lit.int .i64 n).wf = true) : (nE n).ok := ok_leaf _ _ _ (by decide) (by simp) h1
theorem ok_durE {n : Int} (h1 : (Lit.int .i64 n).wf = true) : (durE n).ok := .mk _ (show (Lit.int .i64 7).wf = true by decide) (by simp [durE]) (show (Lit.int .i64 0).wf = true by decide) (by simp [durE]) (by
    intro y hy
    simp only [durE, List.mem_cons, List.not_mem_nil, or_false] at hy
    rw [hy]
    exact ok_nE h1)
theorem ok_stmt (op : Int) (nm of' : List UInt8) (e f : TExpr) (b d : List TStmt) (h1 : (Lit.int .i64 op).wf = true) (h2 : nm.length ≤ 9223372036854775807) (h3 : of'.length ≤ 9223372036854775807) (he : e.ok) (hf : f.ok) (hb : b.length ≤ 9223372036854775807 ∧ ∀ s ∈ b, s.ok) (hd : d.length ≤ 9223372036854775807 ∧ ∀ s ∈ d, s.ok) : (⟨op, nm, of', e, f, [], zD, false, b, d⟩ : TStmt).ok :=
  .mk _ h1 h2 h3 he hf (by simp) ok_zD hb.1 hb.2 hd.1 hd.2
theorem ok_sHold : sHold.ok := ok_stmt _ _ _ _ _ _ _ (by decide) (by simp) (by simp) (ok_durE (by decide)) ok_zE (by simp) (by simp)
theorem ok_sOdd : sOdd.ok := ok_stmt _ _ _ _ _ _ _ (by decide) (by simp) (by simp) (ok_durE (by decide)) ok_zE (by simp) (by simp)
theorem ok_sSeize : sSeize.ok := ok_stmt _ _ _ _ _ _ _ (by decide) (by simp [deskT]) (by simp) (ok_nE (by decide)) (ok_nE (by decide)) (by simp) (by simp)
theorem ok_sSend : sSend.ok := ok_stmt _ _ _ _ _ _ _ (by decide) (by simp [boxT]) (by simp [packT]) (ok_durE (by decide)) ok_zE (by simp) (by simp)
theorem ok_sRel : sRel.ok := ok_stmt _ _ _ _ _ _ _ (by decide) (by simp) (by simp) (ok_nE (by decide)) ok_zE (by simp) (by simp)
theorem ok_sIf : sIf.ok := ok_stmt _ _ _ _ _ _ _ (by decide) (by simp) (by simp) (ok_leaf _ _ _ (by decide) (by simp) (by decide)) ok_zE (by simp [ok_sSeize, ok_sHold]) (by simp [ok_sSend])
theorem noneB_z : noneB zE = true := sameB_self _
theorem one_of {s : TStmt} {u : Tuse} (hu : usesT s.fOp = (u, true)) (hf : fB7 s u = true) : oneE s = partE s u := by
  unfold oneE fmdB
  rw [hu]
  simp [hf]
theorem one_bad {s : TStmt} {u : Tuse} (hu : usesT s.fOp = (u, true)) (hf : fB7 s u = false) : oneE s = 1 := by
  unfold oneE fmdB
  rw [hu]
  simp [hf]
theorem o_hold : oneE sHold = 0 := by
  rw [one_of (u := ⟨false, false, true, false, false, false, false, false, false⟩) (by decide) (by simp [fB7, fB6, fB5, fB4, fB3, fB2, fB1, fB0, sHold, noneB_z])]
  decide
theorem o_seize : oneE sSeize = 0 := by
  rw [one_of (u := ⟨true, false, true, true, false, false, true, false, false⟩) (by decide) (by simp [fB7, fB6, fB5, fB4, fB3, fB2, fB1, fB0, sSeize])]
  decide
theorem o_send : oneE sSend = 0 := by
  rw [one_of (u := ⟨true, true, true, false, true, false, false, false, false⟩) (by decide) (by simp [fB7, fB6, fB5, fB4, fB3, fB2, fB1, fB0, sSend, noneB_z])]
  decide
theorem o_if : oneE sIf = 0 := by
  rw [one_of (u := ⟨false, false, true, false, false, false, false, true, true⟩) (by decide) (by simp [fB7, fB6, fB5, fB4, fB3, fB2, fB1, fB0, sIf, noneB_z])]
  decide
theorem o_rel : oneE sRel = 3 := by
  rw [one_of (u := ⟨true, false, true, false, false, false, false, false, false⟩) (by decide) (by simp [fB7, fB6, fB5, fB4, fB3, fB2, fB1, fB0, sRel, noneB_z])]
  decide
theorem o_odd : oneE sOdd = 1 := one_bad (u := ⟨false, false, true, false, false, false, false, false, false⟩) (by decide) (by simp [fB7, fB6, fB5, fB4, fB3, fB2, fB1, fB0, sOdd])
theorem st_leaf {s : TStmt} (hb : s.fBody = []) (he : s.fElse = []) : stE s = oneE s := by
  rw [stE_eq, hb, he, stL_nil]
  unfold nz
  split
  · rfl
  · rename_i q; simp at q; rw [q]; rfl
theorem v_l : stL [sSeize, sHold] = 0 := by
  rw [stL_cons, stL_cons, stL_nil, st_leaf rfl rfl, st_leaf rfl rfl, o_seize, o_hold]; rfl
theorem v_in : stL [sIf] = 0 := by
  rw [stL_cons, stL_nil, stE_eq, o_if]
  show nz (nz 0 (nz (stL [sSeize, sHold]) (stL [sSend]))) 0 = 0
  rw [v_l, stL_cons, stL_nil, st_leaf rfl rfl, o_send]; rfl
theorem v_odd : stL [sOdd] = 1 := by rw [stL_cons, stL_nil, st_leaf rfl rfl, o_odd]; rfl
theorem v_rel : stL [sRel] = 3 := by rw [stL_cons, stL_nil, st_leaf rfl rfl, o_rel]; rfl
theorem k_l : chkS [sSeize, sHold] = 0 := by
  unfold chkS; rw [if_neg (by decide), if_neg (by decide), v_l]
theorem k_in : chkS [sIf] = 0 := by
  unfold chkS; rw [if_neg (by decide), if_neg (by decide), v_in]
theorem k_odd : chkS [sOdd] = 1 := by
  unfold chkS; rw [if_neg (by decide), if_neg (by decide), v_odd]
theorem k_rel : chkS [sRel] = 3 := by
  unfold chkS; rw [if_neg (by decide), if_neg (by decide), v_rel]
theorem v_cnt : wr (cntT [sIf]) = 4 := by decide
theorem v_dep : dpT [sIf] = 2 := by decide
theorem v_tg : flT tgF [sIf] = [⟨packT, boxT⟩] := by decide
theorem v_us : useL [sIf] = [deskT] := by decide
end Go.Proofs.Ytadllkhmihbfhaa
