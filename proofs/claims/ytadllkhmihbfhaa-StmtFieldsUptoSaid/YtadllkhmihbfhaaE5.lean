/- Chapter 10: expressions: Check, over any program that has the text. -/
import Derived.Test.YtadllkhmihbfhaaE4
namespace Go.Proofs.Ytadllkhmihbfhaa
open Go.AL
variable {P : Program} [h : Facts P]

mutual
def ndsE (code : Bool) : TExpr → Int
  | ⟨a, b, c, ks⟩ => if nodeE code ⟨a, b, c, ks⟩ ≠ 0 then nodeE code ⟨a, b, c, ks⟩ else ndsL code ks
def ndsL (code : Bool) : List TExpr → Int
  | [] => 0
  | x :: l => if ndsE code x ≠ 0 then ndsE code x else ndsL code l
end
theorem ndsE_eq (code : Bool) (e : TExpr) : ndsE code e = if nodeE code e ≠ 0 then nodeE code e else ndsL code e.fKids := by cases e; rw [ndsE]
theorem ndsL_nil (code : Bool) : ndsL code [] = 0 := by rw [ndsL]
theorem ndsL_cons (code : Bool) (x : TExpr) (l : List TExpr) : ndsL code (x :: l) = if ndsE code x ≠ 0 then ndsE code x else ndsL code l := by rw [ndsL]
theorem c_nodes (code : Bool) : ∀ (e : TExpr), e.ok → FCall P 96 [.agg [.bool code], .agg e.cells] (fun r => r = .int .i64 (ndsE code e)) := by
  refine TExpr.ind fun e ih => ?_
  intro hok
  have hnode := c_node (P := P) code e (by cases hok; assumption)
  rw [ndsE_eq]
  obtain ⟨_, _, _, _, hkl, hko⟩ := hok
  obtain ⟨op, nm, num, ks⟩ := e
  simp only at hkl hko ih hnode ⊢
  refine fcall_of h.f96 rfl (by decide) h.mo (by kernel_rfl) fun X hX => ?_
  simp
  refine xcall_fn hnode (by simp) ?_
  generalize nodeE code ⟨op, nm, num, ks⟩ = f
  by_cases h0 : f = 0
  case neg => simp [h0]
  simp [h0]
  refine awp_loop (σ := Nat) (fun k => (⟨[.any, .any, .pto 0 1 0 0, .any, .any, .any, .any, .any, .any, .any, .any, .any, .any, .any, .any, .any, Ls false ks, .int .i64 ks.length, .int .i64 k, .any, .any, .any, .any, .any, .any, .any, .any, .any, .any], [⟨108, 1, [.agg [.bool code]], 0, true⟩]⟩ : S)) (fun k => k ≤ ks.length ∧ ndsL code ks = ndsL code (ks.drop k)) (fun k => ks.length - k) 0 (Wk.ren 0 [0] hX rfl (by decide) (by simp) (by simp) (by simp) (by simp)) ⟨by simp, by simp⟩ ?_
  rintro k ⟨hk, hinv⟩
  refine vc_sound h.mo _ _ _ (by kernel_rfl) ?_
  rcases Nat.lt_or_ge k ks.length with hlt | hge
  · have hk1 := wrap_succ hlt hkl
    have hmem := List.getElem_mem hlt
    rw [List.drop_eq_getElem_cons hlt, ndsL_cons] at hinv
    simp [hlt]
    refine xcall_fn (ih ks[k] hmem (hko _ hmem)) (by simp) ?_
    by_cases hz : ndsE code ks[k] = 0
    · rw [if_neg (by simp [hz])] at hinv
      simp [hz]
      exact ⟨k + 1, Wk.ren 0 [0] hX rfl (by decide) (by simp [hk1]) (by simp) (by simp) (by simp), ⟨by omega, hinv⟩, by omega⟩
    · rw [if_pos hz] at hinv
      simp [hz, hinv]
  · have hkl : k = ks.length := by omega
    subst hkl
    rw [List.drop_length, ndsL_nil] at hinv
    simp [hinv]
/-- Check, whatever the size. -/
def chkE (e : TExpr) : Int := if 60 < wr (cntE e) then 6 else if 12 < depW e then 11 else ndsE false e
theorem c_check (e : TExpr) (hok : e.ok) : FCall P 78 [.agg [.bool false], .agg e.cells] (fun r => r = .int .i64 (chkE e)) := by
  refine fcall_of h.f78 rfl (by decide) h.mo (by kernel_rfl) fun X hX => ?_
  simp
  refine xcall_fn (c_Nodes e hok) (by simp) ?_
  by_cases h1 : 60 < wr (cntE e)
  · simp [h1, chkE]
  simp [h1, chkE]
  refine xcall_fn (c_Depth e hok) (by simp) ?_
  by_cases h2 : 12 < depW e
  · simp [h2]
  simp [h2]
  refine xcall_fn (c_nodes false e hok) (by simp) ?_
  simp
theorem c_ECheck (e : TExpr) (hok : e.ok) : FCall P 57 [.agg e.cells] (fun r => r = .int .i64 (chkE e)) := by
  refine fcall_of h.f57 rfl (by decide) h.mo (by kernel_rfl) fun X hX => ?_
  simp
  refine xcall_fn (c_check e hok) (by simp) ?_
  simp
end Go.Proofs.Ytadllkhmihbfhaa
