/- Chapter 10: statements: the closure of Uses, over any program that has the text. -/
import Derived.Test.YtadllkhmihbfhaaA2
namespace Go.Proofs.Ytadllkhmihbfhaa
open Go.AL
variable {P : Program} [h : Facts P]

def usOp (op : Int) : Prop := op = 6 ∨ op = 7 ∨ op = 8 ∨ op = 9 ∨ op = 10 ∨ op = 11 ∨ op = 12 ∨ op = 15 ∨ op = 16 ∨ op = 17
instance (op : Int) : Decidable (usOp op) := by unfold usOp; infer_instance
def usF (s : TStmt) : List (List UInt8) := if usOp s.fOp then [s.fName] else if s.fOp = 2 then [s.fOf] else []
theorem usF_len (s : TStmt) : (usF s).length ≤ 1 := by
  unfold usF
  split
  · simp
  · split <;> simp
set_option maxHeartbeats 2000000 in
theorem c_usC (s : TStmt) (H : List Row) (out : List (List UInt8)) (hA : Acc 32 9 H out) (hb : out.length ≤ 2000000) : XCall P 32 [.agg s.cells, .pto 0 1 0 0] H (fun r H' => r = .tup [] ∧ Acc 32 9 H' (out ++ usF s)) := by
  refine xcall_ofB [1] h.f32 rfl (by decide) h.mo (by kernel_rfl) fun X hX => ?_
  simp
  refine awp_fzH (by simp) ?_
  have hA1 := hA.app [dead0]
  generalize H ++ [dead0] = H1 at *
  simp
  refine awp_ops ?_
  have hA2 := hA1
  obtain ⟨T, i, rfl, h1⟩ := acc_cons hA1
  have has : ∀ L, asrc P (⟨32, 1, [B (i + 1) out], 0, true⟩ :: (T ++ L)) 9 (B (i + 1) out) = some (out.map Enc.enc) := fun L => asrc_B (i + 1) out (by
    by_cases q : out = []
    · exact .inl q
    · exact .inr ⟨0, by have := get_app (L := L) h1; rw [RF_ne q] at this; simpa using this⟩)
  have hag : ∀ L news, agrow P (⟨32, 1, [B (i + 1) out], 0, true⟩ :: (T ++ L)) 9 (B (i + 1) out) (out.map Enc.enc) news = if news.length = 0 then some (B (i + 1) out, (⟨32, 1, [B (i + 1) out], 0, true⟩ :: (T ++ L) : List Row)) else some (.own (⟨32, 1, [B (i + 1) out], 0, true⟩ :: (T ++ L) : List Row).length 0 (out.length + news.length) (out.length + news.length) false, (⟨32, 1, [B (i + 1) out], 0, true⟩ :: (T ++ L) : List Row).set (i + 1) dead0 ++ [⟨9, P.cellsOf 9, out.map Enc.enc ++ news, 0, true⟩]) := fun L news => agrow_B0 (i + 1) out news (by simpa using get_app h1)
  by_cases hu : usOp s.fOp
  · have hf : usF s = [s.fName] := by unfold usF; rw [if_pos hu]
    rw [hf]
    rcases hu with o | o | o | o | o | o | o | o | o | o
    all_goals
      simp [o, has, hag]
      refine ⟨⟨by omega, by omega⟩, ?_⟩
      exact acc_put (ty := 9) (out := out) _ _ _ (by simp) rfl _ rfl
  by_cases o2 : s.fOp = 2
  · have hf : usF s = [s.fOf] := by unfold usF; rw [if_neg hu, if_pos o2]
    rw [hf]
    simp [o2, has, hag]
    refine ⟨⟨by omega, by omega⟩, ?_⟩
    exact acc_put (ty := 9) (out := out) _ _ _ (by simp) rfl _ rfl
  · have hf : usF s = [] := by unfold usF; rw [if_neg hu, if_neg o2]
    rw [hf, List.append_nil]
    simp only [usOp, not_or] at hu
    simp [hu, o2]
    exact hA2
end Go.Proofs.Ytadllkhmihbfhaa
