/- Chapter 10: statements: the closure of Targets, over any program that has the text. -/
import Derived.Test.YtadllkhmihbfhaaA1
namespace Go.Proofs.Ytadllkhmihbfhaa
open Go.AL
variable {P : Program} [h : Facts P]

/-- A site and a routine. -/
structure TPair where
  fA : List UInt8
  fB : List UInt8
  deriving DecidableEq
@[simp] def TPair.cells (x : TPair) : List A := [A.str x.fA, A.str x.fB]
instance : Enc TPair := ⟨fun x => .agg x.cells, 2, fun x => by simp, fun x => by simp, fun x => by simp, by decide⟩
@[simp] theorem enc_TPair (x : TPair) : Enc.enc x = A.agg x.cells := rfl
@[simp] theorem sz_TPair : Enc.sz TPair = 2 := rfl
def tgF (s : TStmt) : List TPair := if s.fOp = 13 then [⟨s.fOf, s.fName⟩] else if s.fOp = 14 then [⟨[], s.fName⟩] else []
theorem tgF_len (s : TStmt) : (tgF s).length ≤ 1 := by
  unfold tgF
  split
  · simp
  · split <;> simp
omit h in
theorem acc_cons {α : Type} [Enc α] {bt ty : TypeId} {H : List Row} {out : List α} (ha : Acc bt ty H out) : ∃ T i, H = ⟨bt, 1, [B (i + 1) out], 0, true⟩ :: T ∧ T[i]? = some (RF ty out 0) := by
  obtain ⟨j, hj, h0, h1⟩ := ha
  cases H with
  | nil => simp at h0
  | cons b T =>
    cases j with
    | zero => exact absurd rfl hj
    | succ i =>
      simp at h0 h1
      exact ⟨T, i, by rw [h0], h1⟩
omit h in
theorem acc_put {α : Type} [Enc α] {bt ty : TypeId} {T : List Row} {out : List α} (n m : Nat) (x : α) (hn : n = T.length + 1) (hm : m = out.length + 1) (es : List A) (he : es = out.map Enc.enc ++ [Enc.enc x]) :
    Acc bt ty (⟨bt, 1, [.own n 0 m m false], 0, true⟩ :: (T ++ [⟨ty, Enc.sz α, es, 0, true⟩])) (out ++ [x]) := by
  subst hn hm he
  refine ⟨T.length + 1, by omega, ?_, ?_⟩
  · simp [B]
  · rw [RF_ne (by simp)]
    simp
set_option maxHeartbeats 2000000 in
theorem c_tgC (s : TStmt) (H : List Row) (out : List TPair) (hA : Acc 29 51 H out) (hb : out.length ≤ 2000000) : XCall P 31 [.agg s.cells, .pto 0 1 0 0] H (fun r H' => r = .tup [] ∧ Acc 29 51 H' (out ++ tgF s)) := by
  refine xcall_ofB [1] h.f31 rfl (by decide) h.mo (by kernel_rfl) fun X hX => ?_
  simp
  refine awp_fzH (by simp) ?_
  have hA1 := hA.app [dead0]
  generalize H ++ [dead0] = H1 at *
  simp
  refine awp_ops ?_
  have hA2 := hA1
  obtain ⟨T, i, rfl, h1⟩ := acc_cons hA1
  have has : ∀ L, asrc P (⟨29, 1, [B (i + 1) out], 0, true⟩ :: (T ++ L)) 51 (B (i + 1) out) = some (out.map Enc.enc) := fun L => asrc_B (i + 1) out (by
    by_cases q : out = []
    · exact .inl q
    · exact .inr ⟨0, by have := get_app (L := L) h1; rw [RF_ne q] at this; simpa using this⟩)
  have hag : ∀ L news, agrow P (⟨29, 1, [B (i + 1) out], 0, true⟩ :: (T ++ L)) 51 (B (i + 1) out) (out.map Enc.enc) news = if news.length = 0 then some (B (i + 1) out, (⟨29, 1, [B (i + 1) out], 0, true⟩ :: (T ++ L) : List Row)) else some (.own (⟨29, 1, [B (i + 1) out], 0, true⟩ :: (T ++ L) : List Row).length 0 (out.length + news.length) (out.length + news.length) false, (⟨29, 1, [B (i + 1) out], 0, true⟩ :: (T ++ L) : List Row).set (i + 1) dead0 ++ [⟨51, P.cellsOf 51, out.map Enc.enc ++ news, 0, true⟩]) := fun L news => agrow_B0 (i + 1) out news (by simpa using get_app h1)
  unfold tgF
  by_cases o1 : s.fOp = 13
  · simp [o1, has, hag]
    refine ⟨⟨by omega, by omega⟩, ?_⟩
    exact acc_put (ty := 51) (out := out) _ _ _ (by simp) rfl _ rfl
  by_cases o2 : s.fOp = 14
  · simp [o2, has, hag]
    refine ⟨⟨by omega, by omega⟩, ?_⟩
    exact acc_put (ty := 51) (out := out) _ _ _ (by simp) rfl _ rfl
  · simp [o1, o2]
    exact hA2
theorem c_Targets (l : List TStmt) (hl : l.length ≤ 9223372036854775807) (hok : ∀ s ∈ l, s.ok) (hc : cntT l ≤ 1000000) : FCall P 18 [Ls false l] (fun r => r = Ls false (flT tgF l)) := by
  refine fcall_ofB [2] h.f18 rfl (by decide) h.mo (by kernel_rfl) fun X hX => ?_
  simp
  refine awp_weaken (s' := (⟨[Ls false l, .any, .any, .pto 0 1 0 0, .any, .any, .any, .any], [⟨29, 1, [B 1 ([] : List TPair)], 0, true⟩, RF 51 ([] : List TPair) 0]⟩ : S)) (Wk.ren 0 [0, 1] hX rfl (by decide) (by simp) (by simp) (by simp) (by simp [B])) ?_
  refine awp_ops ?_
  simp
  refine xcall_mono (c_all 31 29 51 tgF tgF_len (fun s hs H out hA hb => c_tgC s H out hA hb) l hl hok _ ([] : List TPair) ⟨1, by omega, rfl, rfl⟩ (by simp; omega)) ?_
  rintro _ H' ⟨rfl, hA⟩
  rw [List.nil_append] at hA
  obtain ⟨T, i, rfl, h1⟩ := acc_cons hA
  have e : resA P (⟨29, 1, [B (i + 1) (flT tgF l)], 0, true⟩ :: T) 4 (B (i + 1) (flT tgF l)) = some (Ls false (flT tgF l)) := resA_B_at (i + 1) 51 _ _ 0 3 (by simpa using h1) rfl
  simp [e]
end Go.Proofs.Ytadllkhmihbfhaa
