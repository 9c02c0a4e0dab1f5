/- Chapter 09: expressions: Names and its reference, over any program that has the text, given the library's sort. -/
import Derived.Test.YtnfjdpnkkmflbaaF6
import Derived.Test.YtnfjdpnkkmflbaaE7
import Derived.Test.YtnfjdpnkkmflbaaF2
namespace Go.Proofs.Ytnfjdpnkkmflbaa
open Go.AL
variable {P : Program} [h : Facts P]

def namesZ (e : TExpr) : List (List UInt8) := if chkE false e = 0 then insL [] (nmE e) else []
theorem RF_live (ty : TypeId) (l : List (List UInt8)) : (RF ty l 0).live = !l.isEmpty := by cases l <;> rfl
theorem c_Sort (hso : SortAt P 39) (l : List (List UInt8)) (hl : l.length ≤ 1000000) :
    XCall P 39 [B 0 l] [RF 9 l 0] (fun r H' => ∃ r1 k, H' = r1 :: List.replicate k dead0 ∧ (r1.live = true → (RF 9 l 0).live = true) ∧ noidL r1.es = true ∧ frmd r = true ∧ (r = .tup [] ∧ r1 = RF 9 (l.mergeSort fun x y => decide (x ≤ y)) 0)) := by
  by_cases hne : l = []
  · subst hne
    refine xcall_fn c_Sortz (by simp) ?_
    refine ⟨_, 0, rfl, id, rfl, rfl, rfl, ?_⟩
    simp
  · refine (xc_sort (ty := 9) hso (by simp) (by simp) l hne (by omega)).mono ?_
    rintro r H' ⟨rfl, rfl⟩
    refine ⟨_, 0, rfl, fun _ => ?_, noid_RF _, rfl, rfl, rfl⟩
    rw [RF_live]
    cases l with
    | nil => exact absurd rfl hne
    | cons x l => rfl
theorem shA_B (n : Nat) (m : List (List UInt8)) : shA n (B 0 m) = B n m := rfl
theorem reA_tup (id : Nat) : reA id (.tup []) = .tup [] := rfl
theorem reA_own (id off len c : Nat) (ex : Bool) : reA id (.own 0 off len c ex) = .own id off len c ex := rfl
theorem c_Names (hso : SortAt P 39) (e : TExpr) (hok : e.ok) (hc : cntE e ≤ 1000000) : FCall P 23 [.agg e.cells] (fun r => r = Ls false (namesZ e)) := by
  refine fcall_of h.f23 rfl (by decide) h.mo (by kernel_rfl) fun X hX => ?_
  unfold namesZ
  simp
  refine xcall_fn (c_Check e hok (by omega)) (by simp) ?_
  by_cases h0 : chkE false e = 0
  case neg => simp [h0]
  simp [h0]
  have hnl := nm_cnt e
  refine xcall_fresh (c_mentioned0 e hok hc) (by simp) ?_
  rintro _ _ ⟨rfl, rfl⟩
  have hse := sorted_eq (nmE e)
  have hsl : ((nmE e).mergeSort fun x y => decide (x ≤ y)).length ≤ 1000000 := by rw [List.length_mergeSort]; omega
  rw [shA_B]
  simp
  refine xcall_frame 1 (c_Sort hso (nmE e) (by omega)) (by simp) (by simp) (by simp) (by simp) ?_
  rintro _ _ ⟨rfl, rfl⟩
  rw [reA_tup]
  have hBm : B 1 (nmE e) = B 1 ((nmE e).mergeSort fun x y => decide (x ≤ y)) := by
    have hl2 := List.length_mergeSort (le := fun x y : List UInt8 => decide (x ≤ y)) (nmE e)
    have hi2 : ((nmE e).mergeSort fun x y => decide (x ≤ y)).isEmpty = (nmE e).isEmpty := by rw [Bool.eq_iff_iff, List.isEmpty_iff_length_eq_zero, List.isEmpty_iff_length_eq_zero, hl2]
    unfold B
    rw [hl2, hi2]
  rw [hBm]
  generalize (nmE e).mergeSort (fun x y => decide (x ≤ y)) = m at *
  simp
  refine xcall_frame 1 (c_Compact m hsl) (by simp) (by simp) (by simp) (by simp) ?_
  rintro _ r1 ⟨c, ex, rfl, hcut⟩
  rw [hse] at hcut ⊢
  simp [reA, hcut]
theorem c_Rcheck (code : Bool) (e : TExpr) (hok : e.ok) (hc : cntE e ≤ 4000000000000000000) : FCall P 36 [.agg e.cells, .bool code] (fun r => r = .int .i64 (chkE code e)) := by
  refine fcall_of h.f36 rfl (by decide) h.mo (by kernel_rfl) fun X hX => ?_
  simp
  refine xcall_fn (c_RNodes e hc) (by simp) ?_
  by_cases h1 : 60 < cntE e
  · have h1' : (60 : Int) < cntE e := by omega
    simp [h1', h1, chkE]
  have h1' : ¬ (60 : Int) < cntE e := by omega
  simp [h1', h1, chkE]
  refine xcall_fn (c_RDepth e hc) (by simp) ?_
  by_cases h2 : 12 < depE e
  · have h2' : (12 : Int) < depE e := by omega
    simp [h2', h2]
  have h2' : ¬ (12 : Int) < depE e := by omega
  simp [h2', h2]
  refine xcall_fn (c_Rnode code e hok) (by simp) ?_
  simp
theorem c_RCheckCode (e : TExpr) (hok : e.ok) (hc : cntE e ≤ 4000000000000000000) : FCall P 15 [.agg e.cells] (fun r => r = .int .i64 (chkE true e)) := by
  refine fcall_of h.f15 rfl (by decide) h.mo (by kernel_rfl) fun X hX => ?_
  simp
  refine xcall_fn (c_Rcheck true e hok hc) (by simp) ?_
  simp
theorem c_RCheck (e : TExpr) (hok : e.ok) (hc : cntE e ≤ 4000000000000000000) : FCall P 13 [.agg e.cells] (fun r => r = .int .i64 (chkE false e)) := by
  refine fcall_of h.f13 rfl (by decide) h.mo (by kernel_rfl) fun X hX => ?_
  simp
  refine xcall_fn (c_Rcheck false e hok hc) (by simp) ?_
  simp
theorem insF_step (s x : List UInt8) (d : Bool) : ∀ l : List (List UInt8), insF s (x :: l) d = (if d = false ∧ ¬ x < s then [s] else []) ++ ((if x = s then [] else [x]) ++ insF s l (d || decide (¬ x < s))) := fun l => by rw [insF]
set_option maxHeartbeats 2000000 in
theorem c_Insert (l : List (List UInt8)) (s : List UInt8) (hl : l.length ≤ 1000000) : FCall P 30 [Ls false l, .str s] (fun r => r = Ls false (insF s l false)) := by
  refine fcall_of h.f30 rfl (by decide) h.mo (by kernel_rfl) fun X hX => ?_
  simp
  refine awp_loop (σ := Nat × List (List UInt8) × Bool) (fun z => (⟨[Ls false l, .str s, .any, .any, .any, B 0 z.2.1, .bool z.2.2, .int .i64 z.1, .any, .any, .any, .any, .any, .any, .any, .any, .any, .any, .any, .any, .any, .any, .any, .any, .any, .any, .any, .any, .any, .any, .any, .any, .any, .any, .any, .any, .any, .any, .any, .any, .any, .any, .any, .any, .any, .any, .any, .any], [RF 9 z.2.1 0]⟩ : S)) (fun z => z.1 ≤ l.length ∧ z.2.1.length ≤ 2 * z.1 ∧ insF s l false = z.2.1 ++ insF s (l.drop z.1) z.2.2) (fun z => l.length - z.1) (0, [], false) (Wk.ren 0 [0] hX rfl (by decide) (by simp) (by simp) (by simp) (by simp)) ⟨by simp, by simp, by simp⟩ ?_
  rintro ⟨k, o, d⟩ ⟨hk, ho, hinv⟩
  simp only at hk ho hinv
  refine vc_sound h.mo _ _ _ (by kernel_rfl) ?_
  rcases Nat.lt_or_ge k l.length with hlt | hge
  · have hk1 := wrap_succ hlt (by omega)
    rw [List.drop_eq_getElem_cons hlt, insF] at hinv
    have hless := less_eq l[k] s
    cases d
    · by_cases h1 : l[k] < s
      · have h2 : ¬ l[k] = s := fun q => List.lt_irrefl s (q ▸ h1)
        rw [decide_eq_true h1] at hless
        simp [h1, h2] at hinv
        simp [hlt, hless, h2, -Prod.exists, -Bool.exists_bool] -- A1
        refine ⟨⟨by omega, by omega⟩, ?_⟩
        exact ⟨(k + 1, o ++ [l[k]], false), Wk.ren 0 [2] hX rfl (by decide) (by simp [hk1]) (by simp) (by simp) (by simp), ⟨by omega, by simp; omega, by simp [hinv]⟩, by omega⟩
      · rw [decide_eq_false h1] at hless
        by_cases h2 : l[k] = s
        · simp [h2] at hinv
          simp [hlt, hless, eq_true h2, -Prod.exists, -Bool.exists_bool] -- A2
          refine ⟨⟨by omega, by omega⟩, ?_⟩
          exact ⟨(k + 1, o ++ [s], true), Wk.ren 0 [2] hX rfl (by decide) (by simp [hk1]) (by simp) (by simp) (by simp), ⟨by omega, by simp; omega, by simp [hinv]⟩, by omega⟩
        · simp [h1, h2] at hinv
          simp [hlt, hless, h2, -Prod.exists, -Bool.exists_bool] -- A3
          refine ⟨⟨by omega, by omega⟩, ?_⟩
          refine ⟨⟨by omega, by omega⟩, ?_⟩
          exact ⟨(k + 1, o ++ [s, l[k]], true), Wk.ren 0 [4] hX rfl (by decide) (by simp [hk1]) (by simp) (by simp) (by simp), ⟨by omega, by simp; omega, by simp [hinv]⟩, by omega⟩
    · by_cases h2 : l[k] = s
      · simp [h2] at hinv
        simp [hlt, eq_true h2, -Prod.exists, -Bool.exists_bool] -- A4
        exact ⟨(k + 1, o, true), Wk.ren 0 [0] hX rfl (by decide) (by simp [hk1]) (by simp) (by simp) (by simp), ⟨by omega, by simp; omega, by simp [hinv]⟩, by omega⟩
      · simp [h2] at hinv
        simp [hlt, h2, -Prod.exists, -Bool.exists_bool] -- A5
        refine ⟨⟨by omega, by omega⟩, ?_⟩
        exact ⟨(k + 1, o ++ [l[k]], true), Wk.ren 0 [2] hX rfl (by decide) (by simp [hk1]) (by simp) (by simp) (by simp), ⟨by omega, by simp; omega, by simp [hinv]⟩, by omega⟩
  · have hkl : k = l.length := by omega
    subst hkl
    rw [List.drop_length, insF] at hinv
    cases d
    · simp at hinv
      simp [hinv] -- G3
      omega
    · simp at hinv
      simp [hinv]
end Go.Proofs.Ytnfjdpnkkmflbaa
