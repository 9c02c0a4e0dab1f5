/- Chapter 10: statements: Uses and its reference, over any program that has the text, given the library's sort. -/
import Derived.Test.YtadllkhmihbfhaaK2
import Derived.Test.YtadllkhmihbfhaaS1
import Derived.Test.YtadllkhmihbfhaaS2
namespace Go.Proofs.Ytadllkhmihbfhaa
open Go.AL
variable {P : Program} [h : Facts P]

theorem noid_RF (m : List (List UInt8)) : noidL (RF 9 m 0).es = true := by
  unfold RF
  split
  · rfl
  · exact noidL_enc m
theorem RF_live (ty : TypeId) (l : List (List UInt8)) : (RF ty l 0).live = !l.isEmpty := by cases l <;> rfl
theorem c_Sort (hso : SortAt P 33) (l : List (List UInt8)) (hl : l.length ≤ 1000000) :
    XCall P 33 [B 0 l] [RF 9 l 0] (fun r H' => ∃ r1 k, H' = r1 :: List.replicate k dead0 ∧ (r1.live = true → (RF 9 l 0).live = true) ∧ noidL r1.es = true ∧ frmd r = true ∧ (r = .tup [] ∧ r1 = RF 9 (l.mergeSort fun x y => decide (x ≤ y)) 0)) := by
  by_cases hne : l = []
  · subst hne
    refine xcall_fn c_Sortz (by simp) ?_
    refine ⟨_, 0, rfl, id, rfl, rfl, rfl, ?_⟩
    simp
  · refine (xc_sort (ty := 9) hso (by simp) (by simp) l hne (by omega)).mono ?_
    rintro r H' ⟨rfl, rfl⟩
    refine ⟨_, 0, rfl, fun _ => ?_, noid_RF _, rfl, rfl, rfl⟩
    rw [RF_live]
    cases l with
    | nil => exact absurd rfl hne
    | cons x l => rfl
theorem reA_tup (id : Nat) : reA id (.tup []) = .tup [] := rfl
theorem reA_own (id off len c : Nat) (ex : Bool) : reA id (.own 0 off len c ex) = .own id off len c ex := rfl
/-- The objects that statements name, once each, increasing. -/
def useL (l : List TStmt) : List (List UInt8) := insL [] (flT usF l)
set_option maxHeartbeats 2000000 in
theorem c_Uses (hso : SortAt P 33) (l : List TStmt) (hl : l.length ≤ 9223372036854775807) (hok : ∀ s ∈ l, s.ok) (hc : cntT l ≤ 1000000) : FCall P 21 [Ls false l] (fun r => r = Ls false (useL l)) := by
  refine fcall_ofB [2, 3] h.f21 rfl (by decide) h.mo (by kernel_rfl) fun X hX => ?_
  simp
  refine awp_weaken (s' := (⟨[Ls false l, .any, .any, .pto 0 1 0 0, .any, .any, .any, .any, .any, .any, .any], [⟨32, 1, [B 1 ([] : List (List UInt8))], 0, true⟩, RF 9 ([] : List (List UInt8)) 0]⟩ : S)) (Wk.ren 0 [0, 1] hX rfl (by decide) (by simp) (by simp) (by simp) (by simp [B])) ?_
  refine awp_ops ?_
  simp
  refine xcall_mono (c_all 32 32 9 usF usF_len (fun s hs H out hA hb => c_usC s H out hA hb) l hl hok _ ([] : List (List UInt8)) ⟨1, by omega, rfl, rfl⟩ (by simp; omega)) ?_
  rintro _ H' ⟨rfl, hA⟩
  rw [List.nil_append] at hA
  have hlen := flT_len usF usF_len l
  unfold useL
  obtain ⟨T, i, rfl, h1⟩ := acc_cons hA
  have hse := sorted_eq (flT usF l)
  have hsl : ((flT usF l).mergeSort fun x y => decide (x ≤ y)).length ≤ 1000000 := by rw [List.length_mergeSort]; omega
  simp
  refine awp_ops ?_
  simp
  refine xcall_frame (i + 1) (c_Sort hso (flT usF l) (by omega)) (by simpa using h1) (noid_RF _) (by simp [B]) (by simp [B]) ?_
  rintro _ _ ⟨rfl, rfl⟩
  rw [reA_tup]
  have hBm : B (i + 1) (flT usF l) = B (i + 1) ((flT usF l).mergeSort fun x y => decide (x ≤ y)) := by
    have hl2 := List.length_mergeSort (le := fun x y : List UInt8 => decide (x ≤ y)) (flT usF l)
    have hi2 : ((flT usF l).mergeSort fun x y => decide (x ≤ y)).isEmpty = (flT usF l).isEmpty := by rw [Bool.eq_iff_iff, List.isEmpty_iff_length_eq_zero, List.isEmpty_iff_length_eq_zero, hl2]
    unfold B
    rw [hl2, hi2]
  rw [hBm]
  have hil : i < T.length := (List.getElem?_eq_some_iff.1 h1).1
  generalize (flT usF l).mergeSort (fun x y => decide (x ≤ y)) = m at *
  simp
  refine xcall_frame (i + 1) (c_Compact m hsl) (by simp [hil]) (noid_RF _) (by simp [B]) (by simp [B]) ?_
  rintro _ r1 ⟨c, ex, rfl, hcut⟩
  rw [hse] at hcut ⊢
  simp [reA, hcut, hil]
end Go.Proofs.Ytadllkhmihbfhaa
