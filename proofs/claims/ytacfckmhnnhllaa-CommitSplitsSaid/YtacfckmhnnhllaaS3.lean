/- Chapter 41: the library's stable sort: rotation, at this program's types, over any program that has the text. -/
import Derived.Test.YtacfckmhnnhllaaS1
namespace Go.Proofs.Ytacfckmhnnhllaa
open Go.AL
variable {P : Program} [h : Facts P]

theorem B_len {α : Type} [Enc α] (id : Nat) {l m : List α} (e : l.length = m.length) : B id l = B id m := by
  have hi : l.isEmpty = m.isEmpty := by rw [Bool.eq_iff_iff, List.isEmpty_iff_length_eq_zero, List.isEmpty_iff_length_eq_zero, e]
  unfold B
  rw [e, hi]
set_option maxHeartbeats 2000000 in
theorem c_rotR (fid : FuncId) (p u v q l : List TRec) (a m b : Nat) (ha : a = p.length) (hm : m = p.length + u.length) (hb : b = m + v.length) (hu : 0 < u.length) (hv : 0 < v.length) (hl : l = p ++ (u ++ (v ++ q))) (hbd : l.length ≤ 1000000000) :
    XCall P 65 [B 0 l, .int .i64 a, .int .i64 m, .int .i64 b, .fn fid []] [RF 47 l 0] (fun r H' => r = .tup [] ∧ H' = [RF 47 (p ++ (v ++ (u ++ q))) 0]) := by
  refine xcall_of h.f65 rfl (by decide) h.mo (by kernel_rfl) fun X hX => ?_
  have hX1 : X.μ.length ≤ 1 := by simpa using hX
  have hll : l.length = p.length + u.length + v.length + q.length := by rw [hl]; simp only [List.length_append]; omega
  have hne : l ≠ [] := by rintro rfl; simp at hll; omega
  have w1 : IntKind.i64.wrap ((m : Int) - (a : Int)) = (u.length : Int) := by rw [i64_id (by omega) (by omega)]; omega
  have w2 : IntKind.i64.wrap ((b : Int) - (m : Int)) = (v.length : Int) := by rw [i64_id (by omega) (by omega)]; omega
  simp
  refine awp_loop (σ := (List TRec × List TRec) × (List TRec × List TRec) × Nat × Nat × List TRec) (fun z => (⟨[B 0 l, .int .i64 a, .int .i64 m, .int .i64 b, .fn fid [], .any, .any, .any, .any, .any, .int .i64 z.2.2.1, .int .i64 z.2.2.2.1, .any, .any, .any, .any, .any, .any, .any, .any, .any, .any, .any, .any, .any, .any, .any, .any, .any, .any, .any, .any, .any, .any, .any, .any, .any, .any, .any, .any, .any, .any, .any, .any, .any, .any, .any, .any, .any, .any, .any, .any, .any, .any, .any, .any, .any, .any], [⟨47, Enc.sz TRec, z.2.2.2.2.map Enc.enc, 0, true⟩]⟩ : S)) (fun z => z.2.2.1 = z.1.2.length ∧ z.2.2.2.1 = z.2.1.1.length ∧ 0 < z.2.2.1 ∧ 0 < z.2.2.2.1 ∧ z.2.2.2.2 = p ++ (z.1.1 ++ (z.1.2 ++ (z.2.1.1 ++ (z.2.1.2 ++ q)))) ∧ z.1.1 ++ (z.2.1.1 ++ (z.1.2 ++ z.2.1.2)) = v ++ u ∧ z.1.1.length + z.1.2.length = u.length) (fun z => z.2.2.1 + z.2.2.2.1) (([], u), (v, []), u.length, v.length, l) (Wk.ren 1 [0] hX1 rfl (by decide) (by simp [w1, w2]) (by simp) (by simp) (by simp [RF_ne hne])) ⟨rfl, rfl, hu, hv, by simp [hl], by simp, by simp⟩ ?_
  rintro ⟨⟨aa, u'⟩, ⟨v', bb⟩, i, j, M⟩ ⟨hi, hj, hi0, hj0, hM, hvu, hAu⟩
  simp only at hi hj hi0 hj0 hM hvu hAu
  refine vc_sound h.mo _ _ _ (by kernel_rfl) ?_
  have hlen := congrArg List.length hvu
  simp only [List.length_append] at hlen
  have hMl : M.length = l.length := by rw [hM]; simp only [List.length_append]; omega
  have hMne : M ≠ [] := by rintro rfl; simp at hMl; omega
  have hBM : B 0 l = B 0 M := B_len 0 hMl.symm
  obtain ⟨pa, hpa⟩ : ∃ pa, pa = (p ++ aa).length := ⟨_, rfl⟩
  have hpl : pa = p.length + aa.length := by rw [hpa, List.length_append]
  have w3 : IntKind.i64.wrap ((m : Int) - (i : Int)) = (pa : Int) := by rw [i64_id (by omega) (by omega)]; omega
  have hii : (0 : Int) < (i : Int) := by omega
  by_cases hij : i = j
  case pos =>
    have hsw := c_swapRR (P := P) fid (p ++ aa) u' [] v' (bb ++ q) M pa m i hpa (by simp only [List.length_append, List.length_nil]; omega) hi.symm (by omega) (by rw [hM]; simp only [List.append_assoc, List.nil_append]) hi0 (by omega)
    rw [← hBM, RF_ne hMne] at hsw
    have hres : p ++ aa ++ v' ++ ([] ++ (u' ++ (bb ++ q))) = p ++ (v ++ (u ++ q)) := by
      have := congrArg (fun z => p ++ (z ++ q)) hvu
      simp only [List.append_assoc, List.nil_append] at this ⊢
      exact this
    rw [hres] at hsw
    subst hij
    simp [w3]
    refine xcall_mono hsw ?_
    rintro _ _ ⟨rfl, rfl⟩
    simp
  case neg =>
    have hij' : ¬ (i : Int) = (j : Int) := by omega
    by_cases hgt : j < i
    · have hgti : (j : Int) < (i : Int) := by omega
      have hsw := c_swapRR (P := P) fid (p ++ aa) (u'.take j) (u'.drop j) v' (bb ++ q) M pa m j hpa (by simp only [List.length_append, List.length_take, List.length_drop]; omega) (by rw [List.length_take]; omega) hj.symm (by rw [hM]; simp only [List.append_assoc]; rw [← List.append_assoc (u'.take j), List.take_append_drop]) hj0 (by omega)
      rw [← hBM, RF_ne hMne] at hsw
      obtain ⟨M', hM'⟩ : ∃ M', M' = p ++ aa ++ v' ++ (u'.drop j ++ (u'.take j ++ (bb ++ q))) := ⟨_, rfl⟩
      have hM'l : M'.length = l.length := by rw [hM', ← hMl, hM]; simp only [List.length_append, List.length_take, List.length_drop]; omega
      have hM'ne : M' ≠ [] := by rintro rfl; simp at hM'l; omega
      rw [← hM', RF_ne hM'ne] at hsw
      obtain ⟨ij, hijj⟩ : ∃ ij, ij = i - j := ⟨_, rfl⟩
      have w4 : IntKind.i64.wrap ((i : Int) - (j : Int)) = (ij : Int) := by rw [i64_id (by omega) (by omega)]; omega
      simp [hij', hgti, w3, -Prod.exists]
      refine xcall_mono hsw ?_
      rintro _ _ ⟨rfl, rfl⟩
      simp [w4, -Prod.exists]
      refine ⟨((aa ++ v', u'.drop j), (u'.take j, bb), ij, j, M'), Wk.ren 1 [0] hX1 rfl (by decide) (by simp) (by simp) (by simp) (by simp), ⟨?_, ?_, ?_, hj0, ?_, ?_, ?_⟩, ?_⟩
      · simp only [List.length_drop]; omega
      · simp only [List.length_take]; omega
      · simp only; omega
      · simp only; rw [hM']; simp only [List.append_assoc]
      · simp only
        rw [← hvu]
        simp only [List.append_assoc]
        rw [← List.append_assoc (u'.take j), List.take_append_drop]
      · simp only [List.length_append, List.length_drop]; omega
      · simp only; omega
    · have hgti : ¬ (j : Int) < (i : Int) := by omega
      obtain ⟨ij, hijj⟩ : ∃ ij, ij = j - i := ⟨_, rfl⟩
      obtain ⟨mm, hmm⟩ : ∃ mm, mm = m + j - i := ⟨_, rfl⟩
      have hsw := c_swapRR (P := P) fid (p ++ aa) u' (v'.take ij) (v'.drop ij) (bb ++ q) M pa mm i hpa (by simp only [List.length_append, List.length_take]; omega) hi.symm (by rw [List.length_drop]; omega) (by rw [hM]; simp only [List.append_assoc]; rw [← List.append_assoc (v'.take ij), List.take_append_drop]) hi0 (by omega)
      rw [← hBM, RF_ne hMne] at hsw
      obtain ⟨M', hM'⟩ : ∃ M', M' = p ++ aa ++ v'.drop ij ++ (v'.take ij ++ (u' ++ (bb ++ q))) := ⟨_, rfl⟩
      have hM'l : M'.length = l.length := by rw [hM', ← hMl, hM]; simp only [List.length_append, List.length_take, List.length_drop]; omega
      have hM'ne : M' ≠ [] := by rintro rfl; simp at hM'l; omega
      rw [← hM', RF_ne hM'ne] at hsw
      have w4 : IntKind.i64.wrap ((j : Int) - (i : Int)) = (ij : Int) := by rw [i64_id (by omega) (by omega)]; omega
      have w5 : IntKind.i64.wrap ((m : Int) + (j : Int)) = (m : Int) + (j : Int) := i64_id (by omega) (by omega)
      have w6 : IntKind.i64.wrap ((m : Int) + (j : Int) - (i : Int)) = (mm : Int) := by rw [i64_id (by omega) (by omega)]; omega
      simp [hij', hgti, w3, w5, w6, -Prod.exists]
      refine xcall_mono hsw ?_
      rintro _ _ ⟨rfl, rfl⟩
      simp [w4, -Prod.exists]
      refine ⟨((aa, v'.drop ij), (v'.take ij, u' ++ bb), i, ij, M'), Wk.ren 1 [0] hX1 rfl (by decide) (by simp) (by simp) (by simp) (by simp), ⟨?_, ?_, hi0, ?_, ?_, ?_, ?_⟩, ?_⟩
      · simp only [List.length_drop]; omega
      · simp only [List.length_take]; omega
      · simp only; omega
      · simp only; rw [hM']; simp only [List.append_assoc]
      · simp only
        rw [← hvu]
        rw [← List.append_assoc (v'.take ij), List.take_append_drop]
      · simp only [List.length_drop]; omega
      · simp only; omega

end Go.Proofs.Ytacfckmhnnhllaa
