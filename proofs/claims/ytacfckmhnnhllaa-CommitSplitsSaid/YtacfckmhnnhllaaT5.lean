/- Chapter 41: the library's stable sort of entries, over any program that has the text. -/
import Derived.Test.YtacfckmhnnhllaaT4
import Derived.Test.YtacfckmhnnhllaaQ4
namespace Go.Proofs.Ytacfckmhnnhllaa
open Go.AL
variable {P : Program} [h : Facts P]

set_option maxHeartbeats 4000000 in
theorem c_stabN (fid : FuncId) (cz : Tentry → Tentry → Int) (ho : Ord (ltZ cz)) (hc : ∀ x y : Tentry, FCall P fid [.agg x.cells, .agg y.cells] (fun r => r = .int .i64 (cz x y))) (l : List Tentry) (hbd : l.length ≤ 1000000000) :
    XCall P 64 [B 0 l, .int .i64 l.length, .fn fid []] [RF 82 l 0] (fun r H' => r = .tup [] ∧ H' = [RF 82 (isrt (ltZ cz) l) 0]) := by
  refine xcall_ofA h.f64 rfl (by decide) fun X hX => ?_
  have hX1 : X.μ.length ≤ 1 := by simpa using hX
  obtain ⟨n, hn⟩ : ∃ n, n = l.length := ⟨_, rfl⟩
  rw [← hn]
  rw [← hn] at hbd
  refine awp_seq (vc_sound h.mo _ _ _ (by kernel_rfl) ?_)
  simp
  refine awp_seq (vc_sound h.mo _ _ _ (by kernel_rfl) ?_)
  simp
  refine awp_cut3 (σ := Nat × Nat × List Tentry) (fun z => (⟨[B 0 l, .int .i64 n, .fn fid [], .any, .any, .any, .int .i64 20, .int .i64 z.2.1, .any, .any, .any, .any, .any, .any, .any, .any, .any, .any, .any, .any, .any, .any, .any, .any, .any, .any, .any, .any, .any, .any, .any, .any, .any, .any, .any, .any, .any, .any, .any, .any, .any, .any, .any, .any, .any, .any, .any, .any, .any, .any, .any, .any, .any, .any, .any, .any, .any, .any, .any, .any, .any, .any, .any], [RF 82 z.2.2 0]⟩ : S)) (fun z => z.2.1 = z.1 * 20 ∧ z.2.1 ≤ n ∧ n < z.2.1 + 20 ∧ z.2.2 = blkK (ltZ cz) 20 l z.1 ++ l.drop (z.1 * 20)) (vc_sound h.mo _ _ _ (by kernel_rfl) ?_) ?_
  case refine_1 =>
    simp [-Prod.exists]
    refine awp_loop (σ := Nat × Nat × Nat × List Tentry) (fun z => (⟨[B 0 l, .int .i64 n, .fn fid [], .any, .any, .any, .int .i64 20, .int .i64 z.2.1, .int .i64 z.2.2.1, .any, .any, .any, .any, .any, .any, .any, .any, .any, .any, .any, .any, .any, .any, .any, .any, .any, .any, .any, .any, .any, .any, .any, .any, .any, .any, .any, .any, .any, .any, .any, .any, .any, .any, .any, .any, .any, .any, .any, .any, .any, .any, .any, .any, .any, .any, .any, .any, .any, .any, .any, .any, .any, .any], [RF 82 z.2.2.2 0]⟩ : S)) (fun z => z.2.1 = z.1 * 20 ∧ z.2.2.1 = z.2.1 + 20 ∧ z.2.1 ≤ n ∧ z.2.2.2 = blkK (ltZ cz) 20 l z.1 ++ l.drop (z.1 * 20)) (fun z => n - z.2.1) (0, 0, 20, l) (Wk.ren 1 [0] hX1 rfl (by decide) (by simp) (by simp) (by simp) (by simp)) ⟨rfl, rfl, Nat.zero_le _, by simp [blkK]⟩ ?_
    rintro ⟨k, a, b, M⟩ ⟨hak, hba, han, hM⟩
    simp only at hak hba han hM
    refine vc_sound h.mo _ _ _ (by kernel_rfl) ?_
    have hpl := blkK_len (ltZ cz) 20 l k
    rw [fst_form] at hM
    have hMl : M.length = l.length := by rw [hM]; simp only [List.length_append, List.length_take, List.length_drop]; omega
    by_cases hbn : b ≤ n
    · have hbni : (b : Int) ≤ (n : Int) := by omega
      obtain ⟨b2, hb2⟩ : ∃ b2, b2 = b + 20 := ⟨_, rfl⟩
      have w1 : IntKind.i64.wrap ((b : Int) + 20) = (b2 : Int) := by rw [i64_id (by omega) (by omega)]; omega
      have hins := c_insSN (P := P) fid cz ho hc (blkK (ltZ cz) 20 l k) ((l.drop (k * 20)).take 20) (l.drop ((k + 1) * 20)) M a b (by omega) (by rw [List.length_take, List.length_drop]; omega) hM (by omega)
      obtain ⟨M', hM'⟩ : ∃ M', M' = blkK (ltZ cz) 20 l (k + 1) ++ l.drop ((k + 1) * 20) := ⟨_, rfl⟩
      rw [fst_next, B_len 0 hMl, ← hM'] at hins
      simp [hbni, -Prod.exists]
      refine xcall_mono hins ?_
      rintro _ _ ⟨rfl, rfl⟩
      simp [w1, -Prod.exists]
      exact ⟨(k + 1, b, b2, M'), Wk.ren 1 [0] hX1 rfl (by decide) (by simp) (by simp) (by simp) (by simp), ⟨by simp only; omega, by simp only; omega, hbn, hM'⟩, by simp only; omega⟩
    · have hbni : ¬ (b : Int) ≤ (n : Int) := by omega
      rw [← fst_form] at hM
      simp [hbni, -Prod.exists]
      exact ⟨(k, a, M), ⟨hak, han, by simp only; omega, hM⟩, Wk.ren 1 [0] hX1 rfl (by decide) (by simp) (by simp) (by simp) (by simp)⟩
  rintro ⟨k, a, M⟩ ⟨hak, han, han2, hM⟩
  simp only at hak han han2 hM
  have hpl := blkK_len (ltZ cz) 20 l k
  rw [fst_form] at hM
  have hMl : M.length = l.length := by rw [hM]; simp only [List.length_append, List.length_take, List.length_drop]; omega
  have hins := c_insSN (P := P) fid cz ho hc (blkK (ltZ cz) 20 l k) ((l.drop (k * 20)).take 20) (l.drop ((k + 1) * 20)) M a n (by omega) (by rw [List.length_take, List.length_drop]; omega) hM (by omega)
  rw [fst_next, B_len 0 hMl, List.drop_of_length_le (i := (k + 1) * 20) (by omega), List.append_nil] at hins
  clear hM hMl
  refine awp_seq (vc_sound h.mo _ _ _ (by kernel_rfl) ?_)
  simp
  refine xcall_mono hins ?_
  rintro _ _ ⟨rfl, rfl⟩
  simp
  refine vc_sound h.mo _ _ _ (by kernel_rfl) ?_
  simp [-Prod.exists]
  refine awp_loop (σ := Nat × Nat × List Tentry) (fun z => (⟨[B 0 l, .int .i64 n, .fn fid [], .any, .any, .any, .int .i64 z.1, .any, .any, .any, .any, .any, .any, .any, .any, .any, .any, .any, .any, .any, .any, .any, .any, .any, .any, .any, .any, .any, .any, .any, .any, .any, .any, .any, .any, .any, .any, .any, .any, .any, .any, .any, .any, .any, .any, .any, .any, .any, .any, .any, .any, .any, .any, .any, .any, .any, .any, .any, .any, .any, .any, .any, .any], [RF 82 z.2.2 0]⟩ : S)) (fun z => 0 < z.1 ∧ 0 < z.2.1 ∧ z.1 ≤ 4000000000 ∧ n ≤ z.2.1 * z.1 ∧ z.2.2 = blkK (ltZ cz) z.1 l z.2.1) (fun z => n - z.1) (20, k + 1, blkK (ltZ cz) 20 l (k + 1)) (Wk.ren 1 [0] hX1 rfl (by decide) (by simp) (by simp) (by simp) (by simp)) ⟨by simp, by simp, by simp, by simp only; omega, rfl⟩ ?_
  rintro ⟨bs, K, M⟩ ⟨hbs, hK0, hbsm, hK, hM⟩
  simp only at hbs hK0 hbsm hK hM
  refine vc_sound h.mo _ _ _ (by kernel_rfl) ?_
  by_cases hbn : bs < n
  case neg =>
    have hbni : ¬ (bs : Int) < (n : Int) := by omega
    rw [blkK_one (by omega) _ hK0] at hM
    subst hM
    simp [hbni]
  have hbni : (bs : Int) < (n : Int) := by omega
  obtain ⟨bs2, hbs2⟩ : ∃ bs2, bs2 = 2 * bs := ⟨_, rfl⟩
  have w2 : IntKind.i64.wrap (2 * (bs : Int)) = (bs2 : Int) := by rw [i64_id (by omega) (by omega)]; omega
  have w3 : IntKind.i64.wrap ((bs : Int) * 2) = (bs2 : Int) := by rw [i64_id (by omega) (by omega)]; omega
  simp [hbni, w2, -Prod.exists]
  refine awp_loop (σ := Nat × Nat × Nat × List Tentry) (fun z => (⟨[B 0 l, .int .i64 n, .fn fid [], .any, .any, .any, .int .i64 bs, .int .i64 z.2.1, .int .i64 z.2.2.1, .any, .any, .any, .any, .any, .any, .any, .any, .any, .any, .any, .any, .any, .any, .any, .any, .any, .any, .any, .any, .any, .any, .any, .any, .any, .any, .any, .any, .any, .any, .any, .any, .any, .any, .any, .any, .any, .any, .any, .any, .any, .any, .any, .any, .any, .any, .any, .any, .any, .any, .any, .any, .any, .any], [RF 82 z.2.2.2 0]⟩ : S)) (fun z => z.2.1 = z.1 * (2 * bs) ∧ z.2.2.1 = z.2.1 + 2 * bs ∧ z.2.1 ≤ n ∧ z.2.2.2 = parM (ltZ cz) bs K l z.1) (fun z => n - z.2.1) (0, 0, bs2, M) (Wk.ren 1 [0] hX1 rfl (by decide) (by simp) (by simp) (by simp) (by simp)) ⟨by simp, by simp only; omega, Nat.zero_le _, by simp only [parM_zero, hM]⟩ ?_
  clear hM
  rintro ⟨t, a, b, M⟩ ⟨hat, hba, han, hM⟩
  simp only at hat hba han hM
  refine vc_sound h.mo _ _ _ (by kernel_rfl) ?_
  have hts : (t + 1) * (2 * bs) = a + 2 * bs := by rw [Nat.succ_mul, hat]
  have hpl := blkK_len (ltZ cz) (2 * bs) l t
  rw [← hat] at hpl
  have hnx := parM_next ho bs K l t
  rw [← hat] at hnx
  have hMl : M.length = l.length := by
    rw [hM, parM, List.length_append, List.length_drop, blkK_len, blkK_len, ← hat]
    omega
  have w4 : IntKind.i64.wrap ((a : Int) + (bs : Int)) = ((a + bs : Nat) : Int) := by rw [i64_id (by omega) (by omega)]; omega
  obtain ⟨mm, hmm⟩ : ∃ mm, mm = a + bs := ⟨_, rfl⟩
  rw [← hmm] at w4
  have lx : mm ≤ n → (isrt (ltZ cz) ((l.drop a).take bs)).length = bs := by intro q; rw [isrt_len, List.length_take, List.length_drop]; omega
  have ly : (isrt (ltZ cz) (((l.drop a).drop bs).take bs)).length = min bs (n - mm) := by rw [isrt_len, List.length_take, List.length_drop, List.length_drop]; omega
  by_cases hbn2 : b ≤ n
  · have hbni2 : (b : Int) ≤ (n : Int) := by omega
    obtain ⟨b2, hb2⟩ : ∃ b2, b2 = b + bs2 := ⟨_, rfl⟩
    have w5 : IntKind.i64.wrap ((b : Int) + (bs2 : Int)) = (b2 : Int) := by rw [i64_id (by omega) (by omega)]; omega
    have hfo := parM_form (ltZ cz) (K := K) (t := t) (l := l) (by omega) hbs (by rw [← hat]; omega)
    rw [← hat] at hfo
    have lx1 := lx (by omega)
    have hsym := c_symN (P := P) fid cz ho hc (bs + bs) (blkK (ltZ cz) (2 * bs) l t) (isrt (ltZ cz) ((l.drop a).take bs)) (isrt (ltZ cz) (((l.drop a).drop bs).take bs)) ((blkK (ltZ cz) bs l K).drop ((t + 1) * (2 * bs))) M a mm b (by omega) (by omega) (by omega) (by omega) (by omega) (by omega) (isrt_SS ho _).1 (isrt_SS ho _).1 (hM.trans hfo) (by omega)
    rw [hnx, B_len 0 hMl] at hsym
    simp [hbni2, w4, -Prod.exists]
    refine xcall_mono hsym ?_
    rintro _ _ ⟨rfl, rfl⟩
    simp [w2, w5, -Prod.exists]
    exact ⟨(t + 1, b, b2, parM (ltZ cz) bs K l (t + 1)), Wk.ren 1 [0] hX1 rfl (by decide) (by simp) (by simp) (by simp) (by simp), ⟨by simp only; omega, by simp only; omega, hbn2, rfl⟩, by simp only; omega⟩
  · have hbni2 : ¬ (b : Int) ≤ (n : Int) := by omega
    by_cases hmn : mm < n
    · have hmni : (mm : Int) < (n : Int) := by omega
      have hfo := parM_form (ltZ cz) (K := K) (t := t) (l := l) (by omega) hbs (by rw [← hat]; omega)
      rw [← hat] at hfo
      have lx1 := lx (by omega)
      have hsym := c_symN (P := P) fid cz ho hc (bs + bs) (blkK (ltZ cz) (2 * bs) l t) (isrt (ltZ cz) ((l.drop a).take bs)) (isrt (ltZ cz) (((l.drop a).drop bs).take bs)) ((blkK (ltZ cz) bs l K).drop ((t + 1) * (2 * bs))) M a mm n (by omega) (by omega) (by omega) (by omega) (by omega) (by omega) (isrt_SS ho _).1 (isrt_SS ho _).1 (hM.trans hfo) (by omega)
      have hlast : parM (ltZ cz) bs K l (t + 1) = blkK (ltZ cz) (2 * bs) l (t + 1) := by
        rw [parM, List.drop_of_length_le (by rw [blkK_len]; omega), List.append_nil]
      rw [hnx, B_len 0 hMl, hlast] at hsym
      simp [hbni2, w4, hmni, -Prod.exists]
      refine xcall_mono hsym ?_
      rintro _ _ ⟨rfl, rfl⟩
      simp [w3, -Prod.exists]
      exact ⟨(bs2, t + 1, blkK (ltZ cz) (2 * bs) l (t + 1)), Wk.ren 1 [0] hX1 rfl (by decide) (by simp) (by simp) (by simp) (by simp), ⟨by simp only; omega, by simp, by simp only; omega, by simp only [hbs2, hts]; omega, by simp only [hbs2]⟩, by simp only; omega⟩
    · have hmni : ¬ (mm : Int) < (n : Int) := by omega
      have hlast := parM_last (lt := ltZ cz) (K := K) (t := t) (l := l) (by omega) hbs (by rw [← hat]; omega) (by rw [← hat]; omega)
      rw [← hM] at hlast
      simp [hbni2, w4, hmni, w3, -Prod.exists]
      exact ⟨(bs2, t + 1, M), Wk.ren 1 [0] hX1 rfl (by decide) (by simp) (by simp) (by simp) (by simp), ⟨by simp only; omega, by simp, by simp only; omega, by simp only [hbs2, hts]; omega, by simp only [hbs2, hlast]⟩, by simp only; omega⟩
theorem c_StabN (fid : FuncId) (cz : Tentry → Tentry → Int) (ho : Ord (ltZ cz)) (hc : ∀ x y : Tentry, FCall P fid [.agg x.cells, .agg y.cells] (fun r => r = .int .i64 (cz x y))) (l : List Tentry) (hbd : l.length ≤ 1000000000) :
    XCall P 59 [B 0 l, .fn fid []] [RF 82 l 0] (fun r H' => r = .tup [] ∧ H' = [RF 82 (isrt (ltZ cz) l) 0]) := by
  refine xcall_of h.f59 rfl (by decide) h.mo (by kernel_rfl) fun X hX => ?_
  simp
  refine xcall_mono (c_stabN fid cz ho hc l hbd) ?_
  rintro _ _ ⟨rfl, rfl⟩
  simp

end Go.Proofs.Ytacfckmhnnhllaa
