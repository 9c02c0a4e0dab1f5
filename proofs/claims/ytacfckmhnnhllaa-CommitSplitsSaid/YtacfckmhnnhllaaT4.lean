/- Chapter 41: the library's stable sort of entries: the symmetric merge, over any program that has the text. -/
import Derived.Test.YtacfckmhnnhllaaT1
namespace Go.Proofs.Ytacfckmhnnhllaa
open Go.AL
variable {P : Program} [h : Facts P]

set_option maxRecDepth 20000 in
set_option maxHeartbeats 8000000 in
theorem c_symN (fid : FuncId) (cz : Tentry → Tentry → Int) (ho : Ord (ltZ cz)) (hc : ∀ x y : Tentry, FCall P fid [.agg x.cells, .agg y.cells] (fun r => r = .int .i64 (cz x y))) : ∀ (N : Nat) (p x y q l : List Tentry) (a m b : Nat), x.length + y.length ≤ N → a = p.length → m = p.length + x.length → b = m + y.length → 0 < x.length → 0 < y.length → srt (ltZ cz) x → srt (ltZ cz) y → l = p ++ (x ++ (y ++ q)) → l.length ≤ 1000000000 →
    XCall P 67 [B 0 l, .int .i64 a, .int .i64 m, .int .i64 b, .fn fid []] [RF 82 l 0] (fun r H' => r = .tup [] ∧ H' = [RF 82 (p ++ (mrg (ltZ cz) x y ++ q)) 0]) := by
  intro N
  induction N with
  | zero => intro p x y q l a m b h1 _ _ _ h2; omega
  | succ N ih =>
  intro p x y q l a m b hN ha hm hb hx hy hxs hys hl hbd
  refine xcall_ofA h.f67 rfl (by decide) fun X hX => ?_
  have hX1 : X.μ.length ≤ 1 := by simpa using hX
  have hll : l.length = p.length + x.length + y.length + q.length := by rw [hl]; simp only [List.length_append]; omega
  have hne : l ≠ [] := by rintro rfl; simp at hll; omega
  have hem : l.isEmpty = false := by cases l with | nil => exact (hne rfl).elim | cons _ _ => rfl
  rw [RF_ne hne]
  have hfl : (p ++ (mrg (ltZ cz) x y ++ q)).length = l.length := by simp only [List.length_append, mrg_len]; omega
  obtain ⟨fin, hfin⟩ : ∃ fin, fin = p ++ (mrg (ltZ cz) x y ++ q) := ⟨_, rfl⟩
  rw [← hfin] at hfl ⊢
  have hfne : fin ≠ [] := by rintro rfl; simp at hfl; omega
  rw [RF_ne hfne]
  refine awp_cut2 (⟨[B 0 l, .int .i64 a, .int .i64 m, .int .i64 b, .fn fid [], .any, .any, .any, .any, .any, .any, .any, .any, .any, .any, .any, .any, .any, .any, .any, .any, .any, .any, .any, .any, .any, .any, .any, .any, .any, .any, .any, .any, .any, .any, .any, .any, .any, .any, .any, .any, .any, .any, .any, .any, .any, .any, .any, .any, .any, .any, .any, .any, .any, .any, .any, .any, .any, .any, .any, .any, .any, .any, .any, .any, .any, .any, .any, .any, .any, .any, .any, .any, .any, .any, .any, .any, .any, .any, .any, .any, .any, .any, .any, .any, .any, .any, .any, .any, .any, .any, .any, .any, .any, .any, .any, .any, .any, .any, .any, .any, .any, .any, .any, .any, .any, .any, .any, .any, .any, .any, .any, .any, .any, .any, .any, .any, .any, .any, .any, .any, .any, .any, .any, .any, .any, .any, .any, .any, .any, .any, .any, .any, .any, .any, .any, .any, .any, .any, .any, .any, .any, .any, .any, .any, .any, .any, .any, .any, .any, .any, .any, .any, .any, .any, .any, .any, .any, .any, .any, .any, .any, .any, .any, .any, .any, .any, .any, .any, .any, .any, .any, .any, .any, .any, .any, .any, .any, .any, .any, .any, .any, .any, .any, .any, .any, .any, .any, .any, .any, .any, .any, .any, .any, .any, .any, .any, .any, .any, .any, .any, .any, .any, .any, .any, .any, .any, .any, .any, .any, .any, .any, .any, .any, .any, .any, .any, .any, .any, .any], [⟨82, Enc.sz Tentry, l.map Enc.enc, 0, true⟩]⟩ : S) (x.length ≠ 1) (vcB_sound [5, 11] h.mo _ _ _ (by kernel_rfl) ?_) ?_
  case refine_1 =>
    have w1 : IntKind.i64.wrap ((m : Int) - (a : Int)) = (x.length : Int) := by rw [i64_id (by omega) (by omega)]; omega
    by_cases hx1 : x.length = 1
    case neg =>
      have hx1i : ¬ (x.length : Int) = 1 := by omega
      simp [w1, hx1, hx1i]
      exact Wk.ren 1 [0] hX1 rfl (by decide) (by simp) (by simp) (by simp) (by simp)
    obtain ⟨e, rfl⟩ := List.length_eq_one_iff.1 hx1
    simp only [List.length_singleton] at hll hm w1 hN
    have ga : ∀ h : a < l.length, l[a] = e := fun h => part_get1 hl (c := 0) (by simp) (by omega) h
    have gy : ∀ (c : Nat) (hcy : c < y.length) (h : m + c < l.length), l[m + c] = y[c] := fun c hcy h => part_get2 hl hcy (by simp only [List.length_singleton]; omega) h
    simp [w1, -Prod.exists]
    refine awp_loop (σ := Nat × Nat) (fun z => (⟨[B 0 l, .int .i64 a, .int .i64 m, .int .i64 b, .fn fid [], .any, .any, .any, .any, .any, .int .i64 z.1, .int .i64 z.2, .any, .any, .any, .any, .any, .any, .any, .any, .any, .any, .any, .any, .any, .any, .any, .any, .any, .any, .any, .any, .any, .any, .any, .any, .any, .any, .any, .any, .any, .any, .any, .any, .any, .any, .any, .any, .any, .any, .any, .any, .any, .any, .any, .any, .any, .any, .any, .any, .any, .any, .any, .any, .any, .any, .any, .any, .any, .any, .any, .any, .any, .any, .any, .any, .any, .any, .any, .any, .any, .any, .any, .any, .any, .any, .any, .any, .any, .any, .any, .any, .any, .any, .any, .any, .any, .any, .any, .any, .any, .any, .any, .any, .any, .any, .any, .any, .any, .any, .any, .any, .any, .any, .any, .any, .any, .any, .any, .any, .any, .any, .any, .any, .any, .any, .any, .any, .any, .any, .any, .any, .any, .any, .any, .any, .any, .any, .any, .any, .any, .any, .any, .any, .any, .any, .any, .any, .any, .any, .any, .any, .any, .any, .any, .any, .any, .any, .any, .any, .any, .any, .any, .any, .any, .any, .any, .any, .any, .any, .any, .any, .any, .any, .any, .any, .any, .any, .any, .any, .any, .any, .any, .any, .any, .any, .any, .any, .any, .any, .any, .any, .any, .any, .any, .any, .any, .any, .any, .any, .any, .any, .any, .any, .any, .any, .any, .any, .any, .any, .any, .any, .any, .any, .any, .any, .any, .any, .any, .any], [⟨82, Enc.sz Tentry, l.map Enc.enc, 0, true⟩]⟩ : S)) (fun z => m ≤ z.1 ∧ z.1 ≤ z.2 ∧ z.2 ≤ b ∧ (∀ c (hc : c < y.length), m + c < z.1 → ltZ cz y[c] e = true) ∧ (∀ c (hc : c < y.length), z.2 ≤ m + c → ltZ cz y[c] e = false)) (fun z => z.2 - z.1) (m, b) (Wk.ren 1 [0] hX1 rfl (by decide) (by simp) (by simp) (by simp) (by simp)) ⟨by simp, by simp only; omega, by simp, fun c _ q => by simp only at q; omega, fun c _ q => by simp only at q; omega⟩ ?_
    rintro ⟨i, j⟩ ⟨hmi, hij, hjb, hlo, hhi⟩
    simp only at hmi hij hjb hlo hhi
    refine vcB_sound [5, 11] h.mo _ _ _ (by kernel_rfl) ?_
    by_cases hijlt : i < j
    · obtain ⟨k, hk⟩ : ∃ k, k = (i + j) / 2 := ⟨_, rfl⟩
      have hii : (i : Int) < (j : Int) := by omega
      have v1 : IntKind.i64.wrap ((i : Int) + (j : Int)) = ((i + j : Nat) : Int) := by rw [i64_id (by omega) (by omega)]; omega
      have v2 : IntKind.u64.wrap ((i + j : Nat) : Int) = ((i + j : Nat) : Int) := by rw [IntKind.wrap_u64]; omega
      have v3 : ((i + j : Nat) : Int) / 2 = (k : Int) := by omega
      have v4 : IntKind.i64.wrap (k : Int) = (k : Int) := i64_id (by omega) (by omega)
      have hkl : k < l.length := by omega
      have hal : a < l.length := by omega
      obtain ⟨c, hkc⟩ : ∃ c, k = m + c := ⟨k - m, by omega⟩
      have hcy : c < y.length := by omega
      have gk : l[k] = y[c] := by have := gy c hcy (by omega); simp only [← hkc] at this; exact this
      have gal := ga hal
      have vk : IntKind.i64.wrap ((k : Int) + 1) = ((k + 1 : Nat) : Int) := by rw [i64_id (by omega) (by omega)]; omega
      simp [hii, v1, -Prod.exists]
      refine awp_quiet [0, 1, 2, 3, 4, 5, 6, 7, 8, 9, 10] _ h.mo (by kernel_rfl) (by decide) (by kernel_rfl) (by rfl) ?_
      rw [Int.natCast_add] at v2 v3
      simp [v2, v3, v4, hkl, hal, gk, gal, -Prod.exists]
      refine ⟨_, hc y[c] e, ?_⟩
      by_cases g : cz y[c] e < 0
      · simp [g, -Prod.exists]
        exact ⟨(k + 1, j), Wk.ren 1 [0] hX1 rfl (by decide) (by simp [vk]) (by simp) (by simp) (by simp), ⟨by simp only; omega, by simp only; omega, hjb, fun c' hc' q => one_lt ho hys hcy (by simp only at q; omega) (decide_eq_true g), hhi⟩, by simp only; omega⟩
      · simp [g, -Prod.exists]
        exact ⟨(i, k), Wk.ren 1 [0] hX1 rfl (by decide) (by simp) (by simp) (by simp) (by simp), ⟨hmi, by simp only; omega, by simp only; omega, hlo, fun c' hc' q => one_ge ho hys hc' (by simp only at q; omega) (decide_eq_false g)⟩, by simp only; omega⟩
    have hije : i = j := by omega
    subst hije
    obtain ⟨s, hs⟩ : ∃ s, s = i - m := ⟨_, rfl⟩
    have hmg : mrg (ltZ cz) [e] y = y.take s ++ e :: y.drop s := one_place (fun c hc q => hlo c hc (by omega)) (fun c hc q => hhi c hc (by omega))
    have hfin2 : fin = insT p y e q s := by rw [hfin, hmg]; simp only [insT, List.append_assoc, List.cons_append]
    have hii : ¬ (i : Int) < (i : Int) := by omega
    have wi : IntKind.i64.wrap ((i : Int) - 1) = ((i - 1 : Nat) : Int) := by rw [i64_id (by omega) (by omega)]; omega
    obtain ⟨i1, hi1⟩ : ∃ i1, i1 = i - 1 := ⟨_, rfl⟩
    rw [← hi1] at wi
    simp [-Prod.exists]
    refine awp_loop (σ := Nat × Nat × List Tentry) (fun z => (⟨[B 0 l, .any, .any, .any, .any, .any, .any, .any, .any, .any, .int .i64 i, .any, .any, .int .i64 z.2.1, .any, .any, .any, .any, .any, .any, .any, .any, .any, .any, .any, .any, .any, .any, .any, .any, .any, .any, .any, .any, .any, .any, .any, .any, .any, .any, .any, .any, .any, .any, .any, .any, .any, .any, .any, .any, .any, .any, .any, .any, .any, .any, .any, .any, .any, .any, .any, .any, .any, .any, .any, .any, .any, .any, .any, .any, .any, .any, .any, .any, .any, .any, .any, .any, .any, .any, .any, .any, .any, .any, .any, .any, .any, .any, .any, .any, .any, .any, .any, .any, .any, .any, .any, .any, .any, .any, .any, .any, .any, .any, .any, .any, .any, .any, .any, .any, .any, .any, .any, .any, .any, .any, .any, .any, .any, .any, .any, .any, .any, .any, .any, .any, .any, .any, .any, .any, .any, .any, .any, .any, .any, .any, .any, .any, .any, .any, .any, .any, .any, .any, .any, .any, .any, .any, .any, .any, .any, .any, .any, .any, .any, .any, .any, .any, .any, .any, .any, .any, .any, .any, .any, .any, .any, .any, .any, .any, .any, .any, .any, .any, .any, .any, .any, .any, .any, .any, .any, .any, .any, .any, .any, .any, .any, .any, .any, .any, .any, .any, .any, .any, .any, .any, .any, .any, .any, .any, .any, .any, .any, .any, .any, .any, .any, .any, .any, .any, .any, .any, .any, .any, .any, .any, .any, .any, .any, .any], [⟨82, Enc.sz Tentry, z.2.2.map Enc.enc, 0, true⟩]⟩ : S)) (fun z => z.2.1 = a + z.1 ∧ z.1 ≤ s ∧ z.2.2 = insT p y e q z.1) (fun z => s - z.1) (0, a, l) (Wk.ren 1 [0] hX1 rfl (by decide) (by simp) (by simp) (by simp) (by simp)) ⟨rfl, by simp, by simp [insT, hl]⟩ ?_
    rintro ⟨t, k, M⟩ ⟨hkt, hts, hM⟩
    simp only at hkt hts hM
    refine vcB_sound [5, 11] h.mo _ _ _ (by kernel_rfl) ?_
    have hMl : M.length = l.length := by rw [hM, insT_len (by omega)]; omega
    by_cases hlt : t < s
    · obtain ⟨k1, hk1⟩ : ∃ k1, k1 = k + 1 := ⟨_, rfl⟩
      have hki : (k : Int) < (i1 : Int) := by omega
      have hki2 : k < i1 := by omega
      have hty : t < y.length := by omega
      have wk : IntKind.i64.wrap ((k : Int) + 1) = (k1 : Int) := by rw [i64_id (by omega) (by omega)]; omega
      have b1 : k < M.length := by omega
      have b2 : k1 < M.length := by omega
      have b3 : k < l.length := by omega
      have b4 : k1 < l.length := by omega
      have g1 : M[k] = e := by rw [List.getElem_of_eq hM]; exact insT_get1 (by omega) (by omega) _
      have g2 : M[k1] = y[t] := by rw [List.getElem_of_eq hM]; exact insT_get3 hty (by omega) _
      have hst := insT_up (p := p) (r := q) (e := e) (i := k) (j := k1) hty (by omega) (by omega)
      rw [← hM] at hst
      obtain ⟨M', hM'⟩ : ∃ M', M' = insT p y e q (t + 1) := ⟨_, rfl⟩
      rw [← hM'] at hst
      have e1 : ((M.map Enc.enc).set k (Enc.enc y[t])).set k1 (Enc.enc e) = M'.map Enc.enc := by rw [← hst, List.map_set, List.map_set]
      simp at e1
      simp [wi, hki, -Prod.exists]
      refine awp_tree (.take 0 (.take 1 (.take 2 (.take 3 (.take 4 (.take 5 (.take 6 (.take 7 (.take 8 (.take 10 (.take 11 (.take 12 (.alt 9 (.alt 13 (.take 14 (.alt 15 (.take 16 (.alt 17 .done .stop)) .stop)) .stop) (.alt 13 (.alt 9 (.take 14 (.alt 15 (.take 16 (.alt 17 .done .stop)) .stop)) .stop) .stop)))))))))))))) _ h.mo (by kernel_rfl) (by decide) (by kernel_rfl) (by rfl) ?_
      simp [wk, b3, b4, g1, g2, hMl, -Prod.exists]
      exact ⟨(t + 1, k1, M'), Wk.ren 1 [0] hX1 rfl (by decide) (by simp) (by simp) (by simp) (by simp [e1]), ⟨by simp only; omega, by simp only; omega, hM'⟩, by simp only; omega⟩
    · have hts2 : t = s := by omega
      subst hts2
      have hki : ¬ (k : Int) < (i1 : Int) := by omega
      have hki2 : ¬ k < i1 := by omega
      rw [← hfin2] at hM
      subst hM
      simp [wi, hki]
  intro hx1
  refine awp_cut2 (⟨[B 0 l, .int .i64 a, .int .i64 m, .int .i64 b, .fn fid [], .any, .any, .any, .any, .any, .any, .any, .any, .any, .any, .any, .any, .any, .any, .any, .any, .any, .any, .any, .any, .any, .any, .any, .any, .any, .any, .any, .any, .any, .any, .any, .any, .any, .any, .any, .any, .any, .any, .any, .any, .any, .any, .any, .any, .any, .any, .any, .any, .any, .any, .any, .any, .any, .any, .any, .any, .any, .any, .any, .any, .any, .any, .any, .any, .any, .any, .any, .any, .any, .any, .any, .any, .any, .any, .any, .any, .any, .any, .any, .any, .any, .any, .any, .any, .any, .any, .any, .any, .any, .any, .any, .any, .any, .any, .any, .any, .any, .any, .any, .any, .any, .any, .any, .any, .any, .any, .any, .any, .any, .any, .any, .any, .any, .any, .any, .any, .any, .any, .any, .any, .any, .any, .any, .any, .any, .any, .any, .any, .any, .any, .any, .any, .any, .any, .any, .any, .any, .any, .any, .any, .any, .any, .any, .any, .any, .any, .any, .any, .any, .any, .any, .any, .any, .any, .any, .any, .any, .any, .any, .any, .any, .any, .any, .any, .any, .any, .any, .any, .any, .any, .any, .any, .any, .any, .any, .any, .any, .any, .any, .any, .any, .any, .any, .any, .any, .any, .any, .any, .any, .any, .any, .any, .any, .any, .any, .any, .any, .any, .any, .any, .any, .any, .any, .any, .any, .any, .any, .any, .any, .any, .any, .any, .any, .any, .any], [⟨82, Enc.sz Tentry, l.map Enc.enc, 0, true⟩]⟩ : S) (y.length ≠ 1) (vcB_sound [17, 23] h.mo _ _ _ (by kernel_rfl) ?_) ?_
  case refine_1 =>
    have w1 : IntKind.i64.wrap ((b : Int) - (m : Int)) = (y.length : Int) := by rw [i64_id (by omega) (by omega)]; omega
    by_cases hy1 : y.length = 1
    case neg =>
      have hy1i : ¬ (y.length : Int) = 1 := by omega
      simp [w1, hy1, hy1i]
      exact Wk.ren 1 [0] hX1 rfl (by decide) (by simp) (by simp) (by simp) (by simp)
    obtain ⟨e, rfl⟩ := List.length_eq_one_iff.1 hy1
    simp only [List.length_singleton] at hll hb w1 hN
    have ge : ∀ h : m < l.length, l[m] = e := fun h => part_get2 hl (c := 0) (by simp) (by omega) h
    have gx : ∀ (c : Nat) (hcx : c < x.length) (h : a + c < l.length), l[a + c] = x[c] := fun c hcx h => part_get1 hl hcx (by omega) h
    simp [w1, -Prod.exists]
    refine awp_loop (σ := Nat × Nat) (fun z => (⟨[B 0 l, .int .i64 a, .int .i64 m, .int .i64 b, .fn fid [], .any, .any, .any, .any, .any, .any, .any, .any, .any, .int .i64 z.1, .int .i64 z.2, .any, .any, .any, .any, .any, .any, .any, .any, .any, .any, .any, .any, .any, .any, .any, .any, .any, .any, .any, .any, .any, .any, .any, .any, .any, .any, .any, .any, .any, .any, .any, .any, .any, .any, .any, .any, .any, .any, .any, .any, .any, .any, .any, .any, .any, .any, .any, .any, .any, .any, .any, .any, .any, .any, .any, .any, .any, .any, .any, .any, .any, .any, .any, .any, .any, .any, .any, .any, .any, .any, .any, .any, .any, .any, .any, .any, .any, .any, .any, .any, .any, .any, .any, .any, .any, .any, .any, .any, .any, .any, .any, .any, .any, .any, .any, .any, .any, .any, .any, .any, .any, .any, .any, .any, .any, .any, .any, .any, .any, .any, .any, .any, .any, .any, .any, .any, .any, .any, .any, .any, .any, .any, .any, .any, .any, .any, .any, .any, .any, .any, .any, .any, .any, .any, .any, .any, .any, .any, .any, .any, .any, .any, .any, .any, .any, .any, .any, .any, .any, .any, .any, .any, .any, .any, .any, .any, .any, .any, .any, .any, .any, .any, .any, .any, .any, .any, .any, .any, .any, .any, .any, .any, .any, .any, .any, .any, .any, .any, .any, .any, .any, .any, .any, .any, .any, .any, .any, .any, .any, .any, .any, .any, .any, .any, .any, .any, .any, .any, .any, .any, .any, .any, .any, .any], [⟨82, Enc.sz Tentry, l.map Enc.enc, 0, true⟩]⟩ : S)) (fun z => a ≤ z.1 ∧ z.1 ≤ z.2 ∧ z.2 ≤ m ∧ (∀ c (hc : c < x.length), a + c < z.1 → ltZ cz e x[c] = false) ∧ (∀ c (hc : c < x.length), z.2 ≤ a + c → ltZ cz e x[c] = true)) (fun z => z.2 - z.1) (a, m) (Wk.ren 1 [0] hX1 rfl (by decide) (by simp) (by simp) (by simp) (by simp)) ⟨by simp, by simp only; omega, by simp, fun c _ q => by simp only at q; omega, fun c _ q => by simp only at q; omega⟩ ?_
    rintro ⟨i, j⟩ ⟨hmi, hij, hjb, hlo, hhi⟩
    simp only at hmi hij hjb hlo hhi
    refine vcB_sound [17, 23] h.mo _ _ _ (by kernel_rfl) ?_
    by_cases hijlt : i < j
    · obtain ⟨k, hk⟩ : ∃ k, k = (i + j) / 2 := ⟨_, rfl⟩
      have hii : (i : Int) < (j : Int) := by omega
      have v1 : IntKind.i64.wrap ((i : Int) + (j : Int)) = ((i + j : Nat) : Int) := by rw [i64_id (by omega) (by omega)]; omega
      have v2 : IntKind.u64.wrap ((i + j : Nat) : Int) = ((i + j : Nat) : Int) := by rw [IntKind.wrap_u64]; omega
      have v3 : ((i + j : Nat) : Int) / 2 = (k : Int) := by omega
      have v4 : IntKind.i64.wrap (k : Int) = (k : Int) := i64_id (by omega) (by omega)
      have hkl : k < l.length := by omega
      have hml : m < l.length := by omega
      obtain ⟨c, hkc⟩ : ∃ c, k = a + c := ⟨k - a, by omega⟩
      have hcx : c < x.length := by omega
      have gk : l[k] = x[c] := by have := gx c hcx (by omega); simp only [← hkc] at this; exact this
      have gml := ge hml
      have vk : IntKind.i64.wrap ((k : Int) + 1) = ((k + 1 : Nat) : Int) := by rw [i64_id (by omega) (by omega)]; omega
      simp [hii, v1, -Prod.exists]
      refine awp_quiet [0, 1, 2, 3, 4, 5, 6, 7, 8, 9, 10, 11] _ h.mo (by kernel_rfl) (by decide) (by kernel_rfl) (by rfl) ?_
      rw [Int.natCast_add] at v2 v3
      simp [v2, v3, v4, hkl, hml, gk, gml, -Prod.exists]
      refine ⟨_, hc e x[c], ?_⟩
      by_cases g : cz e x[c] < 0
      · simp [g, -Prod.exists]
        exact ⟨(i, k), Wk.ren 1 [0] hX1 rfl (by decide) (by simp) (by simp) (by simp) (by simp), ⟨hmi, by simp only; omega, by simp only; omega, hlo, fun c' hc' q => last_gt ho hxs hc' (by simp only at q; omega) (decide_eq_true g)⟩, by simp only; omega⟩
      · simp [g, -Prod.exists]
        exact ⟨(k + 1, j), Wk.ren 1 [0] hX1 rfl (by decide) (by simp [vk]) (by simp) (by simp) (by simp), ⟨by simp only; omega, by simp only; omega, hjb, fun c' hc' q => last_le ho hxs hcx (by simp only at q; omega) (decide_eq_false g), hhi⟩, by simp only; omega⟩
    have hije : i = j := by omega
    subst hije
    obtain ⟨s, hs⟩ : ∃ s, s = i - a := ⟨_, rfl⟩
    have hmg : mrg (ltZ cz) x [e] = x.take s ++ e :: x.drop s := last_place (fun c hc q => hlo c hc (by omega)) (fun c hc q => hhi c hc (by omega))
    have hfin2 : fin = insT p x e q s := by rw [hfin, hmg]; simp only [insT, List.append_assoc, List.cons_append]
    simp [-Prod.exists]
    refine awp_loop (σ := Nat × Nat × List Tentry) (fun z => (⟨[B 0 l, .any, .any, .any, .any, .any, .any, .any, .any, .any, .any, .any, .any, .any, .int .i64 i, .any, .any, .int .i64 z.2.1, .any, .any, .any, .any, .any, .any, .any, .any, .any, .any, .any, .any, .any, .any, .any, .any, .any, .any, .any, .any, .any, .any, .any, .any, .any, .any, .any, .any, .any, .any, .any, .any, .any, .any, .any, .any, .any, .any, .any, .any, .any, .any, .any, .any, .any, .any, .any, .any, .any, .any, .any, .any, .any, .any, .any, .any, .any, .any, .any, .any, .any, .any, .any, .any, .any, .any, .any, .any, .any, .any, .any, .any, .any, .any, .any, .any, .any, .any, .any, .any, .any, .any, .any, .any, .any, .any, .any, .any, .any, .any, .any, .any, .any, .any, .any, .any, .any, .any, .any, .any, .any, .any, .any, .any, .any, .any, .any, .any, .any, .any, .any, .any, .any, .any, .any, .any, .any, .any, .any, .any, .any, .any, .any, .any, .any, .any, .any, .any, .any, .any, .any, .any, .any, .any, .any, .any, .any, .any, .any, .any, .any, .any, .any, .any, .any, .any, .any, .any, .any, .any, .any, .any, .any, .any, .any, .any, .any, .any, .any, .any, .any, .any, .any, .any, .any, .any, .any, .any, .any, .any, .any, .any, .any, .any, .any, .any, .any, .any, .any, .any, .any, .any, .any, .any, .any, .any, .any, .any, .any, .any, .any, .any, .any, .any, .any, .any, .any, .any, .any, .any, .any, .any], [⟨82, Enc.sz Tentry, z.2.2.map Enc.enc, 0, true⟩]⟩ : S)) (fun z => z.2.1 = a + z.1 ∧ s ≤ z.1 ∧ z.1 ≤ x.length ∧ z.2.2 = insT p x e q z.1) (fun z => z.1) (x.length, m, l) (Wk.ren 1 [0] hX1 rfl (by decide) (by simp) (by simp) (by simp) (by simp)) ⟨by simp only; omega, by simp only; omega, by simp, by simp [insT, hl]⟩ ?_
    rintro ⟨t, k, M⟩ ⟨hkt, hts, htx, hM⟩
    simp only at hkt hts htx hM
    refine vcB_sound [17, 23] h.mo _ _ _ (by kernel_rfl) ?_
    have hMl : M.length = l.length := by rw [hM, insT_len (by omega)]; omega
    by_cases hlt : s < t
    · obtain ⟨u, rfl⟩ : ∃ u, t = u + 1 := ⟨t - 1, by omega⟩
      obtain ⟨k1, hk1⟩ : ∃ k1, k1 = k - 1 := ⟨_, rfl⟩
      have hki : (i : Int) < (k : Int) := by omega
      have hki2 : i < k := by omega
      have hux : u < x.length := by omega
      have wk : IntKind.i64.wrap ((k : Int) - 1) = (k1 : Int) := by rw [i64_id (by omega) (by omega)]; omega
      have b1 : k < M.length := by omega
      have b2 : k1 < M.length := by omega
      have b3 : k < l.length := by omega
      have b4 : k1 < l.length := by omega
      have g1 : M[k] = e := by rw [List.getElem_of_eq hM]; exact insT_get1 (by omega) (by omega) _
      have g2 : M[k1] = x[u] := by rw [List.getElem_of_eq hM]; exact insT_get2 hux (by omega) _
      have hst := insT_step (p := p) (r := q) (e := e) (i := k1) (j := k) hux (by omega) (by omega)
      rw [← hM] at hst
      obtain ⟨M', hM'⟩ : ∃ M', M' = insT p x e q u := ⟨_, rfl⟩
      rw [← hM'] at hst
      have e1 : ((M.map Enc.enc).set k (Enc.enc x[u])).set k1 (Enc.enc e) = M'.map Enc.enc := by rw [← hst, List.map_set, List.map_set]
      simp at e1
      simp [hki, -Prod.exists]
      refine awp_tree (.take 0 (.take 1 (.take 2 (.take 3 (.take 4 (.take 5 (.take 6 (.take 7 (.take 8 (.take 10 (.take 11 (.take 12 (.alt 9 (.alt 13 (.take 14 (.alt 15 (.take 16 (.alt 17 .done .stop)) .stop)) .stop) (.alt 13 (.alt 9 (.take 14 (.alt 15 (.take 16 (.alt 17 .done .stop)) .stop)) .stop) .stop)))))))))))))) _ h.mo (by kernel_rfl) (by decide) (by kernel_rfl) (by rfl) ?_
      simp [wk, b3, b4, g1, g2, hMl, -Prod.exists]
      exact ⟨(u, k1, M'), Wk.ren 1 [0] hX1 rfl (by decide) (by simp) (by simp) (by simp) (by simp [e1]), ⟨by simp only; omega, by simp only; omega, by simp only; omega, hM'⟩, by simp only; omega⟩
    · have hts2 : t = s := by omega
      subst hts2
      have hki : ¬ (i : Int) < (k : Int) := by omega
      have hki2 : ¬ i < k := by omega
      rw [← hfin2] at hM
      subst hM
      simp [hki]
  intro hy1
  clear hfl hfne
  have hx2 : 2 ≤ x.length := by omega
  have hy2 : 2 ≤ y.length := by omega
  obtain ⟨mid, hmid⟩ : ∃ mid, mid = (a + b) / 2 := ⟨_, rfl⟩
  obtain ⟨n, hn⟩ : ∃ n, n = mid + m := ⟨_, rfl⟩
  obtain ⟨n1, hn1⟩ : ∃ n1, n1 = n - 1 := ⟨_, rfl⟩
  have v1 : IntKind.i64.wrap ((a : Int) + (b : Int)) = (a : Int) + (b : Int) := i64_id (by omega) (by omega)
  have v2 : IntKind.u64.wrap ((a : Int) + (b : Int)) = (a : Int) + (b : Int) := by rw [IntKind.wrap_u64]; omega
  have v3 : ((a : Int) + (b : Int)) / 2 = (mid : Int) := by omega
  have v4 : IntKind.i64.wrap (mid : Int) = (mid : Int) := i64_id (by omega) (by omega)
  have v5 : IntKind.i64.wrap ((mid : Int) + (m : Int)) = (n : Int) := by rw [i64_id (by omega) (by omega)]; omega
  have v6 : IntKind.i64.wrap ((n : Int) - 1) = (n1 : Int) := by rw [i64_id (by omega) (by omega)]; omega
  refine awp_seq (vc_sound h.mo _ _ _ (by kernel_rfl) ?_)
  simp [v1, v2, v3, v4]
  refine awp_seq (vc_sound h.mo _ _ _ (by kernel_rfl) ?_)
  simp [v5]
  refine awp_seq (vc_sound h.mo _ _ _ (by kernel_rfl) ?_)
  simp
  refine awp_cut3 (σ := Nat × Nat) (fun z => (⟨[B 0 l, .int .i64 a, .int .i64 m, .int .i64 b, .fn fid [], .any, .any, .any, .any, .any, .any, .any, .any, .any, .any, .any, .any, .any, .int .i64 mid, .int .i64 n, .int .i64 z.1, .int .i64 z.2, .any, .any, .any, .any, .any, .any, .any, .any, .any, .any, .any, .any, .any, .any, .any, .any, .any, .any, .any, .any, .any, .any, .any, .any, .any, .any, .any, .any, .any, .any, .any, .any, .any, .any, .any, .any, .any, .any, .any, .any, .any, .any, .any, .any, .any, .any, .any, .any, .any, .any, .any, .any, .any, .any, .any, .any, .any, .any, .any, .any, .any, .any, .any, .any, .any, .any, .any, .any, .any, .any, .any, .any, .any, .any, .any, .any, .any, .any, .any, .any, .any, .any, .any, .any, .any, .any, .any, .any, .any, .any, .any, .any, .any, .any, .any, .any, .any, .any, .any, .any, .any, .any, .any, .any, .any, .any, .any, .any, .any, .any, .any, .any, .any, .any, .any, .any, .any, .any, .any, .any, .any, .any, .any, .any, .any, .any, .any, .any, .any, .any, .any, .any, .any, .any, .any, .any, .any, .any, .any, .any, .any, .any, .any, .any, .any, .any, .any, .any, .any, .any, .any, .any, .any, .any, .any, .any, .any, .any, .any, .any, .any, .any, .any, .any, .any, .any, .any, .any, .any, .any, .any, .any, .any, .any, .any, .any, .any, .any, .any, .any, .any, .any, .any, .any, .any, .any, .any, .any, .any, .any, .any, .any, .any, .any, .any, .any, .any, .any], [⟨82, Enc.sz Tentry, l.map Enc.enc, 0, true⟩]⟩ : S)) (fun z => symR a m b mid n z.1 z.2) (vc_sound h.mo _ _ _ (by kernel_rfl) ?_) ?_
  case refine_1 =>
    by_cases hmm : mid < m
    · have hmi : (mid : Int) < (m : Int) := by omega
      obtain ⟨nb, hnb⟩ : ∃ nb, nb = n - b := ⟨_, rfl⟩
      have v7 : IntKind.i64.wrap ((n : Int) - (b : Int)) = (nb : Int) := by rw [i64_id (by omega) (by omega)]; omega
      simp [hmi, v7, -Prod.exists]
      exact ⟨(nb, mid), .inl ⟨hmm, hnb, rfl⟩, Wk.ren 1 [0] hX1 rfl (by decide) (by simp) (by simp) (by simp) (by simp)⟩
    · have hmi : ¬ (mid : Int) < (m : Int) := by omega
      simp [hmi, -Prod.exists]
      exact ⟨(a, m), .inr ⟨by omega, rfl, rfl⟩, Wk.ren 1 [0] hX1 rfl (by decide) (by simp) (by simp) (by simp) (by simp)⟩
  rintro ⟨lo, hi⟩ hlohi
  simp only [symR] at hlohi
  have hlo1 : a ≤ lo := by omega
  have hlo2 : lo ≤ hi := by omega
  have hhi2 : hi ≤ m := by omega
  have hpc : ∀ c, lo ≤ c → c < hi → m + c ≤ n1 ∧ n1 < b + c := by omega
  refine awp_seq (vc_sound h.mo _ _ _ (by kernel_rfl) ?_)
  simp [v6]
  have gx : ∀ (c i : Nat) (hcx : c < x.length) (_ : i = a + c) (hh : i < l.length), l[i] = x[c] := fun c i hcx he hh => part_get1 hl hcx (by omega) hh
  have gy : ∀ (c i : Nat) (hcy : c < y.length) (_ : i = m + c) (hh : i < l.length), l[i] = y[c] := fun c i hcy he hh => part_get2 hl hcy (by omega) hh
  refine awp_cut3 (σ := Nat) (fun z => (⟨[B 0 l, .int .i64 a, .int .i64 m, .int .i64 b, .fn fid [], .any, .any, .any, .any, .any, .any, .any, .any, .any, .any, .any, .any, .any, .int .i64 mid, .int .i64 n, .int .i64 z, .any, .any, .any, .any, .any, .any, .any, .any, .any, .any, .any, .any, .any, .any, .any, .any, .any, .any, .any, .any, .any, .any, .any, .any, .any, .any, .any, .any, .any, .any, .any, .any, .any, .any, .any, .any, .any, .any, .any, .any, .any, .any, .any, .any, .any, .any, .any, .any, .any, .any, .any, .any, .any, .any, .any, .any, .any, .any, .any, .any, .any, .any, .any, .any, .any, .any, .any, .any, .any, .any, .any, .any, .any, .any, .any, .any, .any, .any, .any, .any, .any, .any, .any, .any, .any, .any, .any, .any, .any, .any, .any, .any, .any, .any, .any, .any, .any, .any, .any, .any, .any, .any, .any, .any, .any, .any, .any, .any, .any, .any, .any, .any, .any, .any, .any, .any, .any, .any, .any, .any, .any, .any, .any, .any, .any, .any, .any, .any, .any, .any, .any, .any, .any, .any, .any, .any, .any, .any, .any, .any, .any, .any, .any, .any, .any, .any, .any, .any, .any, .any, .any, .any, .any, .any, .any, .any, .any, .any, .any, .any, .any, .any, .any, .any, .any, .any, .any, .any, .any, .any, .any, .any, .any, .any, .any, .any, .any, .any, .any, .any, .any, .any, .any, .any, .any, .any, .any, .any, .any, .any, .any, .any, .any, .any, .any, .any, .any, .any, .any], [⟨82, Enc.sz Tentry, l.map Enc.enc, 0, true⟩]⟩ : S)) (fun z => lo ≤ z ∧ z ≤ hi ∧ (lo < z → symF (ltZ cz) x y a m n1 false (z - 1)) ∧ (z < hi → symF (ltZ cz) x y a m n1 true z)) (vcB_sound [35] h.mo _ _ _ (by kernel_rfl) ?_) ?_
  case refine_1 =>
    simp
    refine awp_loop (σ := Nat × Nat) (fun z => (⟨[B 0 l, .int .i64 a, .int .i64 m, .int .i64 b, .fn fid [], .any, .any, .any, .any, .any, .any, .any, .any, .any, .any, .any, .any, .any, .int .i64 mid, .int .i64 n, .int .i64 z.1, .int .i64 z.2, .int .i64 n1, .any, .any, .any, .any, .any, .any, .any, .any, .any, .any, .any, .any, .any, .any, .any, .any, .any, .any, .any, .any, .any, .any, .any, .any, .any, .any, .any, .any, .any, .any, .any, .any, .any, .any, .any, .any, .any, .any, .any, .any, .any, .any, .any, .any, .any, .any, .any, .any, .any, .any, .any, .any, .any, .any, .any, .any, .any, .any, .any, .any, .any, .any, .any, .any, .any, .any, .any, .any, .any, .any, .any, .any, .any, .any, .any, .any, .any, .any, .any, .any, .any, .any, .any, .any, .any, .any, .any, .any, .any, .any, .any, .any, .any, .any, .any, .any, .any, .any, .any, .any, .any, .any, .any, .any, .any, .any, .any, .any, .any, .any, .any, .any, .any, .any, .any, .any, .any, .any, .any, .any, .any, .any, .any, .any, .any, .any, .any, .any, .any, .any, .any, .any, .any, .any, .any, .any, .any, .any, .any, .any, .any, .any, .any, .any, .any, .any, .any, .any, .any, .any, .any, .any, .any, .any, .any, .any, .any, .any, .any, .any, .any, .any, .any, .any, .any, .any, .any, .any, .any, .any, .any, .any, .any, .any, .any, .any, .any, .any, .any, .any, .any, .any, .any, .any, .any, .any, .any, .any, .any, .any, .any, .any, .any, .any, .any, .any, .any], [⟨82, Enc.sz Tentry, l.map Enc.enc, 0, true⟩]⟩ : S)) (fun z => lo ≤ z.1 ∧ z.1 ≤ z.2 ∧ z.2 ≤ hi ∧ (lo < z.1 → symF (ltZ cz) x y a m n1 false (z.1 - 1)) ∧ (z.2 < hi → symF (ltZ cz) x y a m n1 true z.2)) (fun z => z.2 - z.1) (lo, hi) (Wk.ren 1 [0] hX1 rfl (by decide) (by simp) (by simp) (by simp) (by simp)) ⟨Nat.le_refl _, hlo2, Nat.le_refl _, fun q => absurd q (Nat.lt_irrefl _), fun q => absurd q (Nat.lt_irrefl _)⟩ ?_
    rintro ⟨i, j⟩ ⟨hli, hij, hjh, hf1, hf2⟩
    simp only at hli hij hjh hf1 hf2
    refine vcB_sound [35] h.mo _ _ _ (by kernel_rfl) ?_
    by_cases hijlt : i < j
    · obtain ⟨k, hk⟩ : ∃ k, k = (i + j) / 2 := ⟨_, rfl⟩
      have hii : (i : Int) < (j : Int) := by omega
      have u1 : IntKind.i64.wrap ((i : Int) + (j : Int)) = (i : Int) + (j : Int) := i64_id (by omega) (by omega)
      have u2 : IntKind.u64.wrap ((i : Int) + (j : Int)) = (i : Int) + (j : Int) := by rw [IntKind.wrap_u64]; omega
      have u3 : ((i : Int) + (j : Int)) / 2 = (k : Int) := by omega
      have u4 : IntKind.i64.wrap (k : Int) = (k : Int) := i64_id (by omega) (by omega)
      obtain ⟨hp1, hp2⟩ := hpc k (by omega) (by omega)
      obtain ⟨pk, hpk⟩ : ∃ pk, pk = n1 - k := ⟨_, rfl⟩
      have u5 : IntKind.i64.wrap ((n1 : Int) - (k : Int)) = (pk : Int) := by rw [i64_id (by omega) (by omega)]; omega
      have hcx : k - a < x.length := by omega
      have hcy : n1 - k - m < y.length := by omega
      have hkl : k < l.length := by omega
      have hpl : pk < l.length := by omega
      have gk : l[k] = x[k - a] := gx _ _ hcx (by omega) hkl
      have gp : l[pk] = y[n1 - k - m] := gy _ _ hcy (by omega) hpl
      have vk : IntKind.i64.wrap ((k : Int) + 1) = ((k + 1 : Nat) : Int) := by rw [i64_id (by omega) (by omega)]; omega
      simp [hii, u1, -Prod.exists]
      refine awp_quiet [0, 1, 2, 3, 4, 5, 6, 7, 8, 9, 10, 11, 12, 13] _ h.mo (by kernel_rfl) (by decide) (by kernel_rfl) (by rfl) ?_
      simp [u2, u3, u4, u5, hkl, hpl, gk, gp, -Prod.exists]
      refine ⟨_, hc y[n1 - k - m] x[k - a], ?_⟩
      by_cases g : cz y[n1 - k - m] x[k - a] < 0
      · simp [g, -Prod.exists]
        exact ⟨(i, k), Wk.ren 1 [0] hX1 rfl (by decide) (by simp) (by simp) (by simp) (by simp), ⟨hli, by simp only; omega, by simp only; omega, hf1, fun _ => ⟨hcy, hcx, decide_eq_true g⟩⟩, by simp only; omega⟩
      · simp [g, -Prod.exists]
        exact ⟨(k + 1, j), Wk.ren 1 [0] hX1 rfl (by decide) (by simp [vk]) (by simp) (by simp) (by simp), ⟨by simp only; omega, by simp only; omega, hjh, fun _ => ⟨hcy, hcx, decide_eq_false g⟩, hf2⟩, by simp only; omega⟩
    · have hije : i = j := by omega
      subst hije
      simp
      exact ⟨i, ⟨hli, hjh, hf1, hf2⟩, Wk.ren 1 [0] hX1 rfl (by decide) (by simp) (by simp) (by simp) (by simp)⟩
  rintro s ⟨hs1, hs2, hs3, hs4⟩
  obtain ⟨nd, hnd⟩ : ∃ nd, nd = n - s := ⟨_, rfl⟩
  have v8 : IntKind.i64.wrap ((n : Int) - (s : Int)) = (nd : Int) := by rw [i64_id (by omega) (by omega)]; omega
  have hm1 : m ≤ nd := by omega
  have hm2 : nd ≤ b := by omega
  have hparts := sym_parts ho hxs hys (s := s - a) (t := nd - m) (fun q1 q2 => by
    obtain ⟨f1, f2, f3⟩ := hs4 (by omega)
    have e1 : n1 - s - m = nd - m - 1 := by omega
    simp only [e1] at f3
    exact ⟨f2, by omega, f3⟩) (fun q1 q2 => by
    obtain ⟨f1, f2, f3⟩ := hs3 (by omega)
    have e1 : n1 - (s - 1) - m = nd - m := by omega
    have e2 : s - 1 - a = s - a - 1 := by omega
    simp only [e1, e2] at f3
    exact ⟨by omega, q2, f3⟩)
  obtain ⟨x1, hx1'⟩ : ∃ x1, x1 = x.take (s - a) := ⟨_, rfl⟩
  obtain ⟨x2, hx2'⟩ : ∃ x2, x2 = x.drop (s - a) := ⟨_, rfl⟩
  obtain ⟨y1, hy1'⟩ : ∃ y1, y1 = y.take (nd - m) := ⟨_, rfl⟩
  obtain ⟨y2, hy2'⟩ : ∃ y2, y2 = y.drop (nd - m) := ⟨_, rfl⟩
  have lx1 : x1.length = s - a := by rw [hx1', List.length_take]; omega
  have lx2 : x2.length = m - s := by rw [hx2', List.length_drop]; omega
  have ly1 : y1.length = nd - m := by rw [hy1', List.length_take]; omega
  have ly2 : y2.length = b - nd := by rw [hy2', List.length_drop]; omega
  have sx1 : srt (ltZ cz) x1 := by rw [hx1']; exact List.Pairwise.sublist (List.take_sublist _ _) hxs
  have sx2 : srt (ltZ cz) x2 := by rw [hx2']; exact List.Pairwise.sublist (List.drop_sublist _ _) hxs
  have sy1 : srt (ltZ cz) y1 := by rw [hy1']; exact List.Pairwise.sublist (List.take_sublist _ _) hys
  have sy2 : srt (ltZ cz) y2 := by rw [hy2']; exact List.Pairwise.sublist (List.drop_sublist _ _) hys
  have hxe : x = x1 ++ x2 := by rw [hx1', hx2', List.take_append_drop]
  have hye : y = y1 ++ y2 := by rw [hy1', hy2', List.take_append_drop]
  rw [← hx1', ← hx2', ← hy1', ← hy2'] at hparts
  rw [hparts] at hfin
  rw [hxe, hye] at hl
  clear hparts hs3 hs4 gx gy hx1' hx2' hy1' hy2'
  refine awp_seq (vc_sound h.mo _ _ _ (by kernel_rfl) ?_)
  simp [v8]
  obtain ⟨l1, hl1⟩ : ∃ l1, l1 = p ++ (x1 ++ (y1 ++ (x2 ++ (y2 ++ q)))) := ⟨_, rfl⟩
  have hl1l : l1.length = l.length := by rw [hl1, hl]; simp only [List.length_append]; omega
  have hl1ne : l1 ≠ [] := by rintro rfl; simp at hl1l; omega
  have hB1 : B 0 l = B 0 l1 := B_len 0 hl1l.symm
  refine awp_cut2 (⟨[B 0 l, .int .i64 a, .int .i64 m, .int .i64 b, .fn fid [], .any, .any, .any, .any, .any, .any, .any, .any, .any, .any, .any, .any, .any, .int .i64 mid, .any, .int .i64 s, .any, .any, .any, .int .i64 nd, .any, .any, .any, .any, .any, .any, .any, .any, .any, .any, .any, .any, .any, .any, .any, .any, .any, .any, .any, .any, .any, .any, .any, .any, .any, .any, .any, .any, .any, .any, .any, .any, .any, .any, .any, .any, .any, .any, .any, .any, .any, .any, .any, .any, .any, .any, .any, .any, .any, .any, .any, .any, .any, .any, .any, .any, .any, .any, .any, .any, .any, .any, .any, .any, .any, .any, .any, .any, .any, .any, .any, .any, .any, .any, .any, .any, .any, .any, .any, .any, .any, .any, .any, .any, .any, .any, .any, .any, .any, .any, .any, .any, .any, .any, .any, .any, .any, .any, .any, .any, .any, .any, .any, .any, .any, .any, .any, .any, .any, .any, .any, .any, .any, .any, .any, .any, .any, .any, .any, .any, .any, .any, .any, .any, .any, .any, .any, .any, .any, .any, .any, .any, .any, .any, .any, .any, .any, .any, .any, .any, .any, .any, .any, .any, .any, .any, .any, .any, .any, .any, .any, .any, .any, .any, .any, .any, .any, .any, .any, .any, .any, .any, .any, .any, .any, .any, .any, .any, .any, .any, .any, .any, .any, .any, .any, .any, .any, .any, .any, .any, .any, .any, .any, .any, .any, .any, .any, .any, .any, .any, .any, .any, .any, .any, .any], [⟨82, Enc.sz Tentry, l1.map Enc.enc, 0, true⟩]⟩ : S) True (vc_sound h.mo _ _ _ (by kernel_rfl) ?_) ?_
  case refine_1 =>
    by_cases q1 : s < m
    · have q1i : (s : Int) < (m : Int) := by omega
      by_cases q2 : m < nd
      · have q2i : (m : Int) < (nd : Int) := by omega
        have hrot := c_rotN (P := P) fid (p ++ x1) x2 y1 (y2 ++ q) l s m nd (by simp only [List.length_append]; omega) (by simp only [List.length_append]; omega) (by omega) (by omega) (by omega) (by rw [hl]; simp only [List.append_assoc]) hbd
        have hrot2 : p ++ x1 ++ (y1 ++ (x2 ++ (y2 ++ q))) = l1 := by rw [hl1]; simp only [List.append_assoc]
        rw [hrot2, RF_ne hne, RF_ne hl1ne] at hrot
        simp [q1i, q2i]
        refine xcall_mono hrot ?_
        rintro _ _ ⟨rfl, rfl⟩
        simp
        exact Wk.ren 1 [0] hX1 rfl (by decide) (by simp) (by simp) (by simp) (by simp)
      · have q2i : ¬ (m : Int) < (nd : Int) := by omega
        have hy10 : y1 = [] := List.length_eq_zero_iff.1 (by omega)
        have he : l1 = l := by rw [hl1, hl, hy10]; simp only [List.append_assoc, List.nil_append]
        simp [q1i, q2i]
        exact Wk.ren 1 [0] hX1 rfl (by decide) (by simp) (by simp) (by simp) (by simp [he])
    · have q1i : ¬ (s : Int) < (m : Int) := by omega
      have hx20 : x2 = [] := List.length_eq_zero_iff.1 (by omega)
      have he : l1 = l := by rw [hl1, hl, hx20]; simp only [List.append_assoc, List.append_nil, List.nil_append]
      simp [q1i]
      exact Wk.ren 1 [0] hX1 rfl (by decide) (by simp) (by simp) (by simp) (by simp [he])
  intro _
  obtain ⟨g1, hg1⟩ : ∃ g1, g1 = mrg (ltZ cz) x1 y1 := ⟨_, rfl⟩
  have lg1 : g1.length = mid - a := by rw [hg1, mrg_len]; omega
  obtain ⟨l2, hl2⟩ : ∃ l2, l2 = p ++ (g1 ++ (x2 ++ (y2 ++ q))) := ⟨_, rfl⟩
  have hl2l : l2.length = l.length := by rw [hl2, ← hl1l, hl1]; simp only [List.length_append]; omega
  have hl2ne : l2 ≠ [] := by rintro rfl; simp at hl2l; omega
  have hB2 : B 0 l = B 0 l2 := B_len 0 hl2l.symm
  refine awp_cut2 (⟨[B 0 l, .int .i64 a, .int .i64 m, .int .i64 b, .fn fid [], .any, .any, .any, .any, .any, .any, .any, .any, .any, .any, .any, .any, .any, .int .i64 mid, .any, .int .i64 s, .any, .any, .any, .int .i64 nd, .any, .any, .any, .any, .any, .any, .any, .any, .any, .any, .any, .any, .any, .any, .any, .any, .any, .any, .any, .any, .any, .any, .any, .any, .any, .any, .any, .any, .any, .any, .any, .any, .any, .any, .any, .any, .any, .any, .any, .any, .any, .any, .any, .any, .any, .any, .any, .any, .any, .any, .any, .any, .any, .any, .any, .any, .any, .any, .any, .any, .any, .any, .any, .any, .any, .any, .any, .any, .any, .any, .any, .any, .any, .any, .any, .any, .any, .any, .any, .any, .any, .any, .any, .any, .any, .any, .any, .any, .any, .any, .any, .any, .any, .any, .any, .any, .any, .any, .any, .any, .any, .any, .any, .any, .any, .any, .any, .any, .any, .any, .any, .any, .any, .any, .any, .any, .any, .any, .any, .any, .any, .any, .any, .any, .any, .any, .any, .any, .any, .any, .any, .any, .any, .any, .any, .any, .any, .any, .any, .any, .any, .any, .any, .any, .any, .any, .any, .any, .any, .any, .any, .any, .any, .any, .any, .any, .any, .any, .any, .any, .any, .any, .any, .any, .any, .any, .any, .any, .any, .any, .any, .any, .any, .any, .any, .any, .any, .any, .any, .any, .any, .any, .any, .any, .any, .any, .any, .any, .any, .any, .any, .any, .any, .any, .any], [⟨82, Enc.sz Tentry, l2.map Enc.enc, 0, true⟩]⟩ : S) True (vc_sound h.mo _ _ _ (by kernel_rfl) ?_) ?_
  case refine_1 =>
    have same : x1 = [] ∨ y1 = [] → l2 = l1 := by
      intro hz
      rw [hl2, hl1, hg1, mrg_take_le hz]
      simp only [List.append_assoc]
    by_cases q1 : a < s
    · have q1i : (a : Int) < (s : Int) := by omega
      by_cases q2 : s < mid
      · have q2i : (s : Int) < (mid : Int) := by omega
        have hrec := ih p x1 y1 (x2 ++ (y2 ++ q)) l1 a s mid (by omega) ha (by omega) (by omega) (by omega) (by omega) sx1 sy1 hl1 (by omega)
        rw [← hg1, ← hl2, RF_ne hl1ne, RF_ne hl2ne, ← hB1] at hrec
        simp [q1i, q2i]
        refine xcall_mono hrec ?_
        rintro _ _ ⟨rfl, rfl⟩
        simp
        exact Wk.ren 1 [0] hX1 rfl (by decide) (by simp) (by simp) (by simp) (by simp)
      · have q2i : ¬ (s : Int) < (mid : Int) := by omega
        have he := same (.inr (List.length_eq_zero_iff.1 (by omega)))
        simp [q1i, q2i]
        exact Wk.ren 1 [0] hX1 rfl (by decide) (by simp) (by simp) (by simp) (by simp [he])
    · have q1i : ¬ (a : Int) < (s : Int) := by omega
      have he := same (.inl (List.length_eq_zero_iff.1 (by omega)))
      simp [q1i]
      exact Wk.ren 1 [0] hX1 rfl (by decide) (by simp) (by simp) (by simp) (by simp [he])
  intro _
  refine vc_sound h.mo _ _ _ (by kernel_rfl) ?_
  have same : x2 = [] ∨ y2 = [] → l2 = fin := by
    intro hz
    rw [hl2, hfin, hg1, mrg_take_le hz]
    simp only [List.append_assoc]
  have hfne : fin ≠ [] := by
    intro e
    have h1 := congrArg List.length (hfin.symm.trans e)
    simp only [List.length_append, mrg_len, List.length_nil] at h1
    omega
  by_cases q1 : mid < nd
  · have q1i : (mid : Int) < (nd : Int) := by omega
    by_cases q2 : nd < b
    · have q2i : (nd : Int) < (b : Int) := by omega
      have hrec := ih (p ++ g1) x2 y2 q l2 mid nd b (by omega) (by simp only [List.length_append]; omega) (by simp only [List.length_append]; omega) (by omega) (by omega) (by omega) sx2 sy2 (by rw [hl2]; simp only [List.append_assoc]) (by omega)
      have hrec2 : p ++ g1 ++ (mrg (ltZ cz) x2 y2 ++ q) = fin := by rw [hfin, hg1]; simp only [List.append_assoc]
      rw [hrec2, RF_ne hl2ne, RF_ne hfne, ← hB2] at hrec
      simp [q1i, q2i]
      refine xcall_mono hrec ?_
      rintro _ _ ⟨rfl, rfl⟩
      simp
    · have q2i : ¬ (nd : Int) < (b : Int) := by omega
      have he := same (.inr (List.length_eq_zero_iff.1 (by omega)))
      simp [q1i, q2i, he]
  · have q1i : ¬ (mid : Int) < (nd : Int) := by omega
    have he := same (.inl (List.length_eq_zero_iff.1 (by omega)))
    simp [q1i, he]

end Go.Proofs.Ytacfckmhnnhllaa
