/- Chapter 41: the library's stable sort of entries, its small parts, over any program that has the text. -/
import Derived.Test.YtacfckmhnnhllaaS4
namespace Go.Proofs.Ytacfckmhnnhllaa
open Go.AL
variable {P : Program} [h : Facts P]

set_option maxHeartbeats 1000000 in
theorem c_swapRN (fid : FuncId) (p u w v q l : List Tentry) (a b n : Nat) (ha : a = p.length) (hb : b = p.length + u.length + w.length) (hu : u.length = n) (hv : v.length = n) (hl : l = p ++ u ++ (w ++ (v ++ q))) (hn : 0 < n) (hbd : l.length ≤ 1000000000) :
    XCall P 70 [B 0 l, .int .i64 a, .int .i64 b, .int .i64 n, .fn fid []] [RF 82 l 0] (fun r H' => r = .tup [] ∧ H' = [RF 82 (p ++ v ++ (w ++ (u ++ q))) 0]) := by
  refine xcall_ofB [3] h.f70 rfl (by decide) h.mo (by kernel_rfl) fun X hX => ?_
  have hX1 : X.μ.length ≤ 1 := by simpa using hX
  have hll : l.length = p.length + u.length + w.length + v.length + q.length := by rw [hl]; simp only [List.length_append]; omega
  have hne : l ≠ [] := by rintro rfl; simp at hll; omega
  have hem : l.isEmpty = false := by cases l with | nil => exact (hne rfl).elim | cons _ _ => rfl
  have hfin : p ++ v ++ (w ++ (u ++ q)) ≠ [] := by intro e; have := congrArg List.length e; simp only [List.length_append, List.length_nil] at this; omega
  have hse := swR_end (p := p) (w := w) (q := q) hu hv
  generalize p ++ v ++ (w ++ (u ++ q)) = fin at *
  simp
  refine awp_loop (σ := Nat × List Tentry) (fun z => (⟨[B 0 l, .int .i64 a, .int .i64 b, .int .i64 n, .any, .any, .any, .any, .any, .any, .int .i64 z.1, .any, .any, .any, .any, .any, .any, .any, .any, .any, .any, .any, .any, .any, .any, .any, .any, .any, .any, .any, .any, .any, .any, .any, .any, .any, .any, .any], [⟨82, Enc.sz Tentry, z.2.map Enc.enc, 0, true⟩]⟩ : S)) (fun z => z.1 ≤ n ∧ z.2 = swR p u w v q z.1) (fun z => n - z.1) (0, l) (Wk.ren 1 [0] hX1 rfl (by decide) (by simp) (by simp) (by simp) (by simp [RF_ne hne])) ⟨by simp, by rw [swR_zero, hl]⟩ ?_
  rintro ⟨k, m⟩ ⟨hk, hm⟩
  simp only at hk hm
  refine vcB_sound [3] h.mo _ _ _ (by kernel_rfl) ?_
  have hml : m.length = l.length := by rw [hm, swR_len (by omega) (by omega), hll]
  rcases Nat.lt_or_ge k n with hlt | hge
  · have hk1 := wrap_succ hlt (by omega)
    have hku : k < u.length := by omega
    have hkv : k < v.length := by omega
    have hi : a + k < m.length := by omega
    have hj : b + k < m.length := by omega
    have hil : a + k < l.length := by omega
    have hjl : b + k < l.length := by omega
    have g1 : m[a + k] = u[k] := by rw [List.getElem_of_eq hm]; exact swR_get1 hku hkv (by omega) _
    have g2 : m[b + k] = v[k] := by rw [List.getElem_of_eq hm]; exact swR_get2 hku hkv (by omega) _
    have hst := swR_step (p := p) (w := w) (q := q) (i := a + k) (j := b + k) hku hkv (by omega) (by omega)
    rw [← hm] at hst
    obtain ⟨m', hm'⟩ : ∃ m', m' = swR p u w v q (k + 1) := ⟨_, rfl⟩
    rw [← hm'] at hst
    have w1 : IntKind.i64.wrap ((a : Int) + (k : Int)) = ((a + k : Nat) : Int) := by rw [i64_id (by omega) (by omega)]; omega
    have w2 : IntKind.i64.wrap ((b : Int) + (k : Int)) = ((b + k : Nat) : Int) := by rw [i64_id (by omega) (by omega)]; omega
    generalize a + k = i at *
    generalize b + k = j at *
    have hkn : (k : Int) < (n : Int) := by omega
    have e : ((m.map Enc.enc).set i (Enc.enc v[k])).set j (Enc.enc u[k]) = m'.map Enc.enc := by rw [← hst, List.map_set, List.map_set]
    simp at e
    simp [hkn, -Prod.exists]
    refine awp_tree (.take 0 (.take 1 (.take 2 (.take 3 (.take 4 (.take 5 (.take 6 (.take 7 (.take 8 (.take 9 (.take 10 (.take 11 (.take 12 (.take 14 (.take 15 (.take 16 (.take 17 (.take 18 (.alt 13 (.alt 19 (.take 20 (.alt 21 (.take 22 (.alt 23 .done .stop)) .stop)) .stop) (.alt 19 (.alt 13 (.take 20 (.alt 21 (.take 22 (.alt 23 .done .stop)) .stop)) .stop) .stop)))))))))))))))))))) _ h.mo (by kernel_rfl) (by decide) (by kernel_rfl) (by rfl) ?_
    simp [w1, w2, hil, hjl, hml, g1, g2, -Prod.exists]
    exact ⟨(k + 1, m'), Wk.ren 1 [0] hX1 rfl (by decide) (by simp [hk1]) (by simp) (by simp) (by simp [e]), ⟨by omega, hm'⟩, by simp only; omega⟩
  · have hkn : k = n := by omega
    subst hkn
    rw [hse] at hm
    subst hm
    simp [RF_ne hfin]

set_option maxHeartbeats 2000000 in
theorem c_insSN (fid : FuncId) (cz : Tentry → Tentry → Int) (ho : Ord (ltZ cz)) (hc : ∀ x y : Tentry, FCall P fid [.agg x.cells, .agg y.cells] (fun r => r = .int .i64 (cz x y))) (p x q l : List Tentry) (a b : Nat) (ha : a = p.length) (hb : b = p.length + x.length) (hl : l = p ++ (x ++ q)) (hbd : l.length ≤ 1000000000) :
    XCall P 66 [B 0 l, .int .i64 a, .int .i64 b, .fn fid []] [RF 82 l 0] (fun r H' => r = .tup [] ∧ H' = [RF 82 (p ++ (isrt (ltZ cz) x ++ q)) 0]) := by
  refine xcall_ofB [4, 6] h.f66 rfl (by decide) h.mo (by kernel_rfl) fun X hX => ?_
  have hX1 : X.μ.length ≤ 1 := by simpa using hX
  have hll : l.length = p.length + x.length + q.length := by rw [hl]; simp only [List.length_append]; omega
  have wa : IntKind.i64.wrap ((a : Int) + 1) = ((a + 1 : Nat) : Int) := by rw [i64_id (by omega) (by omega)]; omega
  by_cases hx0 : x = []
  · subst hx0
    have e0 : p ++ (isrt (ltZ cz) [] ++ q) = l := by rw [hl]; rfl
    rw [e0]
    simp
    refine awp_loop (σ := Nat) (fun _ => (⟨[B 0 l, .int .i64 a, .int .i64 b, .any, .any, .any, .any, .any, .int .i64 ((a + 1 : Nat) : Int), .any, .any, .any, .any, .any, .any, .any, .any, .any, .any, .any, .any, .any, .any, .any, .any, .any, .any, .any, .any, .any, .any, .any, .any, .any, .any, .any, .any, .any, .any, .any, .any, .any, .any, .any, .any, .any, .any, .any, .any, .any, .any, .any, .any], [RF 82 l 0]⟩ : S)) (fun _ => True) (fun _ => 0) 0 (Wk.ren 1 [0] hX1 rfl (by decide) (by simp [wa]) (by simp) (by simp) (by simp)) trivial ?_
    rintro _ _
    refine vcB_sound [4, 6] h.mo _ _ _ (by kernel_rfl) ?_
    have q1 : ¬ ((a : Int) + 1 < (b : Int)) := by simp only [List.length_nil] at hb; omega
    simp [q1]
  have hxl : 0 < x.length := List.length_pos_iff.2 hx0
  have hne : l ≠ [] := by rintro rfl; simp at hll; omega
  have hem : l.isEmpty = false := by cases l with | nil => exact (hne rfl).elim | cons _ _ => rfl
  have hone : isrt (ltZ cz) (x.take 1) = x.take 1 := by
    refine isrt_srt ho ?_
    cases x with
    | nil => simp
    | cons a x => simp
  simp
  refine awp_loop (σ := Nat × Nat × List Tentry) (fun z => (⟨[B 0 l, .int .i64 a, .int .i64 b, .fn fid [], .any, .any, .any, .any, .int .i64 z.2.1, .any, .any, .any, .any, .any, .any, .any, .any, .any, .any, .any, .any, .any, .any, .any, .any, .any, .any, .any, .any, .any, .any, .any, .any, .any, .any, .any, .any, .any, .any, .any, .any, .any, .any, .any, .any, .any, .any, .any, .any, .any, .any, .any, .any], [⟨82, Enc.sz Tentry, z.2.2.map Enc.enc, 0, true⟩]⟩ : S)) (fun z => z.2.1 = a + z.1 ∧ 1 ≤ z.1 ∧ z.1 ≤ x.length ∧ z.2.2 = p ++ (isrt (ltZ cz) (x.take z.1) ++ (x.drop z.1 ++ q))) (fun z => x.length - z.1) (1, a + 1, l) (Wk.ren 1 [0] hX1 rfl (by decide) (by simp [wa]) (by simp) (by simp) (by simp [RF_ne hne])) ⟨rfl, by simp, by simp only; omega, by simp only [hone]; rw [← List.append_assoc (x.take 1), List.take_append_drop, hl]⟩ ?_
  rintro ⟨k, i, m⟩ ⟨hik, hk1, hk, hm⟩
  simp only at hik hk1 hk hm
  refine vcB_sound [4, 6] h.mo _ _ _ (by kernel_rfl) ?_
  rcases Nat.lt_or_ge k x.length with hlt | hge
  case inr =>
    have hkx : k = x.length := by omega
    subst hkx
    rw [List.take_length, List.drop_length, List.nil_append] at hm
    have hmn : m ≠ [] := by intro e; have := congrArg List.length (hm.symm.trans e); simp only [List.length_append, isrt_len, List.length_nil] at this; omega
    rw [← hm]
    have hib : ¬ (i : Int) < (b : Int) := by omega
    have hib2 : ¬ i < b := by omega
    simp [hib, RF_ne hmn]
  have hki : (i : Int) < (b : Int) := by omega
  have hki2 : i < b := by omega
  obtain ⟨y, hy⟩ : ∃ y, y = isrt (ltZ cz) (x.take k) := ⟨_, rfl⟩
  have hyl : y.length = k := by rw [hy, isrt_len, List.length_take]; omega
  have hys : srt (ltZ cz) y := by rw [hy]; exact (isrt_SS ho _).1
  obtain ⟨r, hr⟩ : ∃ r, r = x.drop (k + 1) ++ q := ⟨_, rfl⟩
  have hrl : r.length = x.length - (k + 1) + q.length := by rw [hr]; simp
  have hstart : m = insT p y x[k] r k := by
    rw [hm, ← hy, insT, List.take_of_length_le (l := y) (by omega), List.drop_of_length_le (l := y) (by omega), hr, List.drop_eq_getElem_cons hlt]
    simp only [List.append_assoc, List.cons_append, List.nil_append]
  have hnext : isrt (ltZ cz) (x.take (k + 1)) = mrg (ltZ cz) y [x[k]] := by rw [List.take_succ_eq_append_getElem hlt, isrt_snoc, hy]
  have hmem0 : ∀ u ∈ y.drop k, ltZ cz x[k] u = true := by rw [List.drop_of_length_le (by omega)]; simp
  generalize x[k] = e at *
  simp [hki, -Prod.exists]
  refine awp_loop (σ := Nat × Nat × List Tentry) (fun z => (⟨[B 0 l, .int .i64 a, .int .i64 b, .fn fid [], .any, .any, .any, .any, .int .i64 i, .int .i64 z.2.1, .any, .any, .any, .any, .any, .any, .any, .any, .any, .any, .any, .any, .any, .any, .any, .any, .any, .any, .any, .any, .any, .any, .any, .any, .any, .any, .any, .any, .any, .any, .any, .any, .any, .any, .any, .any, .any, .any, .any, .any, .any, .any, .any], [⟨82, Enc.sz Tentry, z.2.2.map Enc.enc, 0, true⟩]⟩ : S)) (fun z => z.2.1 = a + z.1 ∧ z.1 ≤ k ∧ z.2.2 = insT p y e r z.1 ∧ ∀ u ∈ y.drop z.1, ltZ cz e u = true) (fun z => z.1) (k, i, m) (Wk.ren 1 [0] hX1 rfl (by decide) (by simp) (by simp) (by simp) (by simp)) ⟨hik, by simp, hstart, hmem0⟩ ?_
  clear hm hstart hmem0
  rintro ⟨t, j, m⟩ ⟨hjt, ht, hm, hgt⟩
  simp only at hjt ht hm hgt
  refine vcB_sound [4, 6] h.mo _ _ _ (by kernel_rfl) ?_
  have hml : m.length = l.length := by rw [hm, insT_len (by omega)]; omega
  have fin : (∀ s (hs : s < y.length), t = s + 1 → ltZ cz e y[s] = false) → m = p ++ (isrt (ltZ cz) (x.take (k + 1)) ++ (x.drop (k + 1) ++ q)) := by
    intro h2
    rw [hm, insT_end ho hys (by omega) hgt h2, hnext, hr]
  refine awp_quiet [0, 1, 2, 3, 4, 5, 6, 7, 8, 9, 10, 11, 12, 13, 14, 15, 16] _ h.mo (by kernel_rfl) (by decide) (by kernel_rfl) (by rfl) ?_
  have w3 : IntKind.i64.wrap ((i : Int) + 1) = ((i + 1 : Nat) : Int) := by rw [i64_id (by omega) (by omega)]; omega
  have leave : (∀ s (hs : s < y.length), t = s + 1 → ltZ cz e y[s] = false) → ∃ y' : Nat × Nat × List Tentry, y' = (k + 1, i + 1, m) ∧ (y'.2.1 = a + y'.1 ∧ 1 ≤ y'.1 ∧ y'.1 ≤ x.length ∧ y'.2.2 = p ++ (isrt (ltZ cz) (x.take y'.1) ++ (x.drop y'.1 ++ q))) := fun h2 => ⟨_, rfl, by simp only; omega, by simp only; omega, by simp only; omega, fin h2⟩
  by_cases t0 : t = 0
  · have hq : ¬ (a : Int) < (j : Int) := by omega
    have hq2 : ¬ a < j := by omega
    obtain ⟨z, rfl, hz⟩ := leave (fun s _ e => by omega)
    simp [hq, -Prod.exists]
    exact ⟨(k + 1, i + 1, m), Wk.ren 1 [0] hX1 rfl (by decide) (by simp [w3]) (by simp) (by simp) (by simp), hz, by simp only; omega⟩
  · obtain ⟨s, rfl⟩ : ∃ s, t = s + 1 := ⟨t - 1, by omega⟩
    obtain ⟨j1, hj1⟩ : ∃ j1, j = j1 + 1 := ⟨j - 1, by omega⟩
    have hq : (a : Int) < (j : Int) := by omega
    have hq2 : a < j := by omega
    have hsl : s < y.length := by omega
    have b1 : j < m.length := by omega
    have b2 : j1 < m.length := by omega
    have b3 : j < l.length := by omega
    have b4 : j1 < l.length := by omega
    have g1 : m[j] = e := by rw [List.getElem_of_eq hm]; exact insT_get1 (by omega) (by omega) _
    have g2 : m[j1] = y[s] := by rw [List.getElem_of_eq hm]; exact insT_get2 hsl (by omega) _
    have hwj : IntKind.i64.wrap ((j : Int) - 1) = (j1 : Int) := by rw [i64_id (by omega) (by omega)]; omega
    simp [hq, hwj, b3, b4, g1, g2, hml, -Prod.exists]
    refine ⟨_, hc e y[s], ?_⟩
    by_cases hlt2 : cz e y[s] < 0
    · simp [hlt2, -Prod.exists]
      have hst := insT_step (p := p) (r := r) (e := e) (i := j1) (j := j) hsl (by omega) (by omega)
      rw [← hm] at hst
      obtain ⟨m', hm'⟩ : ∃ m', m' = insT p y e r s := ⟨_, rfl⟩
      rw [← hm'] at hst
      have e1 : ((m.map Enc.enc).set j (Enc.enc y[s])).set j1 (Enc.enc e) = m'.map Enc.enc := by rw [← hst, List.map_set, List.map_set]
      simp at e1
      have hgt' : ∀ u ∈ y.drop s, ltZ cz e u = true := by
        rw [List.drop_eq_getElem_cons hsl]
        intro u hu
        rcases List.mem_cons.1 hu with rfl | hu
        · exact decide_eq_true hlt2
        · exact hgt u hu
      refine awp_tree (.take 0 (.take 1 (.take 2 (.take 3 (.take 4 (.take 5 (.take 6 (.take 7 (.take 8 (.take 10 (.take 11 (.take 12 (.alt 9 (.alt 13 (.take 14 (.alt 15 (.take 16 (.alt 17 .done .stop)) .stop)) .stop) (.alt 13 (.alt 9 (.take 14 (.alt 15 (.take 16 (.alt 17 .done .stop)) .stop)) .stop) .stop)))))))))))))) _ h.mo (by kernel_rfl) (by decide) (by kernel_rfl) (by rfl) ?_
      simp [hwj, b3, b4, g1, g2, hml, -Prod.exists]
      exact ⟨(s, j1, m'), Wk.ren 1 [0] hX1 rfl (by decide) (by simp) (by simp) (by simp) (by simp [e1]), ⟨by simp only; omega, by simp only; omega, hm', hgt'⟩, by simp only; omega⟩
    · obtain ⟨z, rfl, hz⟩ := leave (fun s' hs' e' => by
        have : s' = s := by omega
        subst this
        exact decide_eq_false hlt2)
      simp [hlt2, -Prod.exists]
      exact ⟨(k + 1, i + 1, m), Wk.ren 1 [0] hX1 rfl (by decide) (by simp [w3]) (by simp) (by simp) (by simp), hz, by simp only; omega⟩

set_option maxHeartbeats 2000000 in
theorem c_rotN (fid : FuncId) (p u v q l : List Tentry) (a m b : Nat) (ha : a = p.length) (hm : m = p.length + u.length) (hb : b = m + v.length) (hu : 0 < u.length) (hv : 0 < v.length) (hl : l = p ++ (u ++ (v ++ q))) (hbd : l.length ≤ 1000000000) :
    XCall P 69 [B 0 l, .int .i64 a, .int .i64 m, .int .i64 b, .fn fid []] [RF 82 l 0] (fun r H' => r = .tup [] ∧ H' = [RF 82 (p ++ (v ++ (u ++ q))) 0]) := by
  refine xcall_of h.f69 rfl (by decide) h.mo (by kernel_rfl) fun X hX => ?_
  have hX1 : X.μ.length ≤ 1 := by simpa using hX
  have hll : l.length = p.length + u.length + v.length + q.length := by rw [hl]; simp only [List.length_append]; omega
  have hne : l ≠ [] := by rintro rfl; simp at hll; omega
  have w1 : IntKind.i64.wrap ((m : Int) - (a : Int)) = (u.length : Int) := by rw [i64_id (by omega) (by omega)]; omega
  have w2 : IntKind.i64.wrap ((b : Int) - (m : Int)) = (v.length : Int) := by rw [i64_id (by omega) (by omega)]; omega
  simp
  refine awp_loop (σ := (List Tentry × List Tentry) × (List Tentry × List Tentry) × Nat × Nat × List Tentry) (fun z => (⟨[B 0 l, .int .i64 a, .int .i64 m, .int .i64 b, .fn fid [], .any, .any, .any, .any, .any, .int .i64 z.2.2.1, .int .i64 z.2.2.2.1, .any, .any, .any, .any, .any, .any, .any, .any, .any, .any, .any, .any, .any, .any, .any, .any, .any, .any, .any, .any, .any, .any, .any, .any, .any, .any, .any, .any, .any, .any, .any, .any, .any, .any, .any, .any, .any, .any, .any, .any, .any, .any, .any, .any, .any, .any], [⟨82, Enc.sz Tentry, z.2.2.2.2.map Enc.enc, 0, true⟩]⟩ : S)) (fun z => z.2.2.1 = z.1.2.length ∧ z.2.2.2.1 = z.2.1.1.length ∧ 0 < z.2.2.1 ∧ 0 < z.2.2.2.1 ∧ z.2.2.2.2 = p ++ (z.1.1 ++ (z.1.2 ++ (z.2.1.1 ++ (z.2.1.2 ++ q)))) ∧ z.1.1 ++ (z.2.1.1 ++ (z.1.2 ++ z.2.1.2)) = v ++ u ∧ z.1.1.length + z.1.2.length = u.length) (fun z => z.2.2.1 + z.2.2.2.1) (([], u), (v, []), u.length, v.length, l) (Wk.ren 1 [0] hX1 rfl (by decide) (by simp [w1, w2]) (by simp) (by simp) (by simp [RF_ne hne])) ⟨rfl, rfl, hu, hv, by simp [hl], by simp, by simp⟩ ?_
  rintro ⟨⟨aa, u'⟩, ⟨v', bb⟩, i, j, M⟩ ⟨hi, hj, hi0, hj0, hM, hvu, hAu⟩
  simp only at hi hj hi0 hj0 hM hvu hAu
  refine vc_sound h.mo _ _ _ (by kernel_rfl) ?_
  have hlen := congrArg List.length hvu
  simp only [List.length_append] at hlen
  have hMl : M.length = l.length := by rw [hM]; simp only [List.length_append]; omega
  have hMne : M ≠ [] := by rintro rfl; simp at hMl; omega
  have hBM : B 0 l = B 0 M := B_len 0 hMl.symm
  obtain ⟨pa, hpa⟩ : ∃ pa, pa = (p ++ aa).length := ⟨_, rfl⟩
  have hpl : pa = p.length + aa.length := by rw [hpa, List.length_append]
  have w3 : IntKind.i64.wrap ((m : Int) - (i : Int)) = (pa : Int) := by rw [i64_id (by omega) (by omega)]; omega
  have hii : (0 : Int) < (i : Int) := by omega
  by_cases hij : i = j
  case pos =>
    have hsw := c_swapRN (P := P) fid (p ++ aa) u' [] v' (bb ++ q) M pa m i hpa (by simp only [List.length_append, List.length_nil]; omega) hi.symm (by omega) (by rw [hM]; simp only [List.append_assoc, List.nil_append]) hi0 (by omega)
    rw [← hBM, RF_ne hMne] at hsw
    have hres : p ++ aa ++ v' ++ ([] ++ (u' ++ (bb ++ q))) = p ++ (v ++ (u ++ q)) := by
      have := congrArg (fun z => p ++ (z ++ q)) hvu
      simp only [List.append_assoc, List.nil_append] at this ⊢
      exact this
    rw [hres] at hsw
    subst hij
    simp [w3]
    refine xcall_mono hsw ?_
    rintro _ _ ⟨rfl, rfl⟩
    simp
  case neg =>
    have hij' : ¬ (i : Int) = (j : Int) := by omega
    by_cases hgt : j < i
    · have hgti : (j : Int) < (i : Int) := by omega
      have hsw := c_swapRN (P := P) fid (p ++ aa) (u'.take j) (u'.drop j) v' (bb ++ q) M pa m j hpa (by simp only [List.length_append, List.length_take, List.length_drop]; omega) (by rw [List.length_take]; omega) hj.symm (by rw [hM]; simp only [List.append_assoc]; rw [← List.append_assoc (u'.take j), List.take_append_drop]) hj0 (by omega)
      rw [← hBM, RF_ne hMne] at hsw
      obtain ⟨M', hM'⟩ : ∃ M', M' = p ++ aa ++ v' ++ (u'.drop j ++ (u'.take j ++ (bb ++ q))) := ⟨_, rfl⟩
      have hM'l : M'.length = l.length := by rw [hM', ← hMl, hM]; simp only [List.length_append, List.length_take, List.length_drop]; omega
      have hM'ne : M' ≠ [] := by rintro rfl; simp at hM'l; omega
      rw [← hM', RF_ne hM'ne] at hsw
      obtain ⟨ij, hijj⟩ : ∃ ij, ij = i - j := ⟨_, rfl⟩
      have w4 : IntKind.i64.wrap ((i : Int) - (j : Int)) = (ij : Int) := by rw [i64_id (by omega) (by omega)]; omega
      simp [hij', hgti, w3, -Prod.exists]
      refine xcall_mono hsw ?_
      rintro _ _ ⟨rfl, rfl⟩
      simp [w4, -Prod.exists]
      refine ⟨((aa ++ v', u'.drop j), (u'.take j, bb), ij, j, M'), Wk.ren 1 [0] hX1 rfl (by decide) (by simp) (by simp) (by simp) (by simp), ⟨?_, ?_, ?_, hj0, ?_, ?_, ?_⟩, ?_⟩
      · simp only [List.length_drop]; omega
      · simp only [List.length_take]; omega
      · simp only; omega
      · simp only; rw [hM']; simp only [List.append_assoc]
      · simp only
        rw [← hvu]
        simp only [List.append_assoc]
        rw [← List.append_assoc (u'.take j), List.take_append_drop]
      · simp only [List.length_append, List.length_drop]; omega
      · simp only; omega
    · have hgti : ¬ (j : Int) < (i : Int) := by omega
      obtain ⟨ij, hijj⟩ : ∃ ij, ij = j - i := ⟨_, rfl⟩
      obtain ⟨mm, hmm⟩ : ∃ mm, mm = m + j - i := ⟨_, rfl⟩
      have hsw := c_swapRN (P := P) fid (p ++ aa) u' (v'.take ij) (v'.drop ij) (bb ++ q) M pa mm i hpa (by simp only [List.length_append, List.length_take]; omega) hi.symm (by rw [List.length_drop]; omega) (by rw [hM]; simp only [List.append_assoc]; rw [← List.append_assoc (v'.take ij), List.take_append_drop]) hi0 (by omega)
      rw [← hBM, RF_ne hMne] at hsw
      obtain ⟨M', hM'⟩ : ∃ M', M' = p ++ aa ++ v'.drop ij ++ (v'.take ij ++ (u' ++ (bb ++ q))) := ⟨_, rfl⟩
      have hM'l : M'.length = l.length := by rw [hM', ← hMl, hM]; simp only [List.length_append, List.length_take, List.length_drop]; omega
      have hM'ne : M' ≠ [] := by rintro rfl; simp at hM'l; omega
      rw [← hM', RF_ne hM'ne] at hsw
      have w4 : IntKind.i64.wrap ((j : Int) - (i : Int)) = (ij : Int) := by rw [i64_id (by omega) (by omega)]; omega
      have w5 : IntKind.i64.wrap ((m : Int) + (j : Int)) = (m : Int) + (j : Int) := i64_id (by omega) (by omega)
      have w6 : IntKind.i64.wrap ((m : Int) + (j : Int) - (i : Int)) = (mm : Int) := by rw [i64_id (by omega) (by omega)]; omega
      simp [hij', hgti, w3, w5, w6, -Prod.exists]
      refine xcall_mono hsw ?_
      rintro _ _ ⟨rfl, rfl⟩
      simp [w4, -Prod.exists]
      refine ⟨((aa, v'.drop ij), (v'.take ij, u' ++ bb), i, ij, M'), Wk.ren 1 [0] hX1 rfl (by decide) (by simp) (by simp) (by simp) (by simp), ⟨?_, ?_, hi0, ?_, ?_, ?_, ?_⟩, ?_⟩
      · simp only [List.length_drop]; omega
      · simp only [List.length_take]; omega
      · simp only; omega
      · simp only; rw [hM']; simp only [List.append_assoc]
      · simp only
        rw [← hvu]
        rw [← List.append_assoc (v'.take ij), List.take_append_drop]
      · simp only [List.length_drop]; omega
      · simp only; omega

end Go.Proofs.Ytacfckmhnnhllaa
