/- Chapter 41: the library's stable sort, its small parts, at this program's types, over any program that has the text. -/
import Derived.Test.YtacfckmhnnhllaaQ2
import Derived.Test.YtacfckmhnnhllaaE7
namespace Go.Proofs.Ytacfckmhnnhllaa
open Go.AL
variable {P : Program} [h : Facts P]

set_option maxHeartbeats 1000000 in
theorem c_swapRR (fid : FuncId) (p u w v q l : List TRec) (a b n : Nat) (ha : a = p.length) (hb : b = p.length + u.length + w.length) (hu : u.length = n) (hv : v.length = n) (hl : l = p ++ u ++ (w ++ (v ++ q))) (hn : 0 < n) (hbd : l.length ≤ 1000000000) :
    XCall P 68 [B 0 l, .int .i64 a, .int .i64 b, .int .i64 n, .fn fid []] [RF 47 l 0] (fun r H' => r = .tup [] ∧ H' = [RF 47 (p ++ v ++ (w ++ (u ++ q))) 0]) := by
  refine xcall_ofB [3] h.f68 rfl (by decide) h.mo (by kernel_rfl) fun X hX => ?_
  have hX1 : X.μ.length ≤ 1 := by simpa using hX
  have hll : l.length = p.length + u.length + w.length + v.length + q.length := by rw [hl]; simp only [List.length_append]; omega
  have hne : l ≠ [] := by rintro rfl; simp at hll; omega
  have hem : l.isEmpty = false := by cases l with | nil => exact (hne rfl).elim | cons _ _ => rfl
  have hfin : p ++ v ++ (w ++ (u ++ q)) ≠ [] := by intro e; have := congrArg List.length e; simp only [List.length_append, List.length_nil] at this; omega
  have hse := swR_end (p := p) (w := w) (q := q) hu hv
  generalize p ++ v ++ (w ++ (u ++ q)) = fin at *
  simp
  refine awp_loop (σ := Nat × List TRec) (fun z => (⟨[B 0 l, .int .i64 a, .int .i64 b, .int .i64 n, .any, .any, .any, .any, .any, .any, .int .i64 z.1, .any, .any, .any, .any, .any, .any, .any, .any, .any, .any, .any, .any, .any, .any, .any, .any, .any, .any, .any, .any, .any, .any, .any, .any, .any, .any, .any], [⟨47, Enc.sz TRec, z.2.map Enc.enc, 0, true⟩]⟩ : S)) (fun z => z.1 ≤ n ∧ z.2 = swR p u w v q z.1) (fun z => n - z.1) (0, l) (Wk.ren 1 [0] hX1 rfl (by decide) (by simp) (by simp) (by simp) (by simp [RF_ne hne])) ⟨by simp, by rw [swR_zero, hl]⟩ ?_
  rintro ⟨k, m⟩ ⟨hk, hm⟩
  simp only at hk hm
  refine vcB_sound [3] h.mo _ _ _ (by kernel_rfl) ?_
  have hml : m.length = l.length := by rw [hm, swR_len (by omega) (by omega), hll]
  rcases Nat.lt_or_ge k n with hlt | hge
  · have hk1 := wrap_succ hlt (by omega)
    have hku : k < u.length := by omega
    have hkv : k < v.length := by omega
    have hi : a + k < m.length := by omega
    have hj : b + k < m.length := by omega
    have hil : a + k < l.length := by omega
    have hjl : b + k < l.length := by omega
    have g1 : m[a + k] = u[k] := by rw [List.getElem_of_eq hm]; exact swR_get1 hku hkv (by omega) _
    have g2 : m[b + k] = v[k] := by rw [List.getElem_of_eq hm]; exact swR_get2 hku hkv (by omega) _
    have hst := swR_step (p := p) (w := w) (q := q) (i := a + k) (j := b + k) hku hkv (by omega) (by omega)
    rw [← hm] at hst
    obtain ⟨m', hm'⟩ : ∃ m', m' = swR p u w v q (k + 1) := ⟨_, rfl⟩
    rw [← hm'] at hst
    have w1 : IntKind.i64.wrap ((a : Int) + (k : Int)) = ((a + k : Nat) : Int) := by rw [i64_id (by omega) (by omega)]; omega
    have w2 : IntKind.i64.wrap ((b : Int) + (k : Int)) = ((b + k : Nat) : Int) := by rw [i64_id (by omega) (by omega)]; omega
    generalize a + k = i at *
    generalize b + k = j at *
    have hkn : (k : Int) < (n : Int) := by omega
    have e : ((m.map Enc.enc).set i (Enc.enc v[k])).set j (Enc.enc u[k]) = m'.map Enc.enc := by rw [← hst, List.map_set, List.map_set]
    simp at e
    simp [hkn, -Prod.exists]
    refine awp_tree (.take 0 (.take 1 (.take 2 (.take 3 (.take 4 (.take 5 (.take 6 (.take 7 (.take 8 (.take 9 (.take 10 (.take 11 (.take 12 (.take 14 (.take 15 (.take 16 (.take 17 (.take 18 (.alt 13 (.alt 19 (.take 20 (.alt 21 (.take 22 (.alt 23 .done .stop)) .stop)) .stop) (.alt 19 (.alt 13 (.take 20 (.alt 21 (.take 22 (.alt 23 .done .stop)) .stop)) .stop) .stop)))))))))))))))))))) _ h.mo (by kernel_rfl) (by decide) (by kernel_rfl) (by rfl) ?_
    simp [w1, w2, hil, hjl, hml, g1, g2, -Prod.exists]
    exact ⟨(k + 1, m'), Wk.ren 1 [0] hX1 rfl (by decide) (by simp [hk1]) (by simp) (by simp) (by simp [e]), ⟨by omega, hm'⟩, by simp only; omega⟩
  · have hkn : k = n := by omega
    subst hkn
    rw [hse] at hm
    subst hm
    simp [RF_ne hfin]

end Go.Proofs.Ytacfckmhnnhllaa
