/- Chapter 35: the law NetOrder, over any program that has the text. -/
import Derived.Test.YtnnpahcanpakcaaM2
namespace Go.Proofs.Ytnnpahcanpakcaa
open Go.AL
variable {P : Program} [h : Facts P]

theorem c_New2 (l : List Int) (hl : l.length ≤ 9223372036854775807) : FCall P 10 [Ls false l] (fun r => r = .tup [.agg (newN l).cells, .int .i64 (dlyE l)]) := by
  refine fcall_of h.f10 rfl (by decide) h.mo (by kernel_rfl) fun X hX => ?_
  simp
  refine xcall_fn (c_delays l hl) (by simp) ?_
  by_cases h0 : dlyE l = 0
  · have h1 := (dlyE_zero h0).2.1
    simp [h0, newN]
    refine xcall_mono (c_Clone l (by omega) _) ?_
    rintro _ _ ⟨rfl, rfl⟩
    simp
  · simp [h0, newN, zeroN]
theorem len16 {l : List Int} (h : l.length = 16) : ∃ a0 a1 a2 a3 a4 a5 a6 a7 a8 a9 a10 a11 a12 a13 a14 a15, l = [a0, a1, a2, a3, a4, a5, a6, a7, a8, a9, a10, a11, a12, a13, a14, a15] := by
  match l, h with
  | [a0, a1, a2, a3, a4, a5, a6, a7, a8, a9, a10, a11, a12, a13, a14, a15], _ => exact ⟨a0, a1, a2, a3, a4, a5, a6, a7, a8, a9, a10, a11, a12, a13, a14, a15, rfl⟩

set_option maxHeartbeats 8000000 in
set_option maxRecDepth 20000 in
theorem c_NetOrder (l : List Int) (ops : List TOp) (hl : l.length ≤ 9223372036854775807) (ho : ops.length ≤ 9223372036854775807) : FCall P 7 [Ls false l, Ls false ops] (fun r => r = .bool true) := by
  refine fcall_ofB [17] h.f7 rfl (by decide) h.mo (by kernel_rfl) fun X hX => ?_
  simp
  refine xcall_fn (c_New2 l hl) (by simp) ?_
  by_cases h0 : dlyE l = 0
  case neg =>
    simp [h0]
    refine xcall_fn c_awake (by simp) ?_
    simp
  by_cases h1 : ops.length ≤ 60
  case neg =>
    have h2 : (60 : Int) < ops.length := by omega
    have h3 : ¬ (ops.length : Int) ≤ 60 := by omega
    simp [h0, h2, h3]
    refine xcall_fn c_awake (by simp) ?_
    simp
  have h2 : ¬ (60 : Int) < ops.length := by omega
  have h3 : (ops.length : Int) ≤ 60 := by omega
  have hN : newN l = ⟨l, 0, []⟩ := by rw [newN, if_pos h0]
  have hz : netE ⟨l, 0, []⟩ = 0 := netE_iff.2 ⟨h0, by simp [wiB], by simp, Ord_nil⟩
  have hw : IntKind.i64.wrap ((ops.length : Int) + 240) = ((ops.length + 240 : Nat) : Int) := by rw [i64_id (by omega) (by omega)]; omega
  simp [h0, h2, h3, hN]
  refine awp_loop (σ := Nat × TNet × Int × Int × List Int × List Int) (fun z => (⟨[.any, Ls false ops, .any, .any, .any, .pto 0 3 0 0, .any, .int .i64 z.2.2.1, .int .i64 z.2.2.2.1, .pto 1 16 0 0, .pto 2 16 0 0, .int .i64 z.1, .any, .any, .any, .any, .any, .any, .any, .any, .any, .any, .any, .any, .any, .any, .any, .any, .any, .any, .any, .any, .any, .any, .any, .any, .any, .any, .any, .any, .any, .any, .any, .any, .any, .any, .any, .any, .any, .any, .any, .any, .any, .any, .any, .any, .any, .any, .any, .any, .any, .any, .any, .any, .any, .any, .any, .any, .any, .any, .any, .any, .any, .any, .any, .any, .any, .any, .any, .any, .any, .any, .any, .any, .any, .any, .any, .any, .any, .any, .any, .any, .any, .any, .any, .any, .any, .any, .any, .any, .any, .any, .any, .any, .any, .any, .any, .any, .any, .any, .any, .any, .any, .any, .any, .any, .any, .any, .any, .any, .any, .any, .any, .any, .any, .any, .any, .any, .any, .any, .any, .any, .any, .any, .any, .any, .any, .any, .any, .any, .any, .any, .any, .any, .any, .any, .any, .any, .any, .any, .any, .any, .any, .any, .any, .any, .any, .any, .any, .any, .any, .any, .any, .any, .any, .any, .any, .any, .any, .any, .any, .any, .any, .any, .any, .any, .any, .any, .any, .any, .any, .any, .any, .any, .any, .any, .any, .any, .any, .any, .any, .any, .any, .any, .any, .any, .any, .any, .any, .any, .any, .any, .any, .any, .any], [⟨25, 3, [.agg z.2.1.cells], 0, true⟩, ⟨49, 16, [.agg (z.2.2.2.2.1.map Enc.enc)], 0, true⟩, ⟨49, 16, [.agg (z.2.2.2.2.2.map Enc.enc)], 0, true⟩]⟩ : S)) (fun z => z.1 ≤ ops.length + 240 ∧ Inv z.2.1 z.1 z.2.2.1 z.2.2.2.1 z.2.2.2.2.1 z.2.2.2.2.2 ∧ Late ops.length z.1 z.2.2.1 z.2.1.fMsgs) (fun z => ops.length + 240 - z.1) (0, ⟨l, 0, []⟩, 0, 0, zerosI 16, zerosI 16) (Wk.ren 0 [0, 1, 2] hX rfl (by decide) (by simp) (by simp) (by simp) (by simp)) ⟨by simp, Inv.start hz rfl rfl, by intro _ m hm; simp at hm⟩ ?_
  rintro ⟨i, n, r, s, got, count⟩ ⟨hi, hI, hL⟩
  simp only at hi hI hL
  refine vcB_sound [17] h.mo _ _ _ (by kernel_rfl) ?_
  have hd := (dlyE_zero (netE_iff.1 hI.ok).1).2.1
  have hfit : fitN n := ⟨by omega, by have := hI.few; omega, fun x hx => by obtain ⟨_, _, _, _, q⟩ := hI.ms x hx; rw [q]; simp⟩
  have hrem : (i : Int).tmod 4 = ((i % 4 : Nat) : Int) := by rw [Int.tmod_eq_emod_of_nonneg (by omega)]; rfl
  rcases Nat.lt_or_ge i (ops.length + 240) with hi | hge
  · have hr0 := hI.r0
    have hri := hI.ri
    have hwr : IntKind.i64.wrap (r + 1) = r + 1 := i64_id (by omega) (by omega)
    have hi' : (i : Int) < (ops.length : Int) + 240 := by omega
    rcases Nat.lt_or_ge i ops.length with hlt | hgeN
    · obtain ⟨o, hoi⟩ : ∃ o, ops[i] = o := ⟨_, rfl⟩
      by_cases b1 : o.fFrom < 0
      · have b1' : ¬ 0 ≤ o.fFrom := by omega
        simp (config := {maxSteps := 4000000}) [hw, hi', hlt, hoi, hrem, b1, b1']
        refine xcall_fn c_awake (by simp) ?_
        simp
      by_cases b2 : 3 < o.fFrom
      · have b2' : ¬ o.fFrom ≤ 3 := by omega
        simp (config := {maxSteps := 4000000}) [hw, hi', hlt, hoi, hrem, b1, b2, b2']
        refine xcall_fn c_awake (by simp) ?_
        simp
      by_cases b3 : o.fTo < 0
      · have b3' : ¬ 0 ≤ o.fTo := by omega
        simp (config := {maxSteps := 4000000}) [hw, hi', hlt, hoi, hrem, b1, b2, b3, b3']
        refine xcall_fn c_awake (by simp) ?_
        simp
      by_cases b4 : 3 < o.fTo
      · have b4' : ¬ o.fTo ≤ 3 := by omega
        simp (config := {maxSteps := 4000000}) [hw, hi', hlt, hoi, hrem, b1, b2, b3, b4, b4']
        refine xcall_fn c_awake (by simp) ?_
        simp
      have b1' : 0 ≤ o.fFrom := by omega
      have b2' : o.fFrom ≤ 3 := by omega
      have b3' : 0 ≤ o.fTo := by omega
      have b4' : o.fTo ≤ 3 := by omega
      obtain ⟨sd, nr, fr, to⟩ := o
      simp only at b1 b2 b3 b4 b1' b2' b3' b4'
      cases sd
      · have hm : ∀ m ∈ n.fMsgs.filter (fun m => !hereB (r + 1) to m), MOK (r + 1) m := fun m hm => hI.next.ms m (List.mem_filter.1 hm).1
        have hLate : Late ops.length (i + 1) (r + 1) (n.fMsgs.filter fun m => !hereB (r + 1) to m) := Late.ahead (by omega) hm
        simp (config := {maxSteps := 4000000}) [hw, hi', hlt, hoi, hrem, hwr, b1, b2, b3, b4, b1', b2', b3', b4']
        refine xcall_fn (c_Arrive n (r + 1) to hfit) (by simp) ?_
        rw [show arrH n (r + 1) to = n.fMsgs.filter (hereB (r + 1) to) by rw [arrH, if_pos hI.ok], show arrN n (r + 1) to = ⟨n.fDelays, n.fUsed, n.fMsgs.filter fun m => !hereB (r + 1) to m⟩ by rw [arrN, if_pos hI.ok]]
        have hP := hI.next.part (r + 1) to
        have hLt : Late ops.length (i + 1) (r + 1) (n.fMsgs.filter fun m => !hereB (r + 1) to m) := hLate
        have hall : ∀ m ∈ n.fMsgs.filter (hereB (r + 1) to), m.fTo = to := fun m hm => by
          have := (List.mem_filter.1 hm).2
          simp [hereB] at this
          exact this.1
        generalize n.fMsgs.filter (hereB (r + 1) to) = L1 at hP hall
        generalize (n.fMsgs.filter fun m => !hereB (r + 1) to m) = L2 at hP hLt
        simp
        have hL1 : L1.length ≤ i + 1 := by have := hP.few; simp only [List.length_append] at this; omega
        refine awp_loop (σ := Nat × Int × List Int) (fun z => (⟨[.any, Ls false ops, .any, .any, .any, .pto 0 3 0 0, .any, .int .i64 (r + 1), .int .i64 z.2.1, .pto 1 16 0 0, .pto 2 16 0 0, .int .i64 i, .pto 3 4 0 0, .any, .any, .any, Ls false L1, .any, .int .i64 z.1, .any, .any, .any, .any, .any, .any, .any, .any, .any, .any, .any, .any, .any, .any, .any, .any, .any, .any, .any, .any, .any, .any, .any, .any, .any, .any, .any, .any, .any, .any, .any, .any, .any, .any, .any, .any, .any, .any, .any, .any, .any, .any, .any, .any, .any, .any, .any, .any, .any, .any, .any, .any, .any, .any, .any, .any, .any, .any, .any, .any, .any, .any, .any, .any, .any, .any, .any, .any, .any, .any, .any, .any, .any, .any, .any, .any, .any, .any, .any, .any, .any, .any, .any, .any, .any, .any, .any, .any, .any, .any, .any, .any, .any, .any, .any, .any, .any, .any, .any, .any, .any, .any, .any, .any, .any, .any, .any, .any, .any, .any, .any, .any, .any, .any, .any, .any, .any, .any, .any, .any, .any, .any, .any, .any, .any, .any, .any, .any, .any, .any, .any, .any, .any, .any, .any, .any, .any, .any, .any, .any, .any, .any, .any, .any, .any, .any, .any, .any, .any, .any, .any, .any, .any, .any, .any, .any, .any, .any, .any, .any, .any, .any, .any, .any, .any, .any, .any, .any, .any, .any, .any, .any, .any, .any, .any, .any, .any, .any, .any, .any, .any, .any, .any, .any, .any, .any], [⟨25, 3, [.agg [Ls false n.fDelays, .int .i64 n.fUsed, Ls false L2]], 0, true⟩, ⟨49, 16, [.agg (z.2.2.map Enc.enc)], 0, true⟩, ⟨49, 16, [.agg (count.map Enc.enc)], 0, true⟩, ⟨51, 4, [.agg (⟨false, nr, fr, to⟩ : TOp).cells], 0, true⟩]⟩ : S)) (fun z => z.1 ≤ L1.length ∧ Inv ⟨n.fDelays, n.fUsed, L1.drop z.1 ++ L2⟩ (i + 1) (r + 1) z.2.1 z.2.2 count) (fun z => L1.length - z.1) (0, s, got) (Wk.ren 0 [0, 1, 2, 3] hX rfl (by decide) (by simp) (by simp) (by simp) (by simp)) ⟨by simp, by simpa using hP⟩ ?_
        rintro ⟨j, s', got'⟩ ⟨hj, hJ⟩
        simp only at hj hJ
        refine vcB_sound [17] h.mo _ _ _ (by kernel_rfl) ?_
        rcases Nat.lt_or_ge j L1.length with hlj | hgj
        · have hj1 := wrap_succ hlj (by omega)
          have hto := hall _ (List.getElem_mem hlj)
          rw [List.drop_eq_getElem_cons hlj, List.cons_append] at hJ
          obtain ⟨m, hmj⟩ : ∃ m, L1[j] = m := ⟨_, rfl⟩
          rw [hmj] at hJ hto
          obtain ⟨m1, m2, ⟨m3, m3'⟩, ⟨m4, m4'⟩, m5⟩ := hJ.ms m (by simp)
          have hri := hJ.ri
          have hgl := hJ.gl
          have hs1 := hJ.sent
          have hf1 := hJ.few
          simp only [List.length_cons] at hs1 hf1
          obtain ⟨a, b, ha, hb, e1, e2, hget, k0, k1, k2, hJ'⟩ := hJ.take
          have v1 : IntKind.i64.wrap (m.fEvent.fTime + 1) = m.fEvent.fTime + 1 := i64_id (by omega) (by omega)
          have v2 : IntKind.i64.wrap (m.fEvent.fTime + 51) = m.fEvent.fTime + 51 := i64_id (by omega) (by omega)
          have p2 : ¬ 3 < a := by omega
          have p2' : (a : Int) ≤ 3 := by omega
          have p2i : ¬ (3 : Int) < a := by omega
          have p3 : ¬ m.fArrive < m.fEvent.fTime + 1 := by omega
          have p3' : m.fEvent.fTime + 1 ≤ m.fArrive := by omega
          have p4 : ¬ m.fEvent.fTime + 51 < m.fArrive := by omega
          have p4' : m.fArrive ≤ m.fEvent.fTime + 51 := by omega
          have htb : ((b : Int) = to) = True := eq_true (e2.symm.trans hto)
          have v3 : IntKind.i64.wrap (4 * (a : Int)) = 4 * (a : Int) := i64_id (by omega) (by omega)
          have v5 : IntKind.i64.wrap (m.fEvent.fSeq + 1) = m.fEvent.fSeq + 1 := i64_id (by omega) (by omega)
          have v6 : IntKind.i64.wrap (s' - 1) = s' - 1 := i64_id (by omega) (by omega)
          obtain ⟨c, hc⟩ : ∃ c : Nat, 4 * a + b = c := ⟨_, rfl⟩
          have v4 : IntKind.i64.wrap (4 * (a : Int) + b) = (c : Int) := by rw [i64_id (by omega) (by omega)]; omega
          have hc16 : c < 16 := by omega
          rw [hc] at hget hJ'
          have hcL : c < got'.length := by omega
          have hcL' : c + 1 ≤ got'.length := by omega
          have hset : got'.set c (m.fEvent.fSeq + 1) = got'.take c ++ (m.fEvent.fSeq + 1) :: got'.drop (c + 1) := List.set_eq_take_append_cons_drop .. |>.trans (by rw [if_pos hcL])
          simp (config := {maxSteps := 4000000}) [hlj, hmj, e1, e2, htb, p2, p2', p2i, v1, v2, p3, p3', p4, p4', v3, v4, hget, hc16, hcL', v5, v6]
          exact ⟨j + 1, s' - 1, got'.set c (m.fEvent.fSeq + 1), Wk.ren 0 [0, 1, 2, 3] hX rfl (by decide) (by simp [hj1]) (by simp) (by simp) (by simp [hset]), ⟨by omega, hJ'⟩, by omega⟩
        · have hje : j = L1.length := by omega
          subst hje
          have w9 := wrap_succ hi (by omega)
          rw [List.drop_length, List.nil_append] at hJ
          simp
          exact ⟨i + 1, ⟨n.fDelays, n.fUsed, L2⟩, r + 1, s', got', count, Wk.ren 0 [0, 1, 2] hX rfl (by decide) (by simp [w9]) (by simp) (by simp) (by simp), ⟨by omega, hJ, hLt⟩, by omega⟩

      · obtain ⟨a, ha, ha3⟩ := wi3 ⟨b1', b2'⟩
        obtain ⟨b, hb, hb3⟩ := wi3 ⟨b3', b4'⟩
        subst ha hb
        obtain ⟨q, hq, q0, qi, hsend⟩ := hI.send (by omega) ha3 hb3 nr
        obtain ⟨m0, hm0⟩ : ∃ m0 : TMsg, m0 = ⟨(a : Int), (b : Int), 0, ⟨r, 0, 0, q, 0, 0, 0, 0, []⟩, false, false, 0⟩ := ⟨_, rfl⟩
        obtain ⟨hz2, hlen, hI'⟩ := hsend m0 (by rw [hm0]) (by rw [hm0]) (by rw [hm0]) (by rw [hm0]) (by rw [hm0])
        have hS := c_Send (P := P) n m0 r nr hfit
        rw [hz2] at hS
        have hL' : Late ops.length (i + 1) r (sendN n m0 r nr).fMsgs := Late.ahead (by omega) hI'.ms
        generalize sendN n m0 r nr = n2 at hlen hI' hL' hS
        subst hm0
        have hfew := hI.few
        have hlen2 : (n2.fMsgs.length : Int) = (n.fMsgs.length : Int) + 1 := by omega
        have v0 : IntKind.i64.wrap ((n.fMsgs.length : Int) + 1) = (n.fMsgs.length : Int) + 1 := i64_id (by omega) (by omega)
        have v1 : IntKind.i64.wrap (s + 1) = s + 1 := i64_id (by have := hI.sent; omega) (by have := hI.sent; omega)
        have v3 : IntKind.i64.wrap (4 * (a : Int)) = 4 * (a : Int) := i64_id (by omega) (by omega)
        have v5 : IntKind.i64.wrap (q + 1) = q + 1 := i64_id (by omega) (by omega)
        obtain ⟨c, hc⟩ : ∃ c : Nat, 4 * a + b = c := ⟨_, rfl⟩
        have v4 : IntKind.i64.wrap (4 * (a : Int) + b) = (c : Int) := by rw [i64_id (by omega) (by omega)]; omega
        have hc16 : c < 16 := by omega
        rw [hc] at hq hI'
        have hcl := hI.cl
        have hcL : c < count.length := by omega
        have hcL' : c + 1 ≤ count.length := by omega
        have hset : count.set c (q + 1) = count.take c ++ (q + 1) :: count.drop (c + 1) := List.set_eq_take_append_cons_drop .. |>.trans (by rw [if_pos hcL])
        have w9 := wrap_succ hi (by omega)
        have a2 : ¬ 3 < a := by omega
        have a3 : ¬ 3 < b := by omega
        simp (config := {maxSteps := 4000000}) [hw, hi', hlt, hoi, hrem, b1, b2, b3, b4, b1', b2', b3', b4', a2, a3, v3, v4]
        refine awp_fz 3 (by rfl) (by simp) ?_
        simp
        refine awp_tree (.take 1 (.take 2 (.take 3 (.take 4 (.take 5 (.take 6 (.take 7 (.take 11 (.take 12 (.take 13 (.alt 0 (.alt 8 (.take 9 (.take 10 (.alt 14 (.take 15 (.take 16 (.take 17 (.alt 18 (.alt 19 (.take 20 .done) .stop) .stop)))) (.alt 18 (.alt 14 (.take 15 (.take 16 (.take 17 (.alt 19 (.take 20 .done) .stop)))) .stop) .stop)))) (.alt 18 (.alt 8 (.take 9 (.take 10 (.alt 14 (.take 15 (.take 16 (.take 17 (.alt 19 (.take 20 .done) .stop)))) .stop))) .stop) .stop)) (.alt 8 (.take 9 (.take 10 (.alt 0 (.alt 14 (.take 15 (.take 16 (.take 17 (.alt 18 (.alt 19 (.take 20 .done) .stop) .stop)))) (.alt 18 (.alt 14 (.take 15 (.take 16 (.take 17 (.alt 19 (.take 20 .done) .stop)))) .stop) .stop)) (.alt 18 (.alt 0 (.alt 14 (.take 15 (.take 16 (.take 17 (.alt 19 (.take 20 .done) .stop)))) .stop) .stop) .stop)))) (.alt 18 (.alt 0 (.alt 8 (.take 9 (.take 10 (.alt 14 (.take 15 (.take 16 (.take 17 (.alt 19 (.take 20 .done) .stop)))) .stop))) .stop) (.alt 8 (.take 9 (.take 10 (.alt 0 (.alt 14 (.take 15 (.take 16 (.take 17 (.alt 19 (.take 20 .done) .stop)))) .stop) .stop))) .stop)) .stop))))))))))))) _ h.mo (by kernel_rfl) (by decide) (by kernel_rfl) (by rfl) ?_
        simp [hq, hc16, hcL']
        repeat' (with_reducible apply And.intro)
        all_goals
          refine xcall_fn hS (by simp) ?_
          simp (config := {maxSteps := 4000000}) [hlen2, v0, v1, hq, v5, hc16, hcL']
          exact ⟨i + 1, n2, r, s + 1, got, count.set c (q + 1), Wk.ren 0 [0, 1, 2] hX rfl (by decide) (by simp [w9]) (by simp) (by simp) (by simp [hset]), ⟨by omega, hI', hL'⟩, by omega⟩
    · have hltN : ¬ i < ops.length := by omega
      have hm4 : ((i % 4 : Nat) : Int) ≤ 3 := by omega
      have hm4' : ¬ (3 : Int) < ((i % 4 : Nat) : Int) := by omega
      have hm0 : ¬ ((i % 4 : Nat) : Int) < 0 := by omega
      generalize hto : ((i % 4 : Nat) : Int) = to at hrem hm4 hm4' hm0
      simp [hw, hi', hltN, hrem, hm4, hm4', hm0, hwr]
      have hLate : Late ops.length (i + 1) (r + 1) (n.fMsgs.filter fun m => !hereB (r + 1) to m) := by
        rw [← hto]
        exact hL.next hgeN hI.ms
      refine xcall_fn (c_Arrive n (r + 1) to hfit) (by simp) ?_
      rw [show arrH n (r + 1) to = n.fMsgs.filter (hereB (r + 1) to) by rw [arrH, if_pos hI.ok], show arrN n (r + 1) to = ⟨n.fDelays, n.fUsed, n.fMsgs.filter fun m => !hereB (r + 1) to m⟩ by rw [arrN, if_pos hI.ok]]
      have hP := hI.next.part (r + 1) to
      have hLt : Late ops.length (i + 1) (r + 1) (n.fMsgs.filter fun m => !hereB (r + 1) to m) := hLate
      have hall : ∀ m ∈ n.fMsgs.filter (hereB (r + 1) to), m.fTo = to := fun m hm => by
        have := (List.mem_filter.1 hm).2
        simp [hereB] at this
        exact this.1
      generalize n.fMsgs.filter (hereB (r + 1) to) = L1 at hP hall
      generalize (n.fMsgs.filter fun m => !hereB (r + 1) to m) = L2 at hP hLt
      simp
      have hL1 : L1.length ≤ i + 1 := by have := hP.few; simp only [List.length_append] at this; omega
      refine awp_loop (σ := Nat × Int × List Int) (fun z => (⟨[.any, Ls false ops, .any, .any, .any, .pto 0 3 0 0, .any, .int .i64 (r + 1), .int .i64 z.2.1, .pto 1 16 0 0, .pto 2 16 0 0, .int .i64 i, .pto 3 4 0 0, .any, .any, .any, Ls false L1, .any, .int .i64 z.1, .any, .any, .any, .any, .any, .any, .any, .any, .any, .any, .any, .any, .any, .any, .any, .any, .any, .any, .any, .any, .any, .any, .any, .any, .any, .any, .any, .any, .any, .any, .any, .any, .any, .any, .any, .any, .any, .any, .any, .any, .any, .any, .any, .any, .any, .any, .any, .any, .any, .any, .any, .any, .any, .any, .any, .any, .any, .any, .any, .any, .any, .any, .any, .any, .any, .any, .any, .any, .any, .any, .any, .any, .any, .any, .any, .any, .any, .any, .any, .any, .any, .any, .any, .any, .any, .any, .any, .any, .any, .any, .any, .any, .any, .any, .any, .any, .any, .any, .any, .any, .any, .any, .any, .any, .any, .any, .any, .any, .any, .any, .any, .any, .any, .any, .any, .any, .any, .any, .any, .any, .any, .any, .any, .any, .any, .any, .any, .any, .any, .any, .any, .any, .any, .any, .any, .any, .any, .any, .any, .any, .any, .any, .any, .any, .any, .any, .any, .any, .any, .any, .any, .any, .any, .any, .any, .any, .any, .any, .any, .any, .any, .any, .any, .any, .any, .any, .any, .any, .any, .any, .any, .any, .any, .any, .any, .any, .any, .any, .any, .any, .any, .any, .any, .any, .any, .any], [⟨25, 3, [.agg [Ls false n.fDelays, .int .i64 n.fUsed, Ls false L2]], 0, true⟩, ⟨49, 16, [.agg (z.2.2.map Enc.enc)], 0, true⟩, ⟨49, 16, [.agg (count.map Enc.enc)], 0, true⟩, ⟨51, 4, [.agg (⟨false, false, 0, to⟩ : TOp).cells], 0, true⟩]⟩ : S)) (fun z => z.1 ≤ L1.length ∧ Inv ⟨n.fDelays, n.fUsed, L1.drop z.1 ++ L2⟩ (i + 1) (r + 1) z.2.1 z.2.2 count) (fun z => L1.length - z.1) (0, s, got) (Wk.ren 0 [0, 1, 2, 3] hX rfl (by decide) (by simp) (by simp) (by simp) (by simp)) ⟨by simp, by simpa using hP⟩ ?_
      rintro ⟨j, s', got'⟩ ⟨hj, hJ⟩
      simp only at hj hJ
      refine vcB_sound [17] h.mo _ _ _ (by kernel_rfl) ?_
      rcases Nat.lt_or_ge j L1.length with hlj | hgj
      · have hj1 := wrap_succ hlj (by omega)
        have hto := hall _ (List.getElem_mem hlj)
        rw [List.drop_eq_getElem_cons hlj, List.cons_append] at hJ
        obtain ⟨m, hmj⟩ : ∃ m, L1[j] = m := ⟨_, rfl⟩
        rw [hmj] at hJ hto
        obtain ⟨m1, m2, ⟨m3, m3'⟩, ⟨m4, m4'⟩, m5⟩ := hJ.ms m (by simp)
        have hri := hJ.ri
        have hgl := hJ.gl
        have hs1 := hJ.sent
        have hf1 := hJ.few
        simp only [List.length_cons] at hs1 hf1
        obtain ⟨a, b, ha, hb, e1, e2, hget, k0, k1, k2, hJ'⟩ := hJ.take
        have v1 : IntKind.i64.wrap (m.fEvent.fTime + 1) = m.fEvent.fTime + 1 := i64_id (by omega) (by omega)
        have v2 : IntKind.i64.wrap (m.fEvent.fTime + 51) = m.fEvent.fTime + 51 := i64_id (by omega) (by omega)
        have p2 : ¬ 3 < a := by omega
        have p2' : (a : Int) ≤ 3 := by omega
        have p2i : ¬ (3 : Int) < a := by omega
        have p3 : ¬ m.fArrive < m.fEvent.fTime + 1 := by omega
        have p3' : m.fEvent.fTime + 1 ≤ m.fArrive := by omega
        have p4 : ¬ m.fEvent.fTime + 51 < m.fArrive := by omega
        have p4' : m.fArrive ≤ m.fEvent.fTime + 51 := by omega
        have htb : ((b : Int) = to) = True := eq_true (e2.symm.trans hto)
        have v3 : IntKind.i64.wrap (4 * (a : Int)) = 4 * (a : Int) := i64_id (by omega) (by omega)
        have v5 : IntKind.i64.wrap (m.fEvent.fSeq + 1) = m.fEvent.fSeq + 1 := i64_id (by omega) (by omega)
        have v6 : IntKind.i64.wrap (s' - 1) = s' - 1 := i64_id (by omega) (by omega)
        obtain ⟨c, hc⟩ : ∃ c : Nat, 4 * a + b = c := ⟨_, rfl⟩
        have v4 : IntKind.i64.wrap (4 * (a : Int) + b) = (c : Int) := by rw [i64_id (by omega) (by omega)]; omega
        have hc16 : c < 16 := by omega
        rw [hc] at hget hJ'
        have hcL : c < got'.length := by omega
        have hcL' : c + 1 ≤ got'.length := by omega
        have hset : got'.set c (m.fEvent.fSeq + 1) = got'.take c ++ (m.fEvent.fSeq + 1) :: got'.drop (c + 1) := List.set_eq_take_append_cons_drop .. |>.trans (by rw [if_pos hcL])
        simp (config := {maxSteps := 4000000}) [hlj, hmj, e1, e2, htb, p2, p2', p2i, v1, v2, p3, p3', p4, p4', v3, v4, hget, hc16, hcL', v5, v6]
        exact ⟨j + 1, s' - 1, got'.set c (m.fEvent.fSeq + 1), Wk.ren 0 [0, 1, 2, 3] hX rfl (by decide) (by simp [hj1]) (by simp) (by simp) (by simp [hset]), ⟨by omega, hJ'⟩, by omega⟩
      · have hje : j = L1.length := by omega
        subst hje
        have w9 := wrap_succ hi (by omega)
        rw [List.drop_length, List.nil_append] at hJ
        simp
        exact ⟨i + 1, ⟨n.fDelays, n.fUsed, L2⟩, r + 1, s', got', count, Wk.ren 0 [0, 1, 2] hX rfl (by decide) (by simp [w9]) (by simp) (by simp) (by simp), ⟨by omega, hJ, hLt⟩, by omega⟩

  · have hie : i = ops.length + 240 := by omega
    subst hie
    have hni : ¬ ((ops.length + 240 : Nat) : Int) < ((ops.length + 240 : Nat) : Int) := by omega
    have hem := hL.empty hI.ms
    obtain ⟨rfl, hs0⟩ := hI.done hem
    obtain ⟨a0, a1, a2, a3, a4, a5, a6, a7, a8, a9, a10, a11, a12, a13, a14, a15, rfl⟩ := len16 hI.gl
    have hid : idleB n = true := by rw [idle_eq]; simp [hI.ok, evL, hem]
    simp [hw, hs0]
    refine xcall_fn (c_Idle n hfit) (by simp) ?_
    simp [hid]
    refine xcall_fn c_awake (by simp) ?_
    simp
end Go.Proofs.Ytnnpahcanpakcaa
