/- Chapter 23: the examples, and the law WaitlistOrder, over any program that has their text. -/
import Derived.Test.YtmegdnfihhikhaaD2
namespace Go.Proofs.Ytmegdnfihhikhaa
open Go.AL
variable {P : Program} [h : Facts P]

theorem c_awake : FCall P 8 [] (fun r => r = .bool true) := by
  refine fcall_of h.f8 rfl (by decide) h.mo (by kernel_rfl) fun X hX => ?_
  simp
  refine xcall_fn (c_Wait [4, 2] 7 (by simp)) (by simp) ?_
  simp [show waitE [4, 2] 7 = 0 by decide]
  refine xcall_fn (c_Wait [4, 2] 4 (by simp)) (by simp) ?_
  simp [show waitE [4, 2] 4 = 4 by decide]
  refine xcall_fn (c_Signal [4, 2, 7] 2 (by simp)) (by simp) ?_
  simp [show sig [4, 2, 7] 2 = ([4, 2], [7]) by decide]
  refine xcall_fn (c_Same [4, 2, 7] [4, 2, 7] (by simp)) (by simp) ?_
  simp
  refine xcall_fn (c_Same [4, 2] [4, 2] (by simp)) (by simp) ?_
  simp
  refine xcall_fn (c_Same [7] [7] (by simp)) (by simp) ?_
  simp
  refine xcall_fn (c_Place [4, 2, 7] 7 (by simp)) (by simp) ?_
  simp [show place [4, 2, 7] 7 = 2 by decide]
  refine xcall_fn (c_Place [4, 2, 7] 5 (by simp)) (by simp) ?_
  simp [show place [4, 2, 7] 5 = -1 by decide]
  refine xcall_fn (c_Leave [4, 2, 7] 2 (by simp)) (by simp) ?_
  simp [show leave [4, 2, 7] 2 = [4, 7] by decide]
  refine xcall_fn (c_Same [4, 7] [4, 7] (by simp)) (by simp) ?_
  simp
  refine xcall_fn (c_Check [4, 2, 4] (by simp)) (by simp) ?_
  simp [show chk [4, 2, 4] = 4 by decide]
  refine xcall_fn (c_Check [-1] (by simp)) (by simp) ?_
  simp [show chk [-1] = 2 by decide]

/-- An action. -/
structure Op where
  kind : Int
  n : Int

instance : Enc Op := ⟨fun o => .agg [.int .i64 o.kind, .int .i64 o.n], 2, fun _ => rfl, fun _ => by simp, fun _ => rfl, by decide⟩
@[simp] theorem enc_op (o : Op) : Enc.enc o = A.agg [.int .i64 o.kind, .int .i64 o.n] := rfl
@[simp] theorem sz_op : Enc.sz Op = 2 := rfl

/-- The list that is wanted: nil, or at the end of a row. -/
def wants (v : A) (H : List Row) (xs : List Int) : Prop :=
  (v = .own 0 0 0 0 true ∧ xs = [] ∧ H = [dead0]) ∨ ∃ (off : Nat) (ws : List Int), v = .own 0 off xs.length xs.length false ∧ H = [⟨3, 1, ws.map Enc.enc, 0, true⟩] ∧ ws.drop off = xs ∧ off ≤ ws.length

omit h in
theorem wants_res {v : A} {H : List Row} {xs : List Int} (hw : wants v H xs) : resA P H 4 v = some (Ls false xs) ∧ noidL [v] = false := by
  rcases hw with ⟨rfl, rfl, rfl⟩ | ⟨off, ws, rfl, rfl, hws, hoff⟩
  · simp
  · have hl : xs.length = ws.length - off := by rw [← hws]; simp
    have hle : off + xs.length ≤ ws.length := by omega
    have hc : cut off xs.length (ws.map Enc.enc) = xs.map Enc.enc := by
      rw [cut_eq, ← List.map_drop, hws, List.take_of_length_le (by simp)]
    simp [hle, hc]

theorem chkGo_zero : ∀ (l done : List Int), chkGo done l = 0 ↔ (∀ x ∈ l, ¬ (x < 0 ∨ x > 1000000000000)) ∧ l.Nodup ∧ ∀ x ∈ l, x ∉ done
  | [], done => by simp [chkGo]
  | x :: r, done => by
    rw [chkGo]
    split
    · rename_i hx
      exact ⟨fun h => absurd h (by decide), fun h => absurd hx (h.1 x (by simp))⟩
    · rename_i hx
      split
      · rename_i hm
        simp [hm]
      · rename_i hm
        rw [chkGo_zero r (done ++ [x])]
        rw [List.nodup_cons]
        constructor
        · rintro ⟨h1, h2, h3⟩
          refine ⟨?_, ⟨fun hx2 => ?_, h2⟩, ?_⟩
          · intro y hy
            rcases List.mem_cons.1 hy with rfl | hy
            · exact hx
            · exact h1 y hy
          · have := h3 x hx2
            simp at this
          · intro y hy
            rcases List.mem_cons.1 hy with rfl | hy
            · exact hm
            · intro hd; exact h3 y hy (by simp [hd])
        · rintro ⟨h1, ⟨h2, h3⟩, h4⟩
          refine ⟨fun y hy => h1 y (by simp [hy]), h3, fun y hy hd => ?_⟩
          rcases List.mem_append.1 hd with hd | hd
          · exact h4 y (by simp [hy]) hd
          · have : y = x := by simpa using hd
            subst this
            exact h2 hy

theorem chk_zero (l : List Int) : chk l = 0 ↔ l.length ≤ 300 ∧ (∀ x ∈ l, ¬ (x < 0 ∨ x > 1000000000000)) ∧ l.Nodup := by
  unfold chk
  split
  · simp; omega
  · rw [chkGo_zero]; simp; omega

theorem waitE_zero (l : List Int) (p : Int) : waitE l p = 0 ↔ chk l = 0 ∧ ¬ (p < 0 ∨ p > 1000000000000) ∧ p ∉ l ∧ l.length < 300 := by
  unfold waitE
  by_cases h1 : chk l = 0
  · rw [if_pos h1]
    by_cases h2 : p < 0 ∨ p > 1000000000000
    · rw [if_pos h2]; simp [h2]
    · rw [if_neg h2]
      by_cases h3 : p ∈ l
      · rw [if_pos h3]; simp [h3]
      · rw [if_neg h3]
        by_cases h4 : l.length ≥ 300
        · rw [if_pos h4]; simp; omega
        · rw [if_neg h4]; simp only [h1, h2, h3, not_false_eq_true, true_and, true_iff]; omega
  · rw [if_neg h1]; simp [h1]

theorem chk_wait {l : List Int} {p : Int} (h : waitE l p = 0) : chk (l ++ [p]) = 0 := by
  obtain ⟨h1, h2, h3, h4⟩ := (waitE_zero l p).1 h
  obtain ⟨_, h5, h6⟩ := (chk_zero l).1 h1
  refine (chk_zero _).2 ⟨by simp; omega, ?_, ?_⟩
  · intro x hx
    rcases List.mem_append.1 hx with hx | hx
    · exact h5 x hx
    · have : x = p := by simpa using hx
      subst this; exact h2
  · rw [List.nodup_append]
    refine ⟨h6, by simp, fun a ha b hb e => ?_⟩
    have : b = p := by simpa using hb
    subst this; subst e; exact h3 ha

set_option maxRecDepth 100000 in
set_option maxHeartbeats 1000000 in
theorem c_WaitlistOrder (l : List Op) : FCall P 7 [Ls false l] (fun r => r = .bool true) := by
  refine fcall_of h.f7 rfl (by decide) h.mo (by kernel_rfl) fun X hX => ?_
  have aw : ∀ (H : List Row) (K : A → List Row → Prop), K (.bool true) H → XCall P 8 [] H K := fun H K hK => xcall_fn c_awake (by simp) (by simpa using hK)
  by_cases hlen : l.length ≤ 100
  · have hlen' : ¬ (100 : Int) < l.length := by omega
    simp [hlen']
    refine awp_loop (σ := Nat × List Int × A × List Row) (fun x => (⟨[Ls false l, .any, .any, Ls false x.2.1, x.2.2.1, .int .i64 x.1, .any, .any, .any, .any, .any, .any, .any, .any, .any, .any, .any, .any, .any, .any, .any, .any, .any, .any, .any, .any, .any, .any, .any, .any, .any, .any, .any, .any, .any, .any, .any, .any, .any, .any, .any, .any, .any, .any, .any, .any, .any, .any, .any, .any, .any, .any, .any, .any, .any, .any, .any, .any, .any, .any, .any, .any, .any, .any, .any, .any, .any, .any, .any, .any, .any, .any, .any, .any, .any, .any, .any, .any, .any, .any, .any, .any, .any, .any, .any, .any, .any, .any, .any, .any, .any, .any, .any, .any, .any, .any, .any, .any, .any, .any, .any, .any, .any, .any, .any, .any, .any, .any, .any, .any, .any, .any], x.2.2.2⟩ : S)) (fun x => x.1 ≤ l.length ∧ wants x.2.2.1 x.2.2.2 x.2.1 ∧ x.2.1.length ≤ x.1 ∧ chk x.2.1 = 0) (fun x => l.length - x.1) (0, [], .own 0 0 0 0 true, [dead0]) (Wk.ren 0 [0] hX rfl (by decide) (by simp) (by simp) (by simp) (by simp)) ⟨by simp, .inl ⟨rfl, rfl, rfl⟩, by simp, by decide⟩ ?_
    rintro ⟨k, xs, v, H⟩ ⟨hk, hw, hxk, hc⟩
    simp only at hk hw hxk hc ⊢
    refine vc_sound h.mo _ _ _ (by kernel_rfl) ?_
    rcases Nat.lt_or_ge k l.length with hlt | hge
    · obtain ⟨o, ho⟩ : ∃ o, l[k] = o := ⟨_, rfl⟩
      obtain ⟨kd, n⟩ := o
      have hx1 : xs.length ≤ 4000000000000000000 := by omega
      have hk1 := wrap_succ hlt (by omega)
      have hm : l.length - (k + 1) < l.length - k := by omega
      have hres := wants_res (P := P) hw
      have hv : v.noid = false := by have := hres.2; simp [noidL] at this; exact this
      by_cases h0 : kd = 0
      · subst h0
        simp [hlt, ho]
        refine xcall_fn (c_Wait xs n hx1) (by simp) ?_
        by_cases hwz : waitE xs n = 0
        · obtain ⟨_, z2, z3, _⟩ := (waitE_zero xs n).1 hwz
          have z5 : 0 ≤ n := by omega
          have z6 : n ≤ 1000000000000 := by omega
          have z7 : idxOf xs n = -1 := idxOf_miss z3
          simp [hwz, z5, z6, -List.map_append]
          refine xcall_fn (c_Index xs n hx1) (by simp [hv, hres.1]) ?_
          have hsame : (xs ++ [n]).length ≤ 4000000000000000000 := by simp; omega
          rcases hw with ⟨rfl, rfl, rfl⟩ | ⟨off, ws, rfl, rfl, hws, hoff⟩
          · simp [z7]
            refine xcall_fn (c_Same [n] [n] (by simp)) (by simp) ?_
            simp
            exact ⟨k + 1, [n], .own 0 0 1 1 false, [⟨3, 1, [A.int .i64 n], 0, true⟩], Wk.ren 0 [2] hX rfl (by decide) (by simp [hk1]) (by simp) (by simp) (by simp), ⟨by omega, .inr ⟨0, [n], rfl, rfl, rfl, by simp⟩, by simp, chk_wait hwz⟩, hm⟩
          · have hl : xs.length = ws.length - off := by rw [← hws]; simp
            have hle : off + xs.length ≤ ws.length := by omega
            have hle2 : off + xs.length = ws.length := by omega
            have hle3 : ¬ off + xs.length + 1 ≤ ws.length := by omega
            have hct : cut off xs.length (ws.map Enc.enc) = xs.map Enc.enc := by
              rw [cut_eq, ← List.map_drop, hws, List.take_of_length_le (by simp)]
            have hb1 : xs.length ≤ 9223372036854775806 := by omega
            have hb2 : (xs.length + 1) * 8 ≤ 140737488355328 := by omega
            simp [z7, hle2, hct, hb1, hb2]
            refine xcall_fn (c_Same (xs ++ [n]) (xs ++ [n]) hsame) (by simp) ?_
            simp
            exact ⟨k + 1, xs ++ [n], .own 0 0 (xs ++ [n]).length (xs ++ [n]).length false, [⟨3, 1, (xs ++ [n]).map Enc.enc, 0, true⟩], Wk.ren 0 [2] hX rfl (by decide) (by simp [hk1]) (by simp) (by simp) (by simp), ⟨by omega, .inr ⟨0, _, rfl, rfl, rfl, by simp⟩, by simp; omega, chk_wait hwz⟩, hm⟩
        · by_cases z5 : 0 ≤ n
          · by_cases z6 : n ≤ 1000000000000
            · have z3 : n ∈ xs := Classical.byContradiction fun hne => hwz ((waitE_zero xs n).2 ⟨hc, by omega, hne, by have := (chk_zero xs).1 hc; omega⟩)
              have z7 : ¬ idxOf xs n < 0 := by have := (idxOf_nonneg xs n).2 z3; omega
              simp [hwz, z5, z6]
              refine xcall_fn (c_Index xs n hx1) (by simp [hv, hres.1]) ?_
              simp [z7, hwz]
              refine xcall_fn (c_Same xs xs hx1) (by simp [hv, hres.1]) ?_
              simp
              exact ⟨k + 1, xs, v, H, Wk.slots (by simp [hk1]), ⟨by omega, hw, by omega, hc⟩, hm⟩
            · simp [hwz, z5, z6]
              refine xcall_fn (c_Same xs xs hx1) (by simp [hv, hres.1]) ?_
              simp
              exact ⟨k + 1, xs, v, H, Wk.slots (by simp [hk1]), ⟨by omega, hw, by omega, hc⟩, hm⟩
          · simp [hwz, z5]
            refine xcall_fn (c_Same xs xs hx1) (by simp [hv, hres.1]) ?_
            simp
            exact ⟨k + 1, xs, v, H, Wk.slots (by simp [hk1]), ⟨by omega, hw, by omega, hc⟩, hm⟩
      · by_cases h1 : kd = 1
        · subst h1
          simp [hlt, ho]
          refine xcall_fn (c_Signal xs n hx1) (by simp) ?_
          have hs : max 0 (min n xs.length) = ((sigK xs n : Nat) : Int) := by unfold sigK; omega
          have hs' : min (max n 0) (xs.length : Int) = ((sigK xs n : Nat) : Int) := by unfold sigK; omega
          have hle0 : sigK xs n ≤ xs.length := by unfold sigK; omega
          have hc2 : chk (xs.drop (sigK xs n)) = 0 := by
            obtain ⟨q1, q2, q3⟩ := (chk_zero xs).1 hc
            exact (chk_zero _).2 ⟨by simp; omega, fun x hx => q2 x (List.mem_of_mem_drop hx), q3.sublist (List.drop_sublist _ _)⟩
          simp [sig, hc]
          rcases hw with ⟨rfl, rfl, rfl⟩ | ⟨off, ws, rfl, rfl, hws, hoff⟩
          · have hz : sigK [] n = 0 := by simp [sigK]; omega
            simp [hz] at hs' ⊢
            simp [hs']
            refine xcall_fn (c_Same [] [] (by simp)) (by simp) ?_
            simp
            refine xcall_fn (c_Same [] [] (by simp)) (by simp) ?_
            simp
            exact ⟨k + 1, [], .own 0 0 0 0 true, [dead0], Wk.slots (by simp [hk1]), ⟨by omega, .inl ⟨rfl, rfl, rfl⟩, by simp, hc⟩, hm⟩
          · have hl : xs.length = ws.length - off := by rw [← hws]; simp
            have hle : off + xs.length ≤ ws.length := by omega
            generalize hK : sigK xs n = K at *
            have hc1 : cut off K (ws.map Enc.enc) = (xs.take K).map Enc.enc := by
              rw [cut_eq, ← List.map_drop, hws, ← List.map_take]
            have hc3 : cut (off + K) (xs.length - K) (ws.map Enc.enc) = (xs.drop K).map Enc.enc := by
              rw [cut_eq, ← List.map_drop, ← List.drop_drop, hws, List.take_of_length_le (by simp)]
            have hl1 : off + K ≤ ws.length := by omega
            have hl2 : off + K + (xs.length - K) ≤ ws.length := by omega
            simp [hs', hle0]
            refine xcall_fn (c_Same (xs.take K) (xs.take K) (by simp; omega)) (by simp [hc1, hl1]) ?_
            simp [hle0]
            refine xcall_fn (c_Same (xs.drop K) (xs.drop K) (by simp; omega)) (by simp [hc3, hl2]) ?_
            simp
            exact ⟨k + 1, xs.drop K, .own 0 (off + K) (xs.drop K).length (xs.drop K).length false, [⟨3, 1, ws.map Enc.enc, 0, true⟩], Wk.slots (by simp [hk1]), ⟨by omega, .inr ⟨off + K, ws, rfl, rfl, by rw [← List.drop_drop, hws], hl1⟩, by simp; omega, hc2⟩, hm⟩
        · by_cases h2 : kd = 2
          · subst h2
            simp [hlt, ho]
            refine xcall_fn (c_Leave xs n (by omega)) (by simp) ?_
            simp
            refine xcall_fn (c_Index xs n hx1) (by simp [hv, hres.1]) ?_
            have hc2 : chk (leave xs n) = 0 := by
              obtain ⟨q1, q2, q3⟩ := (chk_zero xs).1 hc
              have e : leave xs n = xs.erase n := by simp [leave, hc]
              rw [e]
              exact (chk_zero _).2 ⟨by have := List.length_erase_le (a := n) (l := xs); omega, fun x hx => q2 x (List.mem_of_mem_erase hx), q3.erase n⟩
            by_cases hmem : n ∈ xs
            · obtain ⟨hi, hlti⟩ := idxOf_of_mem hmem
              generalize hI : xs.idxOf n = I at *
              have hsuc : IntKind.i64.wrap ((I : Int) + 1) = ((I + 1 : Nat) : Int) := wrap_succ hlti (by omega)
              rcases hw with ⟨rfl, rfl, rfl⟩ | ⟨off, ws, rfl, rfl, hws, hoff⟩
              · simp at hmem
              · have hl : xs.length = ws.length - off := by rw [← hws]; simp
                have hle : off + xs.length ≤ ws.length := by omega
                simp [hi, hsuc]
                refine awp_any [1, 2, 3, 5, 6, 7, 8, 0, 4, 9, 10] _ h.mo (by kernel_rfl) rfl (by kernel_rfl) rfl ?_
                have hI0 : (0 : Int) ≤ (I : Int) + 1 := by omega
                have hI1 : I ≤ xs.length := by omega
                have hI2 : I + 1 ≤ xs.length := by omega
                have hI3 : (I : Int) + 1 ≤ xs.length := by omega
                have hI4 : off + I ≤ ws.length := by omega
                have hI5 : off + (I + 1) + (xs.length - (I + 1)) ≤ ws.length := by omega
                have hT : cut off I (ws.map Enc.enc) = (xs.take I).map Enc.enc := by
                  rw [cut_eq, ← List.map_drop, hws, ← List.map_take]
                have hD : cut (off + (I + 1)) (xs.length - (I + 1)) (ws.map Enc.enc) = (xs.drop (I + 1)).map Enc.enc := by
                  rw [cut_eq, ← List.map_drop, ← List.drop_drop, hws, List.take_of_length_le (by simp)]
                have hE : leave xs n = xs.take I ++ xs.drop (I + 1) := by
                  rw [leave, if_pos hc, List.erase_eq_eraseIdx_of_idxOf hI, List.eraseIdx_eq_take_drop_succ]
                have hTl : (xs.take I).length = I := by simp; omega
                have hDl : (xs.drop (I + 1)).length = xs.length - (I + 1) := by simp
                rw [hE] at hc2 ⊢
                have hlen2 : (xs.take I ++ xs.drop (I + 1)).length ≤ k + 1 := by simp; omega
                have hbd : xs.length ≤ 100 := by omega
                generalize xs.take I = T at *
                generalize xs.drop (I + 1) = D at *
                generalize hdl : xs.length - (I + 1) = dl at *
                subst hTl hDl
                cases T with
                | nil =>
                  have hT' : cut off 0 (ws.map Enc.enc) = [] := hT
                  have hI2' : 1 ≤ xs.length := by simpa using hI2
                  have hD' : cut (off + 1) (xs.length - 1) (ws.map Enc.enc) = D.map Enc.enc := by
                    have := hD; rw [← hdl] at this; simpa using this
                  have hI5' : off + 1 + (xs.length - 1) ≤ ws.length := by
                    have := hI5; rw [← hdl] at this; simpa using this
                  cases D with
                  | nil =>
                    have hdl' : xs.length - 1 = 0 := by simpa using hdl
                    rw [hdl'] at hD' hI5'
                    simp at hD' hI5'
                    simp [hI2', hoff, hT', hD', hI5', hdl']
                    refine xcall_fn (c_Same [] [] (by simp)) (by simp) ?_
                    simp
                    exact ⟨k + 1, [], .own 0 0 0 0 true, [dead0], Wk.ren 0 [1] hX rfl (by decide) (by simp [hk1]) (by simp) (by simp) (by simp), ⟨by omega, .inl ⟨rfl, rfl, rfl⟩, by simp, by decide⟩, hm⟩
                  | cons d D =>
                    have hdl' : xs.length - 1 = D.length + 1 := by simpa using hdl
                    rw [hdl'] at hD' hI5'
                    have hb1 : D.length + 1 ≤ 9223372036854775807 := by omega
                    have hb2 : (D.length + 1) * 8 ≤ 140737488355328 := by omega
                    simp [hI2', hoff, hT', hD', hI5', hdl', hb1, hb2]
                    refine xcall_fn (c_Same (d :: D) (d :: D) (by simp; omega)) (by simp) ?_
                    simp
                    exact ⟨k + 1, d :: D, .own 0 0 (d :: D).length (d :: D).length false, [⟨3, 1, (d :: D).map Enc.enc, 0, true⟩], Wk.ren 0 [2] hX rfl (by decide) (by simp [hk1]) (by simp) (by simp) (by simp), ⟨by omega, .inr ⟨0, _, rfl, rfl, rfl, by simp⟩, by simp; omega, hc2⟩, hm⟩
                | cons t T =>
                  have hI2' : T.length + 1 + 1 ≤ xs.length := by simpa using hI2
                  have hI4' : off + (T.length + 1) ≤ ws.length := by simpa using hI4
                  have hT' : cut off (T.length + 1) (ws.map Enc.enc) = (t :: T).map Enc.enc := hT
                  have hD' : cut (off + (T.length + 1 + 1)) (xs.length - (T.length + 1 + 1)) (ws.map Enc.enc) = D.map Enc.enc := by
                    have := hD; rw [← hdl] at this; simpa using this
                  have hI5' : off + (T.length + 1 + 1) + (xs.length - (T.length + 1 + 1)) ≤ ws.length := by
                    have := hI5; rw [← hdl] at this; simpa using this
                  have hI1' : T.length + 1 ≤ xs.length := by omega
                  have hsuc' : IntKind.i64.wrap ((T.length : Int) + 1 + 1) = ((T.length + 1 + 1 : Nat) : Int) := by rw [i64_id (by omega) (by omega)]; omega
                  have hn0 : (0 : Int) ≤ (T.length : Int) + 1 := by omega
                  have hn1 : (0 : Int) ≤ (T.length : Int) + 1 + 1 := by omega
                  have htn : ((T.length : Int) + 1 + 1).toNat = T.length + 1 + 1 := by omega
                  have hI2i : (T.length : Int) + 1 + 1 ≤ xs.length := by omega
                  have hb3 : T.length + 1 ≤ 9223372036854775807 := by omega
                  have hb4 : (T.length + 1) * 8 ≤ 140737488355328 := by omega
                  cases D with
                  | nil =>
                    have hdl' : xs.length - (T.length + 1 + 1) = 0 := by simpa using hdl
                    rw [hdl'] at hD' hI5'
                    simp [hI2', hI1', hI4', hn0, hn1, htn, hI2i, hsuc', hT', hD', hI5', hdl', hb3, hb4]
                    refine xcall_fn (c_Same (t :: T) (t :: T) (by simp; omega)) (by simp) ?_
                    simp
                    exact ⟨k + 1, t :: T, .own 0 0 (t :: T).length (t :: T).length false, [⟨3, 1, (t :: T).map Enc.enc, 0, true⟩], Wk.ren 0 [2] hX rfl (by decide) (by simp [hk1]) (by simp) (by simp) (by simp), ⟨by omega, .inr ⟨0, _, rfl, rfl, rfl, by simp⟩, by simp; omega, by simpa using hc2⟩, hm⟩
                  | cons d D =>
                    have hdl' : xs.length - (T.length + 1 + 1) = D.length + 1 := by simpa using hdl
                    rw [hdl'] at hD' hI5'
                    have hb5 : T.length + 1 + (D.length + 1) ≤ 9223372036854775807 := by omega
                    have hb6 : (T.length + 1 + (D.length + 1)) * 8 ≤ 140737488355328 := by omega
                    simp [hI2', hI1', hI4', hn0, hn1, htn, hI2i, hsuc', hT', hD', hI5', hdl', hb3, hb4, hb5, hb6]
                    have hs6 : T.length + (D.length + 1) + 1 = T.length + 1 + (D.length + 1) := by omega
                    refine xcall_fn (c_Same (t :: T ++ d :: D) (t :: T ++ d :: D) (by simp; omega)) (by simp [hs6]) ?_
                    simp
                    exact ⟨k + 1, t :: T ++ d :: D, .own 0 0 (t :: T ++ d :: D).length (t :: T ++ d :: D).length false, [⟨3, 1, (t :: T ++ d :: D).map Enc.enc, 0, true⟩], Wk.ren 0 [3] hX rfl (by decide) (by simp [hk1, hs6]) (by simp) (by simp) (by simp), ⟨by omega, .inr ⟨0, _, rfl, rfl, rfl, by simp⟩, by simp; omega, hc2⟩, hm⟩
            · have hi : idxOf xs n = -1 := idxOf_miss hmem
              have hlv : leave xs n = xs := by simp [leave, hc, List.erase_of_not_mem hmem]
              rw [hlv] at hc2
              simp [hi, hlv]
              refine xcall_fn (c_Same xs xs hx1) (by simp [hv, hres.1]) ?_
              simp
              exact ⟨k + 1, xs, v, H, Wk.slots (by simp [hk1]), ⟨by omega, hw, by omega, hc⟩, hm⟩
          · simp [hlt, ho, h0, h1, h2]
            refine xcall_fn (c_Same xs xs hx1) (by simp [hv, hres.1]) ?_
            simp
            exact ⟨k + 1, xs, v, H, Wk.slots (by simp [hk1]), ⟨by omega, hw, by omega, hc⟩, hm⟩
    · simp [hge]
      refine aw _ _ ?_
      simp
  · have hlen' : (100 : Int) < l.length := by omega
    simp [hlen']
    refine aw _ _ ?_
    simp
end Go.Proofs.Ytmegdnfihhikhaa
