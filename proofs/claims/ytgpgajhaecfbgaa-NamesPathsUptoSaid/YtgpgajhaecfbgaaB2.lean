/- Chapter 07: the laws NamesPaths and NamesForm, over any program that has the text. -/
import Derived.Test.YtgpgajhaecfbgaaB1
import Derived.Laws.BytesArg
namespace Go.Proofs.Ytgpgajhaecfbgaa
open Go.AL
variable {P : Program} [h : Facts P]

theorem no_dot {s : List UInt8} (hs : nameB s = true) : 46 ∉ s := by
  intro hm
  unfold nameB at hs
  simp only [Bool.and_eq_true, List.all_eq_true] at hs
  have := hs.2 46 hm
  revert this
  decide
theorem cut_at {a b : List UInt8} (ha : 46 ∉ a) : cutP (a ++ 46 :: b) = (a, b, true) := by
  have hk : a.length < (a ++ 46 :: b).length := by simp
  have hi : dotI (a ++ 46 :: b) = a.length := idxZ_at (p := fun b : UInt8 => decide (b = 46)) hk (by simp) fun j hj hja => by
    rw [List.getElem_append_left hja]
    simp only [decide_eq_false_iff_not]
    intro e
    exact ha (by rw [← e]; exact List.getElem_mem hja)
  unfold cutP
  rw [if_pos (by omega), hi]
  simp
theorem spl_join (a b : List UInt8) : splB (a ++ 46 :: b) = (nameB a && nameB b) ∧ (splB (a ++ 46 :: b) = true → splP (a ++ 46 :: b) = (a, b)) := by
  by_cases ha : 46 ∈ a
  · have h1 : nameB a = false := Bool.eq_false_iff.2 fun g => no_dot g ha
    have h2 : splB (a ++ 46 :: b) = false := Bool.eq_false_iff.2 fun g => by
      have g' := g
      unfold splB at g'
      simp only [Bool.and_eq_true] at g'
      have e := cutP_join g'.1.1
      have n1 := no_dot g'.1.2
      have n2 := no_dot g'.2
      generalize (cutP (a ++ 46 :: b)).1 = x at e n1
      generalize (cutP (a ++ 46 :: b)).2.1 = y at e n2
      have c := congrArg (List.count 46) e
      simp only [List.count_append, List.count_cons_self, List.count_eq_zero.2 n1, List.count_eq_zero.2 n2] at c
      have := List.count_pos_iff.2 ha
      omega
    rw [h1, h2]
    simp
  · have hc := cut_at (b := b) ha
    have hB : splB (a ++ 46 :: b) = (nameB a && nameB b) := by
      unfold splB
      rw [hc]
      simp
    exact ⟨hB, fun g => by rw [splP, if_pos g, hc]⟩

set_option maxHeartbeats 2000000 in
theorem c_NamesPaths (a b : List UInt8) (hl : a.length + 1 + b.length ≤ 9223372036854775807) : FCall P 7 [.str a, .str b] (fun r => r = .bool true) := by
  refine fcall_of h.f7 rfl (by decide) h.mo (by kernel_rfl) fun X hX => ?_
  simp
  refine xcall_fn (c_Join a b hl) (by simp) ?_
  simp
  refine xcall_fn (c_Split (a ++ 46 :: b) (by simp; omega)) (by simp) ?_
  obtain ⟨h1, h2⟩ := spl_join a b
  have l1 : a.length + 1 ≤ 9223372036854775807 := by omega
  have l2 : a.length + 1 + b.length ≤ 9223372036854775807 := hl
  have za := nameE_zero a
  have zb := nameE_zero b
  generalize hs : splB (a ++ 46 :: b) = f at h1 h2
  generalize hp : splP (a ++ 46 :: b) = p at h2
  simp [l1, l2]
  refine xcall_fn (c_Check a (by omega)) (by simp) ?_
  by_cases ha : nameB a = true
  · simp [za, ha]
    refine xcall_fn (c_Check b (by omega)) (by simp) ?_
    by_cases hb : nameB b = true
    · have hf : f = true := by rw [h1, ha, hb]; rfl
      have := h2 hf
      subst hf
      subst this
      simp [zb, hb]
      refine xcall_fn c_awake (by simp) ?_
      simp
    · have hf : f = false := by rw [h1, ha, Bool.eq_false_iff.2 hb]; rfl
      have hp' : p = ([], []) := by rw [← hp, splP, if_neg (by rw [hs, hf]; decide)]
      subst hf
      subst hp'
      simp [zb, hb]
      refine xcall_fn c_awake (by simp) ?_
      simp
  · have hf : f = false := by rw [h1, Bool.eq_false_iff.2 ha]; rfl
    have hp' : p = ([], []) := by rw [← hp, splP, if_neg (by rw [hs, hf]; decide)]
    subst hf
    subst hp'
    simp [za, ha]
    refine xcall_fn c_awake (by simp) ?_
    simp

/-- A byte as a text. -/
def byt (n : Int) : UInt8 := UInt8.ofNat n.toNat
def goodI (n : Int) : Bool := ltrB n || (decide (48 ≤ n) && decide (n ≤ 57)) || decide (n = 95)
theorem byt_nat {n : Int} (h0 : 0 ≤ n) (h1 : n ≤ 255) : ((byt n).toNat : Int) = n := by
  unfold byt
  rw [UInt8.toNat_ofNat']
  omega
theorem okC_byt {n : Int} (h0 : 0 ≤ n) (h1 : n ≤ 255) : okC (byt n) = goodI n := by
  unfold okC goodI
  rw [byt_nat h0 h1]
theorem nameB_snoc {s : List UInt8} (hs : nameB s = true) (c : UInt8) : nameB (s ++ [c]) = (okC c && decide (s.length + 1 ≤ 24) && !kwB (s ++ [c])) := by
  unfold nameB headB at hs ⊢
  cases s with
  | nil => simp at hs
  | cons c0 s =>
    simp only [Bool.and_eq_true] at hs
    obtain ⟨⟨⟨h1, h2⟩, h3⟩, h4⟩ := hs
    simp only [List.cons_append, List.all_append, List.all_cons, List.all_nil, Bool.and_true] at h4 ⊢
    simp only [Bool.and_eq_true] at h4
    simp only [h2, h4.1, h4.2, Bool.true_and, Bool.and_true, List.length_cons, List.length_append, List.length_nil]
    cases okC c <;> simp
theorem conv_byte (n : Int) {X : Ctx} {s : S} {d : Option Tmp} {ty : TypeId} {pos : String} {aft : Array Edge} {x : Operand} (hr : resA P s.h 4 (ev s.t x) = some (.sl false [.int .u8 n])) (a : Act) (w : World) (μ : Mu) (hS : Sim P X s a w μ) :
    ∃ v, (execOp a.eval ⟨d, .convert 26 9 x, ty, pos, aft, none⟩).run P w = .ok (.value v) w ∧ Rep P w (Ft X.F0 μ s.h) μ (.str [byt n]) v := by
  have hq := hS.read x hr
  generalize hv : a.eval x = v at hq
  cases hq with
  | sl _ _ _ b off m cap sz V hm hcap hmax hfull hsz hrep hcell =>
    simp only [List.length_cons, List.length_nil] at hm
    subst hm
    have e0 : V 0 = .int .u8 n := Rep.int_inv (hrep 0 _ rfl)
    have e1 := (hcell 0 _ rfl 0 (.int .u8 n) (by rw [e0]; rfl)).2.1
    refine ⟨.string ⟨⟨[byt n]⟩⟩, ?_, .str _ _⟩
    have hc := run_convert_bytes_arg (P := P) w 26 5 h.u26 h.u5 b off 1 cap [n] rfl (fun i hi => by
      obtain rfl : i = 0 := by omega
      simpa using e1) 9 h.u9
    simp only [execOp, hv, Sem.run_bind, hc, Result.andThen, Sem.run_pure]
    rfl
set_option maxHeartbeats 4000000 in
set_option maxRecDepth 20000 in
theorem c_NamesForm (s : List UInt8) (n : Int) (hl : s.length ≤ 9223372036854775807) (h0 : 0 ≤ n) (h255 : n ≤ 255) : FCall P 4 [.str s, .int .u8 n] (fun r => r = .bool true) := by
  refine fcall_ofB [12] h.f4 rfl (by decide) h.mo (by kernel_rfl) fun X hX => ?_
  simp
  refine xcall_fn (c_Check s hl) (by simp) ?_
  by_cases hs : nameB s = true
  case neg =>
    have : nameE s = 3 := by simp [nameE, hs]
    simp [this]
    refine xcall_fn c_awake (by simp) ?_
    simp
  have he : nameE s = 0 := by rw [nameE_zero]; exact hs
  have hlen := nameB_len hs
  have hsn := nameB_snoc hs (byt n)
  have hs' := hs
  unfold nameB headB at hs'
  simp only [Bool.and_eq_true] at hs'
  obtain ⟨⟨⟨_, hhd⟩, hkw⟩, hall⟩ := hs'
  have hkw : kwB s = false := by simpa using hkw
  have hne : s ≠ [] := by rintro rfl; simp at hhd
  have hpos : 0 < s.length := List.length_pos_iff.2 hne
  have hc0 : ltrB s[0].toNat = true := by
    cases s with
    | nil => exact (hne rfl).elim
    | cons c s => exact hhd
  have q1 : ¬ (s.length : Int) < 1 := by omega
  have q2 : ¬ (24 : Int) < s.length := by omega
  have hall : ∀ k (hk : k < s.length), okC s[k] = true := fun k hk => List.all_eq_true.1 hall _ (List.getElem_mem hk)
  obtain ⟨c0, hc0e⟩ : ∃ c0, s[0] = c0 := ⟨_, rfl⟩
  have hget0 : s[0]? = some c0 := by rw [List.getElem?_eq_getElem hpos, hc0e]
  rw [hc0e] at hc0
  unfold ltrB at hc0
  simp only [Bool.and_eq_true, decide_eq_true_eq] at hc0
  have q3 : ¬ (c0.toNat : Int) < 97 := by omega
  have q4 : ¬ (122 : Int) < c0.toNat := by omega
  simp [he, q1, q2, hget0, q3, q4]
  refine xcall_fn (c_Keyword s) (by simp) ?_
  simp [hkw]
  refine awp_loop (σ := Nat) (fun k => (⟨[.str s, .int .u8 n, .any, .any, .any, .any, .int .i64 k, .any, .any, .any, .any, .any, .any, .any, .any, .any, .any, .any, .any, .any, .any, .any, .any, .any, .any, .any, .any, .any, .any, .any, .any, .any, .any, .any, .any, .any, .any, .any, .any, .any, .any, .any, .any, .any, .any, .any, .any, .any, .any, .any, .any, .any, .any, .any, .any, .any, .any, .any, .any, .any, .any, .any, .any, .any, .any, .any, .any, .any, .any, .any, .any, .any, .any, .any, .any, .any, .any, .any, .any, .any, .any, .any, .any, .any, .any, .any, .any, .any, .any, .any, .any, .any, .any, .any, .any, .any, .any, .any, .any, .any, .any, .any, .any, .any, .any, .any, .any, .any, .any, .any, .any, .any, .any, .any, .any], []⟩ : S)) (fun k => k ≤ s.length) (fun k => s.length - k) 0 (Wk.ren 0 [] hX rfl (by decide) (by simp) (by simp) (by simp) (by simp)) (by omega) ?_
  rintro k hk
  refine vcB_sound [12] h.mo _ _ _ (by kernel_rfl) ?_
  rcases Nat.lt_or_ge k s.length with hlt | hge
  · have hk1 := wrap_succ hlt (by omega)
    have hok := (okC_cases _).1 (hall k hlt)
    unfold ltrB at hok
    obtain ⟨c, hc⟩ : ∃ c, s[k] = c := ⟨_, rfl⟩
    rw [hc] at hok
    simp only [Bool.and_eq_true, decide_eq_true_eq] at hok
    obtain ⟨m, hm⟩ : ∃ m : Int, (c.toNat : Int) = m := ⟨_, rfl⟩
    rw [hm] at hok
    have fin : Wk P X ⟨[], []⟩ ⟨[], []⟩ := Wk.refl _
    by_cases g1 : m < 97
    · by_cases g2 : m < 48
      · omega
      · have g2' : 48 ≤ m := by omega
        have g1' : ¬ 97 ≤ m := by omega
        by_cases g3 : 57 < m
        · have g3' : ¬ m ≤ 57 := by omega
          have g4 : m = 95 := by omega
          simp [hlt, hc, hm, g1, g1', g2, g2', g3, g3', eq_true g4]
          exact ⟨k + 1, Wk.ren 0 [] hX rfl (by decide) (by simp [hk1]) (by simp) (by simp) (by simp), by omega, by omega⟩
        · have g3' : m ≤ 57 := by omega
          simp [hlt, hc, hm, g1, g1', g2, g2', g3, g3']
          exact ⟨k + 1, Wk.ren 0 [] hX rfl (by decide) (by simp [hk1]) (by simp) (by simp) (by simp), by omega, by omega⟩
    · have g1' : 97 ≤ m := by omega
      have g2 : ¬ 122 < m := by omega
      have g2' : m ≤ 122 := by omega
      simp [hlt, hc, hm, g1, g1', g2, g2']
      exact ⟨k + 1, Wk.ren 0 [] hX rfl (by decide) (by simp [hk1]) (by simp) (by simp) (by simp), by omega, by omega⟩
  · have hge2 : ¬ k < s.length := by omega
    have hadd : s.length + 1 ≤ 9223372036854775807 := by omega
    rw [okC_byt h0 h255] at hsn
    have hgood : goodI n = (ltrB n || (decide (48 ≤ n) && decide (n ≤ 57)) || decide (n = 95)) := rfl
    have zL := nameE_zero (s ++ [byt n])
    have fin : ∀ b : Bool, nameB (s ++ [byt n]) = b → True := fun _ _ => trivial
    by_cases a1 : 97 ≤ n
    · by_cases a2 : n ≤ 122
      · have hg : goodI n = true := by rw [hgood]; simp [ltrB, a1, a2]
        simp [hge2, a1, a2]
        refine awp_list ?_
        refine alist_cons rfl ?_
        simp
        refine alist_cons rfl ?_
        simp
        refine alist_cons rfl ?_
        simp
        refine alist_op (.str [byt n]) rfl (conv_byte n (by simp)) ?_
        simp
        refine alist_cons rfl ?_
        simp [hadd]
        refine alist_cons rfl ?_
        simp
        refine alist_nil ?_
        simp
        refine xcall_fn (c_Check (s ++ [byt n]) (by simp; omega)) (by simp) ?_

        by_cases c24 : s.length + 1 ≤ 24
        · have c24' : (s.length : Int) + 1 ≤ 24 := by omega
          cases hkL : kwB (s ++ [byt n])
          · have hE : nameE (s ++ [byt n]) = 0 := by rw [zL, hsn, hg, hkL]; simp [c24]
            simp [hE, c24']
            refine xcall_fn (c_Keyword (s ++ [byt n])) (by simp) ?_
            simp [hkL]
            refine xcall_fn c_awake (by simp) ?_
            simp
          · have hE : nameE (s ++ [byt n]) = 3 := nameE_bad (by rw [hsn, hkL]; simp)
            simp [hE, c24']
            refine xcall_fn (c_Keyword (s ++ [byt n])) (by simp) ?_
            simp [hkL]
            refine xcall_fn c_awake (by simp) ?_
            simp
        · have c24' : ¬ (s.length : Int) + 1 ≤ 24 := by omega
          have hE : nameE (s ++ [byt n]) = 3 := nameE_bad (by rw [hsn]; simp [c24])
          simp [hE, c24']
          refine xcall_fn c_awake (by simp) ?_
          simp

      · have a3 : 48 ≤ n := by omega
        have a4 : ¬ n ≤ 57 := by omega
        have a5 : ¬ n = 95 := by omega
        have hg : goodI n = false := by rw [hgood]; simp [ltrB, a2, a4, a5]
        simp [hge2, a1, a2, a3, a4, a5]
        refine awp_list ?_
        refine alist_cons rfl ?_
        simp
        refine alist_cons rfl ?_
        simp
        refine alist_cons rfl ?_
        simp
        refine alist_op (.str [byt n]) rfl (conv_byte n (by simp)) ?_
        simp
        refine alist_cons rfl ?_
        simp [hadd]
        refine alist_cons rfl ?_
        simp
        refine alist_nil ?_
        simp
        refine xcall_fn (c_Check (s ++ [byt n]) (by simp; omega)) (by simp) ?_

        have hE : nameE (s ++ [byt n]) = 3 := nameE_bad (by rw [hsn, hg]; simp)
        simp [hE]
        refine xcall_fn c_awake (by simp) ?_
        simp

    · by_cases a3 : 48 ≤ n
      · by_cases a4 : n ≤ 57
        · have hg : goodI n = true := by rw [hgood]; simp [ltrB, a3, a4]
          simp [hge2, a1, a3, a4]
          refine awp_list ?_
          refine alist_cons rfl ?_
          simp
          refine alist_cons rfl ?_
          simp
          refine alist_cons rfl ?_
          simp
          refine alist_op (.str [byt n]) rfl (conv_byte n (by simp)) ?_
          simp
          refine alist_cons rfl ?_
          simp [hadd]
          refine alist_cons rfl ?_
          simp
          refine alist_nil ?_
          simp
          refine xcall_fn (c_Check (s ++ [byt n]) (by simp; omega)) (by simp) ?_

          by_cases c24 : s.length + 1 ≤ 24
          · have c24' : (s.length : Int) + 1 ≤ 24 := by omega
            cases hkL : kwB (s ++ [byt n])
            · have hE : nameE (s ++ [byt n]) = 0 := by rw [zL, hsn, hg, hkL]; simp [c24]
              simp [hE, c24']
              refine xcall_fn (c_Keyword (s ++ [byt n])) (by simp) ?_
              simp [hkL]
              refine xcall_fn c_awake (by simp) ?_
              simp
            · have hE : nameE (s ++ [byt n]) = 3 := nameE_bad (by rw [hsn, hkL]; simp)
              simp [hE, c24']
              refine xcall_fn (c_Keyword (s ++ [byt n])) (by simp) ?_
              simp [hkL]
              refine xcall_fn c_awake (by simp) ?_
              simp
          · have c24' : ¬ (s.length : Int) + 1 ≤ 24 := by omega
            have hE : nameE (s ++ [byt n]) = 3 := nameE_bad (by rw [hsn]; simp [c24])
            simp [hE, c24']
            refine xcall_fn c_awake (by simp) ?_
            simp

        · by_cases a5 : n = 95
          · have hg : goodI n = true := by rw [hgood]; simp [a5]
            simp [hge2, a1, a3, a4, eq_true a5]
            refine awp_list ?_
            refine alist_cons rfl ?_
            simp
            refine alist_cons rfl ?_
            simp
            refine alist_cons rfl ?_
            simp
            refine alist_op (.str [byt n]) rfl (conv_byte n (by simp)) ?_
            simp
            refine alist_cons rfl ?_
            simp [hadd]
            refine alist_cons rfl ?_
            simp
            refine alist_nil ?_
            simp
            refine xcall_fn (c_Check (s ++ [byt n]) (by simp; omega)) (by simp) ?_

            by_cases c24 : s.length + 1 ≤ 24
            · have c24' : (s.length : Int) + 1 ≤ 24 := by omega
              cases hkL : kwB (s ++ [byt n])
              · have hE : nameE (s ++ [byt n]) = 0 := by rw [zL, hsn, hg, hkL]; simp [c24]
                simp [hE, c24']
                refine xcall_fn (c_Keyword (s ++ [byt n])) (by simp) ?_
                simp [hkL]
                refine xcall_fn c_awake (by simp) ?_
                simp
              · have hE : nameE (s ++ [byt n]) = 3 := nameE_bad (by rw [hsn, hkL]; simp)
                simp [hE, c24']
                refine xcall_fn (c_Keyword (s ++ [byt n])) (by simp) ?_
                simp [hkL]
                refine xcall_fn c_awake (by simp) ?_
                simp
            · have c24' : ¬ (s.length : Int) + 1 ≤ 24 := by omega
              have hE : nameE (s ++ [byt n]) = 3 := nameE_bad (by rw [hsn]; simp [c24])
              simp [hE, c24']
              refine xcall_fn c_awake (by simp) ?_
              simp

          · have hg : goodI n = false := by rw [hgood]; simp [ltrB, a1, a4, a5]
            simp [hge2, a1, a3, a4, a5]
            refine awp_list ?_
            refine alist_cons rfl ?_
            simp
            refine alist_cons rfl ?_
            simp
            refine alist_cons rfl ?_
            simp
            refine alist_op (.str [byt n]) rfl (conv_byte n (by simp)) ?_
            simp
            refine alist_cons rfl ?_
            simp [hadd]
            refine alist_cons rfl ?_
            simp
            refine alist_nil ?_
            simp
            refine xcall_fn (c_Check (s ++ [byt n]) (by simp; omega)) (by simp) ?_

            have hE : nameE (s ++ [byt n]) = 3 := nameE_bad (by rw [hsn, hg]; simp)
            simp [hE]
            refine xcall_fn c_awake (by simp) ?_
            simp

      · have a5 : ¬ n = 95 := by omega
        have hg : goodI n = false := by rw [hgood]; simp [ltrB, a1, a3, a5]
        simp [hge2, a1, a3, a5]
        refine awp_list ?_
        refine alist_cons rfl ?_
        simp
        refine alist_cons rfl ?_
        simp
        refine alist_cons rfl ?_
        simp
        refine alist_op (.str [byt n]) rfl (conv_byte n (by simp)) ?_
        simp
        refine alist_cons rfl ?_
        simp [hadd]
        refine alist_cons rfl ?_
        simp
        refine alist_nil ?_
        simp
        refine xcall_fn (c_Check (s ++ [byt n]) (by simp; omega)) (by simp) ?_

        have hE : nameE (s ++ [byt n]) = 3 := nameE_bad (by rw [hsn, hg]; simp)
        simp [hE]
        refine xcall_fn c_awake (by simp) ?_
        simp

end Go.Proofs.Ytgpgajhaecfbgaa
