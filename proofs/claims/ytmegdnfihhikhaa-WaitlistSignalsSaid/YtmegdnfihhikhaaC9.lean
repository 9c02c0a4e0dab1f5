/- Chapter 23: the law WaitlistSignals, over any program that has its text. -/
import Derived.Test.YtmegdnfihhikhaaC6
namespace Go.Proofs.Ytmegdnfihhikhaa
open Go.AL
variable {P : Program} (h : Facts P)
include h
theorem c_WaitlistSignals (nl full : Bool) (l : List Int) (n : Int) (hl : l.length ≤ 9223372036854775807) : FCall P 5 [.sl nl full (l.map (A.int .i64)), .int .i64 n] (fun r => r = .bool true) := by
  refine fcall_of h.f5 rfl (by decide) h.mo (by kernel_rfl) fun X => ?_
  have aw : ∀ (H : List Row) (K : A → List Row → Prop), K (.bool true) H → XCall P 8 [] H K := fun H K hK => xcall_scal (c_awake h) (by simp) (by rintro _ rfl; exact ⟨rfl, hK⟩)
  by_cases hlen : l.length ≤ 400
  · have hlen' : ¬ (400 : Int) < l.length := by omega
    simp [h, hlen']
    have hl' : l.length ≤ 4000000000000000000 := by omega
    refine xcall_scal (c_Check h nl full l hl') (by simp) ?_
    rintro _ rfl
    by_cases hc : chk l = 0
    · simp [hc]
      refine xcall_noid (c_Signal h nl full l n hl') (by simp) ?_
      rintro r ⟨nl1, f1, nl2, f2, rfl⟩
      have hs : min (max n 0) l.length = ((sigK l n : Nat) : Int) := by unfold sigK; omega
      have hle : sigK l n ≤ l.length := by unfold sigK; omega
      obtain ⟨g1, g2⟩ := sig_chk hc (sigK l n)
      have e : sig l n = (l.take (sigK l n), l.drop (sigK l n)) := by rw [sig, if_pos hc]
      rw [e]
      obtain ⟨a, ha⟩ : ∃ a, a = l.take (sigK l n) := ⟨_, rfl⟩
      obtain ⟨b, hb⟩ : ∃ b, b = l.drop (sigK l n) := ⟨_, rfl⟩
      rw [← ha] at g1 ⊢
      rw [← hb] at g2 ⊢
      have la : a.length = sigK l n := by rw [ha]; simp; omega
      have hab : a ++ b = l := by rw [ha, hb]; exact List.take_append_drop _ _
      have lab : a.length + b.length = l.length := by rw [← hab]; simp
      have lab' : (a.length : Int) + b.length = l.length := by omega
      have lw : IntKind.i64.wrap (l.length : Int) = l.length := i64_id (by omega) (by omega)
      have ea : ∀ i (h1 : i < a.length) (h2 : i < l.length), l[i] = a[i] := by
        intro i h1 h2
        subst hab
        exact List.getElem_append_left h1
      have eb : ∀ i (h1 : i < b.length) (h2 : a.length + i < l.length), l[a.length + i] = b[i] := by
        intro i h1 h2
        subst hab
        rw [List.getElem_append_right (by omega)]
        congr 1
        omega
      rw [← la] at hs
      clear ha hb
      simp [h, lab', lw, hs]
      refine awp_loop (σ := Nat) (fun k => (⟨[.sl nl full (l.map (A.int .i64)), .any, .any, .any, .any, .sl nl1 f1 (a.map (A.int .i64)), .sl nl2 f2 (b.map (A.int .i64)), .int .i64 k, .any, .any, .any, .any, .any, .any, .any, .any, .any, .any, .any, .any, .any, .any, .any, .any, .any, .any, .any, .any, .any, .any, .any, .any, .any, .any, .any, .any, .any, .any, .any, .any, .any, .any, .any, .any, .any, .any, .any, .any, .any, .any, .any, .any, .any, .any, .any, .any, .any, .any, .any, .any, .any, .any, .any, .any, .any, .any, .any, .any, .any, .any, .any, .any, .any, .any, .any, .any, .any, .any, .any, .any, .any, .any, .any, .any, .any, .any], []⟩ : S)) (fun k => k ≤ a.length) (fun k => a.length - k) 0 (Wk.slots (by simp)) (by omega) ?_
      intro k hk
      refine vc_sound h.mo _ _ _ (by kernel_rfl) ?_
      rcases Nat.lt_or_ge k a.length with hlt | hge
      · have hlt2 : k < l.length := by omega
        have he := ea k hlt hlt2
        simp [h, hlt, hlt2, he]
        exact ⟨k + 1, Wk.slots (by simp [i64_id (show -9223372036854775808 ≤ (k : Int) + 1 by omega) (by omega)]), by omega, by omega⟩
      · have hk2 : k = a.length := by omega
        subst hk2
        simp [h]
        refine awp_loop (σ := Nat) (fun k => (⟨[.sl nl full (l.map (A.int .i64)), .any, .any, .any, .any, .sl nl1 f1 (a.map (A.int .i64)), .sl nl2 f2 (b.map (A.int .i64)), .any, .int .i64 k, .any, .any, .any, .any, .any, .any, .any, .any, .any, .any, .any, .any, .any, .any, .any, .any, .any, .any, .any, .any, .any, .any, .any, .any, .any, .any, .any, .any, .any, .any, .any, .any, .any, .any, .any, .any, .any, .any, .any, .any, .any, .any, .any, .any, .any, .any, .any, .any, .any, .any, .any, .any, .any, .any, .any, .any, .any, .any, .any, .any, .any, .any, .any, .any, .any, .any, .any, .any, .any, .any, .any, .any, .any, .any, .any, .any, .any], []⟩ : S)) (fun k => k ≤ b.length) (fun k => b.length - k) 0 (Wk.slots (by simp)) (by omega) ?_
        intro k hk
        refine vc_sound h.mo _ _ _ (by kernel_rfl) ?_
        rcases Nat.lt_or_ge k b.length with hlt | hge
        · have hlt2 : a.length + k < l.length := by omega
          have he := eb k hlt hlt2
          have hi : IntKind.i64.wrap ((a.length : Int) + k) = ((a.length + k : Nat) : Int) := by rw [i64_id (by omega) (by omega)]; omega
          simp only [Int.natCast_add] at hi
          have hj1 : (0 : Int) ≤ (a.length : Int) + k := by omega
          have hj2 : (a.length : Int) + k < l.length := by omega
          have hj3 : ((a.length : Int) + k).toNat = a.length + k := by omega
          simp [h, hlt, hi, hj1, hj2, hj3, hlt2, he]
          exact ⟨k + 1, Wk.slots (by simp [i64_id (show -9223372036854775808 ≤ (k : Int) + 1 by omega) (by omega)]), by omega, by omega⟩
        · have hk2 : k = b.length := by omega
          subst hk2
          simp [h]
          refine xcall_scal (c_Check h nl1 f1 a (by omega)) (by simp) ?_
          rintro _ rfl
          simp [g1]
          refine xcall_scal (c_Check h nl2 f2 b (by omega)) (by simp) ?_
          rintro _ rfl
          simp [g2]
          refine aw _ _ ?_
          simp
    · simp [hc]
      refine aw _ _ ?_
      simp
  · have hlen' : (400 : Int) < l.length := by omega
    simp [h, hlen']
    refine aw _ _ ?_
    simp
end Go.Proofs.Ytmegdnfihhikhaa
