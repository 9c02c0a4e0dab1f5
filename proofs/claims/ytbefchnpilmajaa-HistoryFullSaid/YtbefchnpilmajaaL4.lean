/- Chapter 37: the law HistoryFull, over any program that has its text. -/
import Derived.Test.YtbefchnpilmajaaL1
namespace Go.Proofs.Ytbefchnpilmajaa
open Go.AL
variable {P : Program} [h : Facts P]

def fullL (k : Nat) : List TPast := (List.range k).map fun (i : Nat) => atT ((i : Int) / 2) (i : Int)
@[simp] theorem fullL_zero : fullL 0 = [] := rfl
theorem fullL_succ (k : Nat) : fullL (k + 1) = fullL k ++ [atT ((k : Int) / 2) (k : Int)] := by simp [fullL, List.range_succ]
theorem fullL_len (k : Nat) : (fullL k).length = k := by simp [fullL]
theorem fullL_get {k i : Nat} (hi : i < k) : (fullL k)[i]? = some (atT ((i : Int) / 2) (i : Int)) := by simp [fullL, hi]

theorem good_full {k i : Nat} {t : List TPast} (hi : i < k) : goodB (fullL k ++ t) i = true := by
  have h1 : (fullL k ++ t)[i]? = some (atT ((i : Int) / 2) (i : Int)) := by rw [List.getElem?_append_left (by simpa [fullL_len] using hi), fullL_get hi]
  rcases Nat.eq_zero_or_pos i with rfl | hp
  · simp [goodB, h1, atT, emptyState]
  · have h2 : (fullL k ++ t)[i - 1]? = some (atT (((i - 1 : Nat) : Int) / 2) ((i - 1 : Nat) : Int)) := by rw [List.getElem?_append_left (by simp [fullL_len]; omega), fullL_get (by omega)]
    rw [goodB_pos hp h1 h2]
    simp only [atT, emptyState]
    refine Bool.and_eq_true_iff.2 ⟨decide_eq_true (by omega), decide_eq_true (by omega)⟩
theorem good_last {k : Nat} : goodB (fullL k ++ [atT (k : Int) (k : Int)]) k = true := by
  have h1 : (fullL k ++ [atT (k : Int) (k : Int)])[k]? = some (atT (k : Int) (k : Int)) := by rw [List.getElem?_append_right (by simp [fullL_len])]; simp [fullL_len]
  rcases Nat.eq_zero_or_pos k with rfl | hp
  · simp [goodB, atT, emptyState]
  · have h2 : (fullL k ++ [atT (k : Int) (k : Int)])[k - 1]? = some (atT (((k - 1 : Nat) : Int) / 2) ((k - 1 : Nat) : Int)) := by rw [List.getElem?_append_left (by simp [fullL_len]; omega), fullL_get (by omega)]
    rw [goodB_pos hp h1 h2]
    simp only [atT, emptyState]
    refine Bool.and_eq_true_iff.2 ⟨decide_eq_true (by omega), decide_eq_true (by omega)⟩
theorem hchk_full {k : Nat} (hk : k ≤ 5000) : hchk (fullL k) = 0 := by
  unfold hchk
  rw [if_neg (by simp [fullL_len]; omega), if_pos]
  refine List.all_eq_true.2 fun i hi => ?_
  have := good_full (t := []) (k := k) (i := i) (by simpa [fullL_len] using hi)
  simpa using this
theorem hchk_last {k : Nat} (hk : k < 5000) : hchk (fullL k ++ [atT (k : Int) (k : Int)]) = 0 := by
  unfold hchk
  rw [if_neg (by simp [fullL_len]; omega), if_pos]
  refine List.all_eq_true.2 fun i hi => ?_
  simp [fullL_len] at hi
  rcases Nat.lt_or_ge i k with h1 | h1
  · exact good_full h1
  · have : i = k := by omega
    subst this; exact good_last
theorem hchk_long {l : List TPast} (hk : 5000 < l.length) : hchk l = 6 := by unfold hchk; rw [if_pos (by omega)]

set_option maxHeartbeats 2000000 in
theorem c_HistoryFull (n : Int) : FCall P 6 [.int .i64 n] (fun r => r = .bool true) := by
  refine fcall_of h.f6 rfl (by decide) h.mo (by kernel_rfl) fun X hX => ?_
  have aw : ∀ {x : A → List Row → Prop} {H : List Row}, x (.bool true) H → XCall P 10 [] H x := fun hx => xcall_fn c_awake (by simp) (by simpa using hx)
  simp
  refine ⟨fun h1 => ⟨fun h2 => ?_, fun h2 => ?_⟩, fun h1 => ?_⟩
  · refine xcall_fn c_awake (by simp) ?_
    simp
  · obtain ⟨m, rfl⟩ : ∃ m : Nat, n = (m : Int) := ⟨n.toNat, by omega⟩
    refine awp_loop (σ := Nat) (fun k => (⟨[.int .i64 m, .any, .any, B 0 (fullL k), .int .i64 k, .any, .any, .any, .any, .any, .any, .any, .any, .any, .any, .any, .any, .any, .any, .any, .any, .any, .any, .any, .any, .any, .any, .any, .any, .any, .any, .any, .any, .any, .any, .any, .any, .any, .any, .any, .any, .any, .any, .any, .any, .any, .any, .any, .any, .any, .any, .any, .any, .any, .any, .any, .any, .any, .any, .any, .any, .any, .any, .any, .any, .any, .any, .any, .any, .any, .any, .any, .any, .any, .any, .any, .any, .any, .any, .any, .any, .any, .any, .any, .any, .any, .any], [RW 40 (fullL k)]⟩ : S)) (fun k => k ≤ m) (fun k => m - k) 0 (Wk.ren 0 [0] hX rfl (by decide) (by simp) (by simp) (by simp) (by simp)) (by omega) ?_
    rintro k hk
    refine vc_sound h.mo _ _ _ (by kernel_rfl) ?_
    rcases Nat.lt_or_ge k m with hlt | hge
    · have hk1 := wrap_succ hlt (by omega)
      have hd : IntKind.i64.wrap ((k : Int) / 2) = (k : Int) / 2 := i64_id (by omega) (by omega)
      simp [hlt, hd]
      refine xcall_fn (c_at ((k : Int) / 2) k) (by simp) ?_
      simp
      refine ⟨⟨by simp [fullL_len]; omega, by simp [fullL_len]; omega⟩, ?_⟩
      exact ⟨k + 1, Wk.ren 0 [2] hX rfl (by decide) (by simp [hk1, fullL_succ]) (by simp) (by simp) (by simp [fullL_succ]), by omega, by omega⟩
    · have hkm : k = m := by omega
      subst hkm
      simp
      refine xcall_fn (c_at k k) (by simp) ?_
      simp
      refine xcall_fn (c_Push (fullL k) (atT k k) (by simp [fullL_len]; omega)) (by simp) ?_
      simp
      rcases Nat.lt_or_ge 5000 k with hb | hb
      · have e1 : pushE (fullL k) (atT k k) = 6 := by simp [pushE, hchk_long (l := fullL k) (by simp [fullL_len]; omega)]
        have e2 : pushL (fullL k) (atT k k) = [] := by simp [pushL, e1]
        have g1 : (5000 : Int) < k := by omega
        have g1' : ¬ (k : Int) ≤ 5000 := by omega
        simp [e1, e2, g1, g1']
        refine xcall_fn (c_HCheck (fullL k) (by simp [fullL_len]; omega)) (by simp) ?_
        simp [hchk_long (l := fullL k) (by simp [fullL_len]; omega)]
        refine xcall_fn c_awake (by simp) ?_
        simp
      · rcases Nat.lt_or_ge k 5000 with hc | hc
        · have e1 : pushE (fullL k) (atT k k) = 0 := by simp [pushE, hchk_full hb, hchk_last hc, fullL_len]; omega
          have e2 : pushL (fullL k) (atT k k) = fullL k ++ [atT k k] := by simp [pushL, e1]
          have g1 : ¬ (5000 : Int) < k := by omega
          have g2 : ¬ (k : Int) = 5000 := by omega
          have g3 := wrap_succ (show k < 5000 from hc) (by omega)
          have g1' : (k : Int) ≤ 5000 := by omega
          simp [e1, e2, g1, g1', g2]
          refine xcall_fn (c_HCheck (fullL k) (by simp [fullL_len]; omega)) (by simp) ?_
          simp [hchk_full hb, g3, fullL_len]
          refine xcall_fn c_awake (by simp) ?_
          simp
        · have hk5 : k = 5000 := by omega
          subst hk5
          have e1 : pushE (fullL 5000) (atT (5000 : Nat) (5000 : Nat)) = 13 := by simp [pushE, hchk_full hb, fullL_len]
          have e2 : pushL (fullL 5000) (atT (5000 : Nat) (5000 : Nat)) = [] := by unfold pushL; rw [e1]; rfl
          simp at e1 e2
          simp [e1, e2]
          refine xcall_fn (c_HCheck (fullL 5000) (by simp [fullL_len])) (by simp) ?_
          simp [hchk_full hb]
          refine xcall_fn c_awake (by simp) ?_
          simp
  · refine xcall_fn c_awake (by simp) ?_
    simp
end Go.Proofs.Ytbefchnpilmajaa
