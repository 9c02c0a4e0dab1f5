/- Chapter 37: the law HistoryOld, over any program that has its text. -/
import Derived.Test.YtbefchnpilmajaaL5
namespace Go.Proofs.Ytbefchnpilmajaa
open Go.AL
variable {P : Program} [h : Facts P]

theorem ok_get {l : List TPast} (h0 : hchk l = 0) {k : Nat} (hk : k < l.length) : goodB l k = true := by
  have : okTo l l.length = true := by
    unfold hchk at h0
    split at h0
    · cases h0
    · split at h0
      · assumption
      · cases h0
  exact List.all_eq_true.1 this k (List.mem_range.2 hk)
theorem ok_step {l : List TPast} (h0 : hchk l = 0) {k : Nat} (hk : k + 1 < l.length) : (l[k]'(by omega)).fEvent.fTime ≤ l[k + 1].fEvent.fTime := by
  have h1 := ok_get h0 hk
  rw [goodB_pos (by omega) (List.getElem?_eq_getElem hk) (y := l[k]'(by omega)) (by rw [Nat.add_sub_cancel]; exact List.getElem?_eq_getElem (by omega))] at h1
  simp only [Bool.and_eq_true, decide_eq_true_eq] at h1
  exact h1.2
theorem old_rest {l : List TPast} {t : Int} {n : Nat} (hn : l.findIdx (fun x => decide (t ≤ x.fEvent.fTime)) = n) (h0 : hchk l = 0) {k : Nat} (hk : k < (l.drop n).length) : t ≤ (l.drop n)[k].fEvent.fTime := by
  have key : ∀ k (hk : n + k < l.length), t ≤ l[n + k].fEvent.fTime := by
    intro k
    induction k with
    | zero =>
      intro hk
      have := List.findIdx_getElem (p := fun x => decide (t ≤ x.fEvent.fTime)) (xs := l) (w := by rw [hn]; omega)
      simpa only [hn, decide_eq_true_eq, Nat.add_zero] using this
    | succ k ih =>
      intro hk
      have h1 := ih (by omega)
      have h2 := ok_step h0 (k := n + k) (by omega)
      have e1 : n + (k + 1) = n + k + 1 := by omega
      simp only [e1]
      omega
  simp only [List.getElem_drop]
  exact key k (by simp at hk; omega)
theorem old_first {l : List TPast} {t : Int} {n : Nat} (hn : l.findIdx (fun x => decide (t ≤ x.fEvent.fTime)) = n) {k : Nat} (hk : k < (l.take n).length) : (l.take n)[k].fEvent.fTime < t := by
  have h1 : k < n := by simp at hk; omega
  have := List.not_of_lt_findIdx (p := fun x => decide (t ≤ x.fEvent.fTime)) (xs := l) (i := k) (by rw [hn]; exact h1)
  simpa using this
theorem evs_app (a b : List TPast) : evsOf (a ++ b) = evsOf a ++ evsOf b := List.flatMap_append

set_option maxHeartbeats 2000000 in
set_option maxRecDepth 20000 in
theorem c_HistoryOld (l : List TPast) (t : Int) (hl : l.length ≤ 9223372036854775807) (hok : ∀ y ∈ l, y.ok) : FCall P 8 [Ls false l, .int .i64 t] (fun r => r = .bool true) := by
  refine fcall_of h.f8 rfl (by decide) h.mo (by kernel_rfl) fun X hX => ?_
  simp
  refine xcall_fr (c_light l hl) (by simp) ?_
  rintro _ ⟨b, rfl, hb⟩
  cases b with
  | false =>
    simp
    refine xcall_fn c_awake (by simp) ?_
    simp
  | true =>
    have hfit : fitL l := ⟨hl, fun x hx => (hok x hx).1.2.2.2.2.2.2.2.2.1⟩
    obtain ⟨h40, h60⟩ := hb rfl
    have hev := evs_len h60
    have hso := evs_ok hok
    simp
    refine xcall_fn (c_Old l t hfit) (by simp) ?_
    obtain ⟨n, hn⟩ : ∃ n, l.findIdx (fun x => decide (t ≤ x.fEvent.fTime)) = n := ⟨_, rfl⟩
    rw [hn]
    have hF : ∀ k (hk : k < (l.take n).length), (l.take n)[k].fEvent.fTime < t := fun k hk => old_first hn hk
    have hR : hchk l = 0 → ∀ k (hk : k < (l.drop n).length), t ≤ (l.drop n)[k].fEvent.fTime := fun h0 k hk => old_rest hn h0 hk
    have hab : l.take n ++ l.drop n = l := List.take_append_drop n l
    generalize l.take n = a at hF hab
    generalize l.drop n = b at hR hab
    clear hn
    have hal : a.length + b.length = l.length := by rw [← hab]; simp
    have hes : evsOf a ++ evsOf b = evsOf l := by rw [← evs_app, hab]
    have hel : (evsOf a).length + (evsOf b).length = (evsOf l).length := by rw [← hes]; simp
    have hsa : fitS a := ⟨by omega, by omega⟩
    have hsb : fitS b := ⟨by omega, by omega⟩
    have hsl : fitS l := ⟨by omega, by omega⟩
    simp
    refine ⟨⟨by omega, by omega⟩, ⟨by omega, by omega⟩, ?_⟩
    refine xcall_fn (c_R37Same l hl hok) (by simp [← hab]) ?_
    simp
    refine xcall_fn (c_Sends a hsa) (by simp) ?_
    simp
    refine ⟨⟨by omega, by omega⟩, ?_⟩
    refine xcall_fn (c_Sends b hsb) (by simp) ?_
    simp
    refine ⟨⟨by omega, by omega⟩, ?_⟩
    refine xcall_fn (c_Sends l hsl) (by simp) ?_
    simp
    refine xcall_fn (c_SameAll (evsOf l) (by omega) hso) (by simp [← hes]) ?_
    simp
    refine awp_loop (σ := Nat) (fun k => (⟨[Ls false l, .int .i64 t, .any, .any, .any, Ls false a, Ls false b, .int .i64 k, .any, .any, .any, .any, .any, .any, .any, .any, .any, .any, .any, .any, .any, .any, .any, .any, .any, .any, .any, .any, .any, .any, .any, .any, .any, .any, .any, .any, .any, .any, .any, .any, .any, .any, .any, .any, .any, .any, .any, .any, .any, .any, .any, .any, .any, .any, .any, .any, .any, .any, .any, .any, .any, .any, .any, .any, .any, .any, .any, .any, .any, .any, .any, .any, .any, .any], []⟩ : S)) (fun k => k ≤ a.length) (fun k => a.length - k) 0 (Wk.ren 0 [] hX rfl (by decide) (by simp) (by simp) (by simp) (by simp)) (by omega) ?_
    rintro k hk
    refine vc_sound h.mo _ _ _ (by kernel_rfl) ?_
    rcases Nat.lt_or_ge k a.length with hlt | hge
    · have hk1 := wrap_succ hlt (by omega)
      have h1 := hF k hlt
      have h2 : ¬ t ≤ a[k].fEvent.fTime := by omega
      simp [hlt, h2]
      exact ⟨k + 1, Wk.ren 0 [] hX rfl (by decide) (by simp [hk1]) (by simp) (by simp) (by simp), by omega, by omega⟩
    clear hk
    simp [hge]
    refine awp_loop (σ := Nat) (fun k => (⟨[Ls false l, .int .i64 t, .any, .any, .any, Ls false a, Ls false b, .any, .int .i64 k, .any, .any, .any, .any, .any, .any, .any, .any, .any, .any, .any, .any, .any, .any, .any, .any, .any, .any, .any, .any, .any, .any, .any, .any, .any, .any, .any, .any, .any, .any, .any, .any, .any, .any, .any, .any, .any, .any, .any, .any, .any, .any, .any, .any, .any, .any, .any, .any, .any, .any, .any, .any, .any, .any, .any, .any, .any, .any, .any, .any, .any, .any, .any, .any, .any], []⟩ : S)) (fun k => k ≤ b.length) (fun k => b.length - k) 0 (Wk.ren 0 [] hX rfl (by decide) (by simp) (by simp) (by simp) (by simp)) (by omega) ?_
    rintro k hk
    refine vc_sound h.mo _ _ _ (by kernel_rfl) ?_
    rcases Nat.lt_or_ge k b.length with hlt | hge
    · have hk1 := wrap_succ hlt (by omega)
      simp [hlt]
      refine xcall_fn (c_HCheck l hl) (by simp) ?_
      simp
      refine ⟨fun h0 => ?_, fun h0 => ?_⟩
      · have h1 := hR h0 k hlt
        have h2 : ¬ b[k].fEvent.fTime < t := by omega
        simp [hlt, h2]
        exact ⟨k + 1, Wk.ren 0 [] hX rfl (by decide) (by simp [hk1]) (by simp) (by simp) (by simp), by omega, by omega⟩
      · refine xcall_fn c_awake (by simp) ?_
        simp
    · have hge2 : ¬ k < b.length := by omega
      simp [hge2]
      refine xcall_fn c_awake (by simp) ?_
      simp
end Go.Proofs.Ytbefchnpilmajaa
