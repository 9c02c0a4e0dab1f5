/- Chapter 37: the law HistoryCuts, over any program that has its text. -/
import Derived.Test.YtbefchnpilmajaaE11
import Derived.Test.YtbefchnpilmajaaL1
namespace Go.Proofs.Ytbefchnpilmajaa
open Go.AL
variable {P : Program} [h : Facts P]

theorem lessB_iff (x y : TEvent) : lessB x y = true ↔ x.fTime < y.fTime ∨ (x.fTime = y.fTime ∧ (x.fPrio < y.fPrio ∨ (x.fPrio = y.fPrio ∧ (x.fFrom < y.fFrom ∨ (x.fFrom = y.fFrom ∧ x.fSeq < y.fSeq))))) := by
  unfold lessB
  split
  · rw [decide_eq_true_iff]; omega
  · split
    · rw [decide_eq_true_iff]; omega
    · split
      · rw [decide_eq_true_iff]; omega
      · rw [decide_eq_true_iff]; omega
theorem lessB_trans {x y z : TEvent} (h1 : lessB x y = true) (h2 : lessB y z = true) : lessB x z = true := by
  rw [lessB_iff] at h1 h2 ⊢
  omega
theorem lessB_time {x y : TEvent} (h1 : lessB x y = true) : x.fTime ≤ y.fTime := by
  rw [lessB_iff] at h1
  omega
theorem laterB_iff (x : TPast) (e : TEvent) : laterB x e = lessB e x.fEvent := by
  rw [Bool.eq_iff_iff]
  unfold laterB
  rw [Bool.or_eq_true, Bool.and_eq_true, decide_eq_true_iff, decide_eq_true_iff, lessB_iff]
  omega

/-- Are the first k in order? -/
def ordTo (l : List TPast) : Nat → Bool
  | 0 => true
  | k + 1 => ordTo l k && (match l[k - 1]?, l[k]? with | some x, some y => k == 0 || lessB x.fEvent y.fEvent | _, _ => true)
theorem ordTo_one (l : List TPast) : ordTo l 1 = true := by
  unfold ordTo
  simp only [ordTo, Bool.true_and]
  split <;> rfl
theorem ordTo_succ {l : List TPast} {k : Nat} (h1 : 1 ≤ k) (hk : k < l.length) : ordTo l (k + 1) = (ordTo l k && lessB (l[k - 1]'(by omega)).fEvent l[k].fEvent) := by
  rw [ordTo, List.getElem?_eq_getElem hk, List.getElem?_eq_getElem (show k - 1 < l.length by omega)]
  have : (k == 0) = false := by simp; omega
  simp [this]
theorem ordTo_get {l : List TPast} {n : Nat} (hn : n ≤ l.length) (ho : ordTo l n = true) {k : Nat} (h1 : 1 ≤ k) (hk : k < n) : lessB (l[k - 1]'(by omega)).fEvent (l[k]'(by omega)).fEvent = true := by
  induction n with
  | zero => omega
  | succ n ih =>
    by_cases hkn : k < n
    · have : ordTo l n = true := by rw [ordTo] at ho; simp only [Bool.and_eq_true] at ho; exact ho.1
      exact ih (by omega) this hkn
    · have hkn : k = n := by omega
      subst hkn
      rw [ordTo_succ h1 (by omega)] at ho
      simp only [Bool.and_eq_true] at ho
      exact ho.2

theorem cut_rest {l : List TPast} {e : TEvent} {n : Nat} (hn : l.findIdx (fun x => laterB x e) = n) {k : Nat} (hk : k < (l.drop n).length) (ho : k = 0 ∨ ordTo l l.length = true) : lessB e (l.drop n)[k].fEvent = true := by
  simp only [List.length_drop] at hk
  have h0 : n < l.length := by omega
  have hf : lessB e l[n].fEvent = true := by
    have := List.findIdx_getElem (p := fun x => laterB x e) (xs := l) (w := by rw [hn]; exact h0)
    rw [laterB_iff] at this
    simpa only [hn] using this
  simp only [List.getElem_drop]
  revert hk ho
  induction k with
  | zero => exact fun _ _ => hf
  | succ k ih =>
    intro ho hk
    rcases ho with ho | ho
    · exact absurd ho (Nat.succ_ne_zero k)
    · have h1 := ih (by simp; omega) (.inr ho) (by omega)
      have h2 := ordTo_get (Nat.le_refl _) ho (k := n + (k + 1)) (by omega) (by omega)
      have e1 : n + (k + 1) - 1 = n + k := by omega
      simp only [e1] at h2
      exact lessB_trans h1 h2
theorem cut_first {l : List TPast} {e : TEvent} {n : Nat} (hn : l.findIdx (fun x => laterB x e) = n) {k : Nat} (hk : k < (l.take n).length) : lessB e (l.take n)[k].fEvent = false := by
  have h1 : k < n := by simp at hk; omega
  have h2 : k < l.length := by simp at hk; omega
  have := List.not_of_lt_findIdx (p := fun x => laterB x e) (xs := l) (i := k) (by rw [hn]; exact h1)
  simp only [laterB_iff] at this
  simpa using this

set_option maxHeartbeats 2000000 in
set_option maxRecDepth 20000 in
theorem c_HistoryCuts (l : List TPast) (e : TEvent) (hl : l.length ≤ 9223372036854775807) (hok : ∀ y ∈ l, y.ok) : FCall P 4 [Ls false l, .agg e.cells] (fun r => r = .bool true) := by
  refine fcall_of h.f4 rfl (by decide) h.mo (by kernel_rfl) fun X hX => ?_
  simp
  refine xcall_fr (c_light l hl) (by simp) ?_
  rintro _ ⟨b, rfl, hb⟩
  cases b with
  | false =>
    simp
    refine xcall_fn c_awake (by simp) ?_
    simp
  | true =>
    have h40 := (hb rfl).1
    have hfit : fitL l := ⟨hl, fun x hx => (hok x hx).1.2.2.2.2.2.2.2.2.1⟩
    simp
    refine xcall_fn (c_Cut l e hfit) (by simp) ?_
    obtain ⟨n, hn⟩ : ∃ n, l.findIdx (fun x => laterB x e) = n := ⟨_, rfl⟩
    rw [hn]
    have hF : ∀ k (hk : k < (l.take n).length), lessB e (l.take n)[k].fEvent = false := fun k hk => cut_first hn hk
    have hR : ∀ k (hk : k < (l.drop n).length), (k = 0 ∨ ordTo l l.length = true) → lessB e (l.drop n)[k].fEvent = true := fun k hk ho => cut_rest hn hk ho
    have hab : l.take n ++ l.drop n = l := List.take_append_drop n l
    generalize l.take n = a at hF hab
    generalize l.drop n = b at hR hab
    clear hn
    have hal : a.length + b.length = l.length := by rw [← hab]; simp
    simp
    refine ⟨⟨by omega, by omega⟩, ⟨by omega, by omega⟩, ?_⟩
    refine xcall_fn (c_R37Same l hl hok) (by simp [← hab]) ?_
    simp
    refine awp_loop (σ := Nat) (fun k => (⟨[Ls false l, .any, .any, .pto 0 9 0 0, .any, Ls false a, Ls false b, .bool (ordTo l k), .int .i64 k, .any, .any, .any, .any, .any, .any, .any, .any, .any, .any, .any, .any, .any, .any, .any, .any, .any, .any, .any, .any, .any, .any, .any, .any, .any, .any, .any, .any, .any, .any, .any, .any, .any, .any, .any, .any, .any, .any, .any, .any, .any, .any, .any, .any, .any, .any, .any, .any, .any, .any, .any, .any, .any, .any, .any, .any, .any, .any, .any, .any, .any, .any, .any, .any, .any, .any, .any, .any, .any, .any, .any, .any, .any, .any, .any, .any, .any, .any, .any, .any, .any, .any, .any, .any, .any, .any, .any, .any, .any, .any, .any, .any, .any, .any, .any, .any, .any, .any], [⟨26, 9, [.agg e.cells], 0, true⟩]⟩ : S)) (fun k => 1 ≤ k ∧ (k ≤ 1 ∨ k ≤ l.length)) (fun k => l.length + 1 - k) 1 (Wk.ren 0 [0] hX rfl (by decide) (by simp [ordTo_one]) (by simp) (by simp) (by simp)) ⟨by omega, by omega⟩ ?_
    rintro k ⟨hk0, hk⟩
    refine vc_sound h.mo _ _ _ (by kernel_rfl) ?_
    rcases Nat.lt_or_ge k l.length with hlt | hge
    · have hk1 := wrap_succ hlt hl
      have hk2 := wrap_pred hlt hl
      have hj : k - 1 < l.length := by omega
      have h1k : (1 : Int) ≤ k := by omega
      have e1 := ordTo_succ hk0 hlt
      cases hc : ordTo l k with
      | false =>
        rw [hc] at e1
        simp [hlt]
        exact ⟨k + 1, Wk.ren 0 [0] hX rfl (by decide) (by simp [hk1, e1]) (by simp) (by simp) (by simp), ⟨by omega, by omega⟩, by omega⟩
      | true =>
        rw [hc] at e1
        simp [hlt, hj, hk2, h1k]
        refine ⟨_, ecall_of (c_RLess l[k - 1].fEvent l[k].fEvent) (by simp), ?_⟩
        exact ⟨k + 1, Wk.ren 0 [0] hX rfl (by decide) (by simp [hk1, e1]) (by simp) (by simp) (by simp), ⟨by omega, by omega⟩, by omega⟩
    have ho : ordTo l k = ordTo l l.length := by
      rcases hk with hk | hk
      · have : k = 1 := by omega
        subst this
        rcases Nat.lt_or_ge l.length 1 with h1 | h1
        · have : l.length = 0 := by omega
          rw [this, ordTo_one]; rfl
        · have : l.length = 1 := by omega
          rw [this]
      · rw [show k = l.length by omega]
    have hnl : ¬ k < l.length := by omega
    rw [ho]
    generalize ordTo l l.length = o at hR
    simp [hnl]
    refine awp_loop (σ := Nat) (fun k => (⟨[Ls false l, .any, .any, .pto 0 9 0 0, .any, Ls false a, Ls false b, .bool o, .any, .int .i64 k, .any, .any, .any, .any, .any, .any, .any, .any, .any, .any, .any, .any, .any, .any, .any, .any, .any, .any, .any, .any, .any, .any, .any, .any, .any, .any, .any, .any, .any, .any, .any, .any, .any, .any, .any, .any, .any, .any, .any, .any, .any, .any, .any, .any, .any, .any, .any, .any, .any, .any, .any, .any, .any, .any, .any, .any, .any, .any, .any, .any, .any, .any, .any, .any, .any, .any, .any, .any, .any, .any, .any, .any, .any, .any, .any, .any, .any, .any, .any, .any, .any, .any, .any, .any, .any, .any, .any, .any, .any, .any, .any, .any, .any, .any, .any, .any, .any], [⟨26, 9, [.agg e.cells], 0, true⟩]⟩ : S)) (fun k => k ≤ a.length) (fun k => a.length - k) 0 (Wk.ren 0 [0] hX rfl (by decide) (by simp) (by simp) (by simp) (by simp)) (by omega) ?_
    clear hnl ho hge hk hk0 k
    rintro k hk
    refine vc_sound h.mo _ _ _ (by kernel_rfl) ?_
    rcases Nat.lt_or_ge k a.length with hlt | hge
    · have hk1 := wrap_succ hlt (by omega)
      obtain ⟨x, hx⟩ : ∃ x, a[k] = x := ⟨_, rfl⟩
      have hf := hF k hlt
      rw [hx] at hf
      have hf2 : x.fEvent.fTime ≤ e.fTime := by
        rw [Bool.eq_false_iff, ne_eq, lessB_iff] at hf
        omega
      simp [hlt, hx, hf2]
      refine ⟨_, ecall_of (c_RLess e x.fEvent) (by simp), ?_⟩
      simp [hf]
      exact ⟨k + 1, Wk.ren 0 [0] hX rfl (by decide) (by simp [hk1]) (by simp) (by simp) (by simp), by omega, by omega⟩
    have hnl : ¬ k < a.length := by omega
    simp [hnl]
    refine awp_loop (σ := Nat) (fun k => (⟨[Ls false l, .any, .any, .pto 0 9 0 0, .any, .any, Ls false b, .bool o, .any, .any, .int .i64 k, .any, .any, .any, .any, .any, .any, .any, .any, .any, .any, .any, .any, .any, .any, .any, .any, .any, .any, .any, .any, .any, .any, .any, .any, .any, .any, .any, .any, .any, .any, .any, .any, .any, .any, .any, .any, .any, .any, .any, .any, .any, .any, .any, .any, .any, .any, .any, .any, .any, .any, .any, .any, .any, .any, .any, .any, .any, .any, .any, .any, .any, .any, .any, .any, .any, .any, .any, .any, .any, .any, .any, .any, .any, .any, .any, .any, .any, .any, .any, .any, .any, .any, .any, .any, .any, .any, .any, .any, .any, .any, .any, .any, .any, .any, .any, .any], [⟨26, 9, [.agg e.cells], 0, true⟩]⟩ : S)) (fun k => k ≤ b.length) (fun k => b.length - k) 0 (Wk.ren 0 [0] hX rfl (by decide) (by simp) (by simp) (by simp) (by simp)) (by omega) ?_
    clear hnl hge hk k
    rintro k hk
    refine vc_sound h.mo _ _ _ (by kernel_rfl) ?_
    rcases Nat.lt_or_ge k b.length with hlt | hge
    · have hk1 := wrap_succ hlt (by omega)
      obtain ⟨x, hx⟩ : ∃ x, b[k] = x := ⟨_, rfl⟩
      have hgo : (k = 0 ∨ o = true) → e.fTime ≤ x.fEvent.fTime ∧ lessB e x.fEvent = true := fun ho => by
        have hf := hR k hlt ho
        rw [hx] at hf
        exact ⟨lessB_time hf, hf⟩
      rcases Nat.eq_zero_or_pos k with rfl | hpos
      · obtain ⟨g1, g2⟩ := hgo (.inl rfl)
        simp [hlt, hx, g1]
        refine ⟨_, ecall_of (c_RLess e x.fEvent) (by simp), ?_⟩
        simp [g2]
        exact ⟨1, Wk.ren 0 [0] hX rfl (by decide) (by simp) (by simp) (by simp) (by simp), by omega, by omega⟩
      · have hk0 : ¬ k = 0 := by omega
        cases o with
        | true =>
          obtain ⟨g1, g2⟩ := hgo (.inr rfl)
          simp [hlt, hx, g1, hk0]
          refine ⟨_, ecall_of (c_RLess e x.fEvent) (by simp), ?_⟩
          simp [g2]
          exact ⟨k + 1, Wk.ren 0 [0] hX rfl (by decide) (by simp [hk1]) (by simp) (by simp) (by simp), by omega, by omega⟩
        | false =>
          simp [hlt, hk0]
          refine xcall_fn c_awake (by simp) ?_
          simp
    · have hnl : ¬ k < b.length := by omega
      simp [hnl]
      refine xcall_fn c_awake (by simp) ?_
      simp
end Go.Proofs.Ytbefchnpilmajaa
