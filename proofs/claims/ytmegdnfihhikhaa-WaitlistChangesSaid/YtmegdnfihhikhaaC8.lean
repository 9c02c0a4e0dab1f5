/- Chapter 23: what the chapter's own Wait, Signal and Leave compute, and the law WaitlistChanges, over any program that has their text. -/
import Derived.Test.YtmegdnfihhikhaaC6
namespace Go.Proofs.Ytmegdnfihhikhaa
open Go.AL
variable {P : Program} (h : Facts P)
include h
theorem c_RWait (nl full : Bool) (l : List Int) (p : Int) (hl : l.length ≤ 4000000000000000000) : FCall P 14 [.sl nl full (l.map (A.int .i64)), .int .i64 p] (isWait l p) := by
  refine fcall_of h.f14 rfl (by decide) h.mo (by kernel_rfl) fun X => ?_
  simp
  refine xcall_scal (c_RCheck h nl full l hl) (by simp) ?_
  rintro _ rfl
  by_cases hc : chk l = 0
  · simp [hc]
    refine ⟨fun h0 => ⟨fun h1 => by simp [isWait, waitE, hc, h1], fun h1 => ?_⟩, fun h0 => by simp [isWait, waitE, hc, h0]⟩
    refine xcall_scal (c_Index h nl full l p hl) (by simp) ?_
    rintro _ rfl
    have hr : ¬ (p < 0 ∨ p > 1000000000000) := by omega
    by_cases h2 : p ∈ l
    · have h2' : 0 ≤ idxOf l p := (idxOf_nonneg l p).2 h2
      simp [h, h2', isWait, waitE, hc, hr, h2]
    · have h2' : ¬ 0 ≤ idxOf l p := fun e => h2 ((idxOf_nonneg l p).1 e)
      have hlen : l.length ≤ 300 := by
        unfold chk at hc
        split at hc
        · simp at hc
        · omega
      simp [h, h2']
      have h300 : ∀ (e : ¬ (l.length : Int) = 300), waitE l p = 0 := by
        intro e
        exact (waitE_zero l p).2 ⟨hc, hr, h2, by omega⟩
      refine ⟨fun e => ?_, fun e => ⟨by omega, ?_⟩⟩
      · have h3' : l.length ≥ 300 := by omega
        simp only [isWait, waitE, hc, hr, h2, h3', if_true, if_false]; simp
      · have hw := h300 e
        by_cases hne : l = []
        · subst hne
          simp [h, isWait, hw]
        · have ht : List.take (l.length + 1) (List.map (A.int .i64) l ++ [A.int .i64 p]) = (l ++ [p]).map (A.int .i64) := by
            rw [List.take_of_length_le (by simp)]; simp
          have hlen2 : (l.length + 1) * 8 ≤ 140737488355328 := by omega
          have hlen3 : l.length + 1 ≤ 9223372036854775807 := by omega
          have hns : ¬ l.length + 1 ≤ l.length := by omega
          have hlen4 : l.length ≤ 9223372036854775806 := by omega
          have ht2 : List.take l.length (List.map (A.int .i64) l) = List.map (A.int .i64) l := List.take_of_length_le (by simp)
          simp [h, hne, isWait, hw, -List.map_append, ht, hns, hlen4, hlen2, ht2]
  · simp [hc, isWait, waitE]

theorem c_RSignal (nl full : Bool) (l : List Int) (n : Int) (hl : l.length ≤ 4000000000000000000) : FCall P 16 [.sl nl full (l.map (A.int .i64)), .int .i64 n] (isSig l n) := by
  refine fcall_of h.f16 rfl (by decide) h.mo (by kernel_rfl) fun X => ?_
  simp
  refine xcall_scal (c_RCheck h nl full l hl) (by simp) ?_
  rintro _ rfl
  have hs : min (max n 0) l.length = ((sigK l n : Nat) : Int) := by unfold sigK; omega
  have hle : sigK l n ≤ l.length := by unfold sigK; omega
  by_cases hc : chk l = 0
  · simp [h, hc, hs, hle]
    refine ⟨nl, (full && sigK l n == l.length), nl, full, ?_⟩
    rw [sig, if_pos hc, List.map_take, List.map_drop, List.take_of_length_le (l := List.drop _ _) (by simp)]
  · simp [h, hc, isSig, sig]

/-- A slice that is built by appends: nil, or at a row of its own. -/
def grows (v : A) (H : List Row) (xs : List Int) : Prop :=
  (v = .sl true true [] ∧ xs = []) ∨ ∃ id, v = .own id 0 xs.length xs.length false ∧ H[id]? = some ⟨3, 1, xs.map (A.int .i64), 0, true⟩

omit h in
theorem leave_filter {l : List Int} {p : Int} (hc : chk l = 0) : leave l p = l.filter (fun y => !decide (y = p)) := by
  obtain ⟨_, _, hn⟩ := (chk_zero l).1 hc
  have e : leave l p = l.erase p := by
    rw [leave, if_pos hc]
    split
    · exact (List.erase_eq_eraseIdx_of_idxOf rfl).symm
    · rename_i h
      rw [List.erase_of_not_mem h]
  rw [e, hn.erase_eq_filter]
  apply List.filter_congr
  intro y _
  by_cases e : y = p <;> simp [e]

theorem c_RLeave (nl full : Bool) (l : List Int) (p : Int) (hl : l.length ≤ 4000000000000) : FCall P 19 [.sl nl full (l.map (A.int .i64)), .int .i64 p] (fun r => isL r (leave l p)) := by
  refine fcall_of h.f19 rfl (by decide) h.mo (by kernel_rfl) fun X => ?_
  simp
  refine xcall_scal (c_RCheck h nl full l (by omega)) (by simp) ?_
  rintro _ rfl
  by_cases hc : chk l = 0
  · simp [hc]
    refine awp_loop (σ := Nat × A × List Row) (fun x => (⟨[.sl nl full (l.map (A.int .i64)), .int .i64 p, .any, .any, .any, x.2.1, .int .i64 x.1, .any, .any, .any, .any, .any, .any, .any, .any, .any, .any, .any, .any, .any, .any, .any, .any, .any, .any, .any, .any, .any, .any, .any, .any], x.2.2⟩ : S)) (fun x => x.1 ≤ l.length ∧ ∃ xs, xs = (l.take x.1).filter (fun y => !decide (y = p)) ∧ grows x.2.1 x.2.2 xs) (fun x => l.length - x.1) (0, .sl true true [], []) (Wk.slots (by simp)) ⟨by simp, [], by simp, .inl ⟨rfl, rfl⟩⟩ ?_
    rintro ⟨k, v, H⟩ ⟨hk, xs, hxs, hg⟩
    simp only at hk hxs hg ⊢
    refine vc_sound h.mo _ _ _ (by kernel_rfl) ?_
    have hxl : xs.length ≤ l.length := by
      rw [hxs]
      exact Nat.le_trans (List.length_filter_le _ _) (by simp; omega)
    rcases Nat.lt_or_ge k l.length with hlt | hge
    · obtain ⟨x, hx⟩ : ∃ x, l[k] = x := ⟨_, rfl⟩
      have hf : (l.take (k + 1)).filter (fun y => !decide (y = p)) = if x = p then xs else xs ++ [x] := by
        rw [List.take_add_one, List.filter_append, List.getElem?_eq_getElem hlt, hx, ← hxs]
        by_cases e : x = p <;> simp [e]
      have hk1 : IntKind.i64.wrap ((k : Int) + 1) = ((k + 1 : Nat) : Int) := by rw [i64_id (by omega) (by omega)]; omega
      have hm : l.length - (k + 1) < l.length - k := by omega
      rcases hg with ⟨rfl, rfl⟩ | ⟨id, rfl, hid⟩
      · simp [h, hlt, hx]
        refine ⟨fun e => ⟨k + 1, .own (H.length + 1) 0 1 1 false, _, Wk.slots (by simp [hk1]), ⟨by omega, ?_⟩, hm⟩, fun e => ⟨k + 1, .sl true true [], _, Wk.slots (by simp [hk1]), ⟨by omega, ?_⟩, hm⟩⟩
        · rw [hf, if_neg e]
          exact .inr ⟨H.length + 1, rfl, by simp⟩
        · rw [hf, if_pos e]
          exact .inl ⟨rfl, rfl⟩
      · have hidlt : id < H.length := (List.getElem?_eq_some_iff.1 hid).1
        have hid' : H[id] = ⟨3, 1, xs.map (A.int .i64), 0, true⟩ := (List.getElem?_eq_some_iff.1 hid).2
        have hb1 : xs.length ≤ 9223372036854775806 := by omega
        have hb2 : (xs.length + 1) * 8 ≤ 140737488355328 := by omega
        have hns : ¬ xs.length + 1 ≤ xs.length := by omega
        have ht2 : List.take xs.length (List.map (A.int .i64) xs) = List.map (A.int .i64) xs := List.take_of_length_le (by simp)
        simp [h, hlt, hx, hid', hidlt, List.getElem?_append, hb1, hb2, hns, ht2]
        refine ⟨fun e => ⟨k + 1, .own (H.length + 1) 0 (xs.length + 1) (xs.length + 1) false, _, Wk.slots (by simp [hk1]), ⟨by omega, ?_⟩, hm⟩, fun e => ⟨k + 1, .own id 0 xs.length xs.length false, _, Wk.slots (by simp [hk1]), ⟨by omega, ?_⟩, hm⟩⟩
        · rw [hf, if_neg e]
          exact .inr ⟨H.length + 1, by simp, by simp⟩
        · rw [hf, if_pos e]
          exact .inr ⟨_, rfl, hid⟩
    · have hk2 : k = l.length := by omega
      subst hk2
      rw [List.take_length, ← leave_filter hc] at hxs
      subst hxs
      rcases hg with ⟨rfl, he⟩ | ⟨id, rfl, hid⟩
      · simp [h, he]
        exact ⟨_, _, rfl⟩
      · have ht2 : List.take (leave l p).length (List.map (A.int .i64) (leave l p)) = List.map (A.int .i64) (leave l p) := List.take_of_length_le (by simp)
        simp [h, hid, ht2]
        exact ⟨_, _, rfl⟩
  · have hlv : leave l p = l := by simp [leave, hc]
    simp [hc, hlv]
    exact ⟨_, _, rfl⟩

theorem c_WaitlistChanges (nl full : Bool) (l : List Int) (p n : Int) (hl : l.length ≤ 9223372036854775807) : FCall P 4 [.sl nl full (l.map (A.int .i64)), .int .i64 p, .int .i64 n] (fun r => r = .bool true) := by
  refine fcall_of h.f4 rfl (by decide) h.mo (by kernel_rfl) fun X => ?_
  have aw : ∀ (H : List Row) (K : A → List Row → Prop), K (.bool true) H → XCall P 8 [] H K := fun H K hK => xcall_scal (c_awake h) (by simp) (by rintro _ rfl; exact ⟨rfl, hK⟩)
  by_cases hlen : l.length ≤ 400
  · have hlen' : ¬ (400 : Int) < l.length := by omega
    have hl' : l.length ≤ 4000000000000000000 := by omega
    have hl2 : l.length ≤ 4000000000000 := by omega
    have wl : ∀ r, isWait l p r → ∃ nl full xs, r = .tup [.sl nl full (xs.map (A.int .i64)), .int .i64 (waitE l p)] ∧ xs = if waitE l p = 0 then l ++ [p] else [] := by
      intro r hr
      unfold isWait at hr
      split at hr
      · rename_i e
        obtain ⟨f, rfl⟩ := hr
        exact ⟨false, f, _, by rw [e], by rw [if_pos e]⟩
      · rename_i e
        exact ⟨true, true, [], hr, by rw [if_neg e]⟩
    simp [h, hlen']
    refine xcall_noid (c_Wait h nl full l p hl') (by simp) ?_
    intro r hr
    obtain ⟨nl1, f1, xs, rfl, hxs⟩ := wl r hr
    simp
    refine xcall_noid (c_RWait h nl full l p hl') (by simp) ?_
    intro r hr
    obtain ⟨nl2, f2, ys, rfl, hys⟩ := wl r hr
    rw [← hxs] at hys
    subst hys
    have hxl : ys.length ≤ 4000000000000000000 := by rw [hxs]; split <;> simp; omega
    simp
    refine xcall_noid (c_Signal h nl full l n hl') (by simp) ?_
    rintro _ ⟨nl3, f3, nl4, f4, rfl⟩
    simp
    refine xcall_noid (c_RSignal h nl full l n hl') (by simp) ?_
    rintro _ ⟨nl5, f5, nl6, f6, rfl⟩
    have hs1 : (sig l n).1.length ≤ 4000000000000000000 := by unfold sig; split <;> simp; omega
    have hs2 : (sig l n).2.length ≤ 4000000000000000000 := by unfold sig; split <;> simp <;> omega
    simp
    refine xcall_scal (c_Same h nl1 f1 nl2 f2 ys ys hxl) (by simp) ?_
    rintro _ rfl
    simp
    refine xcall_scal (c_Same h nl3 f3 nl5 f5 (sig l n).1 (sig l n).1 hs1) (by simp) ?_
    rintro _ rfl
    simp
    refine xcall_scal (c_Same h nl4 f4 nl6 f6 (sig l n).2 (sig l n).2 hs2) (by simp) ?_
    rintro _ rfl
    simp
    refine xcall_noid (c_Leave h nl full l p hl2) (by simp) ?_
    rintro _ ⟨nl7, f7, rfl⟩
    simp
    refine xcall_noid (c_RLeave h nl full l p hl2) (by simp) ?_
    rintro _ ⟨nl8, f8, rfl⟩
    have hs3 : (leave l p).length ≤ 4000000000000000000 := by unfold leave; split; split; rw [List.length_eraseIdx]; split <;> omega; omega; omega
    simp
    refine xcall_scal (c_Same h nl7 f7 nl8 f8 (leave l p) (leave l p) hs3) (by simp) ?_
    rintro _ rfl
    simp
    refine aw _ _ ?_
    simp
  · have hlen' : (400 : Int) < l.length := by omega
    simp [h, hlen']
    refine aw _ _ ?_
    simp
end Go.Proofs.Ytmegdnfihhikhaa
