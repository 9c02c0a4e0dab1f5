/- Chapter 07: the examples, and the laws NamesWords, NamesFinds, NamesDistinct, NamesSplits, NamesPaths, over any program that has the text. -/
import Derived.Test.YtgpgajhaecfbgaaA4
namespace Go.Proofs.Ytgpgajhaecfbgaa
open Go.AL
variable {P : Program} [h : Facts P]

set_option maxHeartbeats 2000000 in
set_option maxRecDepth 20000 in
theorem c_awake : FCall P 13 [] (fun r => r = .bool true) := by
  refine fcall_of h.f13 rfl (by decide) h.mo (by kernel_rfl) fun X hX => ?_
  have o1 := c_Split (P := P) [115, 104, 111, 112, 46, 100, 101, 115, 107] (by decide)
  rw [show splP [115, 104, 111, 112, 46, 100, 101, 115, 107] = ([115, 104, 111, 112], [100, 101, 115, 107]) by kernel_rfl, show splB [115, 104, 111, 112, 46, 100, 101, 115, 107] = true by kernel_rfl] at o1
  have o2 := c_Split (P := P) [97, 46, 98, 46, 99] (by decide)
  rw [show splP [97, 46, 98, 46, 99] = ([], []) by kernel_rfl, show splB [97, 46, 98, 46, 99] = false by kernel_rfl] at o2
  have o3 := c_Keyword (P := P) [119, 104, 105, 108, 101]
  rw [show kwB [119, 104, 105, 108, 101] = true by kernel_rfl] at o3
  have o4 := c_Keyword (P := P) [119, 104, 105, 108, 101, 115]
  rw [show kwB [119, 104, 105, 108, 101, 115] = false by kernel_rfl] at o4
  have o5 := c_Check (P := P) [97, 95, 57] (by decide)
  rw [show nameE [97, 95, 57] = 0 by kernel_rfl] at o5
  have o6 := c_Check (P := P) [57, 97] (by decide)
  rw [show nameE [57, 97] = 3 by kernel_rfl] at o6
  have o7 := c_Check (P := P) [104, 111, 108, 100] (by decide)
  rw [show nameE [104, 111, 108, 100] = 3 by kernel_rfl] at o7
  have o8 := c_Find (P := P) [[97], [98], [98]] [98] (by decide)
  rw [show fnd [[97], [98], [98]] [98] = 1 by kernel_rfl] at o8
  have o9 := c_Find (P := P) [] [98] (by decide)
  rw [show fnd [] [98] = -1 by kernel_rfl] at o9
  have o10 := c_Distinct (P := P) [[97], [98], [97], [104, 111, 108, 100]] (by decide) (by simp)
  rw [show dstE [] [[97], [98], [97], [104, 111, 108, 100]] = 4 by kernel_rfl] at o10
  have o11 := c_Join (P := P) [115, 104, 111, 112] [100, 101, 115, 107] (by decide)
  simp
  refine xcall_fn o1 (by simp) ?_
  simp
  refine xcall_fn o2 (by simp) ?_
  simp
  refine xcall_fn o3 (by simp) ?_
  simp
  refine xcall_fn o4 (by simp) ?_
  simp
  refine xcall_fn o5 (by simp) ?_
  simp
  refine xcall_fn o6 (by simp) ?_
  simp
  refine xcall_fn o7 (by simp) ?_
  simp
  refine xcall_fn o8 (by simp) ?_
  simp
  refine xcall_fn o9 (by simp) ?_
  simp
  refine xcall_fn o10 (by simp) ?_
  simp
  refine xcall_fn o11 (by simp) ?_
  simp

theorem c_NamesWords (s : List UInt8) (hl : s.length ≤ 9223372036854775807) : FCall P 3 [.str s] (fun r => r = .bool true) := by
  refine fcall_of h.f3 rfl (by decide) h.mo (by kernel_rfl) fun X hX => ?_
  simp
  refine xcall_fn (c_Keyword s) (by simp) ?_
  simp
  refine xcall_fn (c_RKeyword s) (by simp) ?_
  simp
  refine xcall_fn (c_Check s hl) (by simp) ?_
  simp
  refine xcall_fn (c_RCheck s hl) (by simp) ?_
  simp
  refine xcall_fn c_awake (by simp) ?_
  simp

theorem fnd_or (l : List (List UInt8)) (s : List UInt8) : (fnd l s = -1 ∧ ∀ x ∈ l, x ≠ s) ∨ ∃ i : Nat, fnd l s = i ∧ ∃ hi : i < l.length, l[i] = s ∧ ∀ j (hj : j < l.length), j < i → l[j] ≠ s := by
  rcases idxZ_or (fun x => decide (x = s)) l with ⟨h1, h2⟩ | ⟨i, h1, hi, h2, h3⟩
  · exact .inl ⟨h1, fun x hx => by simpa using h2 x hx⟩
  · exact .inr ⟨i, h1, hi, by simpa using h2, fun j hj hji => by simpa using h3 j hj hji⟩
theorem c_NamesFinds (l : List (List UInt8)) (s : List UInt8) (hl : l.length ≤ 9223372036854775807) : FCall P 5 [Ls false l, .str s] (fun r => r = .bool true) := by
  refine fcall_of h.f5 rfl (by decide) h.mo (by kernel_rfl) fun X hX => ?_
  by_cases h0 : l.length ≤ 200
  case neg =>
    have h1 : (200 : Int) < l.length := by omega
    simp [h1]
    refine xcall_fn c_awake (by simp) ?_
    simp
  have h1 : ¬ (200 : Int) < l.length := by omega
  have h1' : (l.length : Int) ≤ 200 := by omega
  simp [h1, h1']
  refine xcall_fn (c_Find l s hl) (by simp) ?_
  rcases fnd_or l s with ⟨hz, hno⟩ | ⟨f, hz, hf, he, hno⟩
  · have hlz : ¬ (l.length : Int) ≤ -1 := by omega
    have hlz' : (-1 : Int) < l.length := by omega
    simp [hz, hlz, hlz']
    refine awp_loop (σ := Nat) (fun k => (⟨[Ls false l, .str s, .any, .any, .any, .int .i64 (-1), .int .i64 k, .any, .any, .any, .any, .any, .any, .any, .any, .any, .any, .any, .any, .any, .any, .any, .any, .any, .any, .any, .any, .any, .any, .any, .any, .any, .any, .any, .any, .any, .any, .any, .any, .any, .any, .any, .any, .any, .any, .any, .any, .any, .any, .any, .any, .any, .any, .any, .any, .any], []⟩ : S)) (fun k => k ≤ l.length) (fun k => l.length - k) 0 (Wk.slots (by simp)) (by omega) ?_
    rintro k hk
    refine vc_sound h.mo _ _ _ (by kernel_rfl) ?_
    rcases Nat.lt_or_ge k l.length with hlt | hge
    · have hk1 := wrap_succ hlt hl
      have g := hno _ (List.getElem_mem hlt)
      simp [hlt, g]
      exact ⟨k + 1, Wk.ren 0 [] hX rfl (by decide) (by simp [hk1]) (by simp) (by simp) (by simp), by omega, by omega⟩
    · have hge2 : ¬ k < l.length := by omega
      simp [hge2]
      refine xcall_fn c_awake (by simp) ?_
      simp
  · have h2 : ¬ (f : Int) < -1 := by omega
    have h2' : (-1 : Int) ≤ f := by omega
    have h3 : ¬ l.length ≤ f := by omega
    simp [hz, h2, h2', h3, hf, he]
    refine awp_loop (σ := Nat) (fun k => (⟨[Ls false l, .str s, .any, .any, .any, .int .i64 f, .int .i64 k, .any, .any, .any, .any, .any, .any, .any, .any, .any, .any, .any, .any, .any, .any, .any, .any, .any, .any, .any, .any, .any, .any, .any, .any, .any, .any, .any, .any, .any, .any, .any, .any, .any, .any, .any, .any, .any, .any, .any, .any, .any, .any, .any, .any, .any, .any, .any, .any, .any], []⟩ : S)) (fun k => k ≤ l.length) (fun k => l.length - k) 0 (Wk.slots (by simp)) (by omega) ?_
    rintro k hk
    refine vc_sound h.mo _ _ _ (by kernel_rfl) ?_
    rcases Nat.lt_or_ge k l.length with hlt | hge
    · have hk1 := wrap_succ hlt hl
      have h4 : ¬ (f : Int) < 0 := by omega
      by_cases g : l[k] = s
      · have g2 : ¬ k < f := fun q => hno k hlt q g
        have g3 : f ≤ k := by omega
        simp [hlt, g, h4, g2, g3]
        exact ⟨k + 1, Wk.ren 0 [] hX rfl (by decide) (by simp [hk1]) (by simp) (by simp) (by simp), by omega, by omega⟩
      · simp [hlt, g]
        exact ⟨k + 1, Wk.ren 0 [] hX rfl (by decide) (by simp [hk1]) (by simp) (by simp) (by simp), by omega, by omega⟩
    · have hge2 : ¬ k < l.length := by omega
      simp [hge2]
      refine xcall_fn c_awake (by simp) ?_
      simp

/-- In a list that is accepted each name is valid, and at its own place. -/
theorem dstE_zero : ∀ (l d : List (List UInt8)), dstE d l = 0 → ∀ k (hk : k < l.length), nameB l[k] = true ∧ l[k] ∉ d ++ l.take k
  | [], d, _, k, hk => by simp at hk
  | s :: l, d, h, k, hk => by
    rw [dstE_cons] at h
    split at h
    case isFalse => cases h
    rename_i h1
    split at h
    · cases h
    rename_i h2
    cases k with
    | zero => exact ⟨h1, by simpa using h2⟩
    | succ k =>
      obtain ⟨g1, g2⟩ := dstE_zero l _ h k (by simpa using hk)
      refine ⟨g1, ?_⟩
      simpa using g2
theorem fnd_self {l : List (List UInt8)} {k : Nat} (hk : k < l.length) (h : l[k] ∉ l.take k) : fnd l l[k] = k := by
  rcases fnd_or l l[k] with ⟨_, hno⟩ | ⟨f, hz, hf, he, hno⟩
  · exact (hno _ (List.getElem_mem hk) rfl).elim
  · rw [hz]
    rcases Nat.lt_trichotomy f k with g | g | g
    · exact (h (by rw [← he]; exact List.mem_take_iff_getElem.2 ⟨f, by omega, rfl⟩)).elim
    · rw [g]
    · exact (hno k hk g rfl).elim
theorem c_NamesDistinct (l : List (List UInt8)) (hl : l.length ≤ 9223372036854775807) (hs : ∀ s ∈ l, s.length ≤ 9223372036854775807) : FCall P 6 [Ls false l] (fun r => r = .bool true) := by
  refine fcall_of h.f6 rfl (by decide) h.mo (by kernel_rfl) fun X hX => ?_
  by_cases h0 : l.length ≤ 200
  case neg =>
    have h1 : (200 : Int) < l.length := by omega
    simp [h1]
    refine xcall_fn c_awake (by simp) ?_
    simp
  have h1 : ¬ (200 : Int) < l.length := by omega
  have h1' : (l.length : Int) ≤ 200 := by omega
  simp [h1, h1']
  refine xcall_fn (c_Distinct l hl hs) (by simp) ?_
  simp
  refine xcall_fn (c_RDistinct l hl hs) (by simp) ?_
  simp
  refine awp_loop (σ := Nat) (fun k => (⟨[Ls false l, .any, .any, .int .i64 (dstE [] l), .int .i64 k, .any, .any, .any, .any, .any, .any, .any, .any, .any, .any, .any, .any, .any, .any, .any, .any, .any, .any, .any, .any, .any, .any, .any, .any, .any, .any, .any, .any, .any, .any, .any, .any, .any, .any, .any, .any, .any], []⟩ : S)) (fun k => k ≤ l.length) (fun k => l.length - k) 0 (Wk.slots (by simp)) (by omega) ?_
  rintro k hk
  refine vc_sound h.mo _ _ _ (by kernel_rfl) ?_
  by_cases hd : dstE [] l = 0
  case neg =>
    simp [hd]
    refine ⟨fun _ => ?_, fun _ => ?_⟩
    all_goals
      refine xcall_fn c_awake (by simp) ?_
      simp
  rcases Nat.lt_or_ge k l.length with hlt | hge
  · have hk1 := wrap_succ hlt hl
    obtain ⟨g1, g2⟩ := dstE_zero l [] hd k hlt
    have g3 := fnd_self hlt (by simpa using g2)
    have hsl := hs _ (List.getElem_mem hlt)
    obtain ⟨x, hx⟩ : ∃ x, l[k] = x := ⟨_, rfl⟩
    rw [hx] at g1 g3 hsl
    have g4 : nameE x = 0 := by rw [nameE_zero]; exact g1
    simp [hd, hlt, hx]
    refine xcall_fn (c_Check x hsl) (by simp) ?_
    simp [g4, hlt, hx]
    refine xcall_fn (c_Find l x hl) (by simp) ?_
    simp [g3]
    exact ⟨k + 1, Wk.ren 0 [] hX rfl (by decide) (by simp [hk1, hd]) (by simp) (by simp) (by simp), by omega, by omega⟩
  · have hge2 : ¬ k < l.length := by omega
    simp [hd, hge2]
    refine xcall_fn c_awake (by simp) ?_
    simp

theorem nameB_len {s : List UInt8} (h : nameB s = true) : s.length ≤ 24 := by
  unfold nameB headB at h
  simp only [Bool.and_eq_true, decide_eq_true_eq] at h
  exact h.1.1.1
theorem cutP_join {s : List UInt8} (h : (cutP s).2.2 = true) : (cutP s).1 ++ 46 :: (cutP s).2.1 = s := by
  unfold cutP at h ⊢
  split at h
  case isFalse => cases h
  rename_i h0
  rw [if_pos h0]
  have hd : dotI s = idxZ (fun b => decide (b = 46)) s := rfl
  rcases idxZ_or (fun b : UInt8 => decide (b = 46)) s with ⟨hz, _⟩ | ⟨i, hz, hi, he, _⟩
  · rw [hd, hz] at h0; omega
  · simp only [hd, hz, Int.toNat_natCast]
    have he' : s[i] = 46 := by simpa using he
    conv => rhs; rw [← List.take_append_drop i s, List.drop_eq_getElem_cons hi, he']
set_option maxHeartbeats 2000000 in
theorem c_NamesSplits (s : List UInt8) (hl : s.length ≤ 9223372036854775807) : FCall P 8 [.str s] (fun r => r = .bool true) := by
  refine fcall_of h.f8 rfl (by decide) h.mo (by kernel_rfl) fun X hX => ?_
  simp
  refine xcall_fn (c_Split s hl) (by simp) ?_
  simp
  refine xcall_fn (c_RSplit s hl) (by simp) ?_
  by_cases h0 : splB s = true
  case neg =>
    simp [h0]
    refine xcall_fn c_awake (by simp) ?_
    simp
  have e : splP s = ((cutP s).1, (cutP s).2.1) := by rw [splP, if_pos h0]
  have h0' := h0
  unfold splB at h0'
  simp only [Bool.and_eq_true] at h0'
  have l1 := nameB_len h0'.1.2
  have l2 := nameB_len h0'.2
  have hj := cutP_join h0'.1.1
  simp [h0, e]
  refine xcall_fn (c_Join (cutP s).1 (cutP s).2.1 (by omega)) (by simp) ?_
  simp [hj]
  refine xcall_fn c_awake (by simp) ?_
  simp
end Go.Proofs.Ytgpgajhaecfbgaa
