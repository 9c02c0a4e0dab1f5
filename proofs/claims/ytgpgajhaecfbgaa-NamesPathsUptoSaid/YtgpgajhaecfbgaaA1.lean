/- Chapter 07: names: the keywords, over any program that has the text. -/
import Derived.Test.YtgpgajhaecfbgaaAlFacts
import Derived.Test.YtgpgajhaecfbgaaAlFrm
namespace Go.Proofs.Ytgpgajhaecfbgaa
open Go.AL
variable {P : Program} [h : Facts P]

/-- The keywords. -/
def kws : List (List UInt8) := [[97, 100, 100], [97, 102, 116, 101, 114], [97, 110, 100], [97, 116], [98, 101, 108, 116], [98, 111, 111, 108], [99, 111, 110, 115, 101, 114, 118, 101], [99, 111, 110, 115, 116], [99, 111, 117, 110, 116], [99, 121, 99, 108, 101], [100, 111, 119, 110], [100, 114, 97, 119], [100, 117, 114], [101, 108, 115, 101], [101, 110, 100], [101, 118, 101, 114, 121], [102, 97, 108, 115, 101], [102, 97, 117, 108, 116], [102, 105, 102, 111], [102, 114, 101, 101], [102, 114, 111, 109], [103, 101, 111, 109], [103, 101, 116], [104, 111, 108, 100], [105, 102], [105, 110, 116], [105, 110, 116, 111], [108, 101, 97, 115, 116], [108, 101, 118, 101, 108], [108, 105, 102, 111], [108, 105, 110, 107], [108, 111, 99, 97, 108], [109, 97, 120], [109, 105, 110], [109, 111, 100, 101, 108], [110, 111, 116], [110, 111, 119], [111, 98, 115, 101, 114, 118, 101], [111, 114], [112, 97, 114, 97, 109], [112, 114, 101, 101, 109, 112, 116], [112, 114, 105, 111], [112, 117, 116], [113, 117, 101, 117, 101], [114, 101, 108, 101, 97, 115, 101], [114, 101, 115, 111, 117, 114, 99, 101], [114, 105, 100, 101], [114, 111, 117, 116, 105, 110, 101], [115, 101, 105, 122, 101], [115, 101, 110, 100], [115, 101, 116], [115, 104, 105, 102, 116], [115, 105, 103, 110, 97, 108], [115, 105, 116, 101], [115, 105, 122, 101], [115, 112, 97, 119, 110], [115, 116, 97, 114, 116], [115, 116, 111, 112], [115, 116, 111, 114, 101], [115, 116, 114, 101, 97, 109], [115, 117, 109], [116, 97, 98, 108, 101], [116, 97, 108, 108, 121], [116, 105, 99, 107, 115], [116, 105, 109, 101], [116, 114, 117, 101], [117, 110, 105, 102, 111, 114, 109], [117, 110, 116, 105, 108], [117, 112], [118, 97, 114], [119, 97, 105, 116], [119, 97, 105, 116, 105, 110, 103], [119, 104, 105, 108, 101]]
def kwB (s : List UInt8) : Bool := decide (s ∈ kws)
/-- The first place of a text. -/
def fnd (l : List (List UInt8)) (s : List UInt8) : Int := idxZ (fun x => decide (x = s)) l

theorem c_RFind (l : List (List UInt8)) (s : List UInt8) (hl : l.length ≤ 9223372036854775807) : FCall P 20 [Ls false l, .str s] (fun r => r = .int .i64 (fnd l s)) := by
  refine fcall_of h.f20 rfl (by decide) h.mo (by kernel_rfl) fun X hX => ?_
  simp
  refine awp_loop (σ := Nat) (fun k => (⟨[Ls false l, .str s, .any, .any, .any, .int .i64 k, .any, .any, .any, .any, .any, .any, .any, .any, .any, .any, .any, .any, .any], []⟩ : S)) (fun k => k ≤ l.length ∧ ∀ j (hj : j < l.length), j < k → (fun x => decide (x = s)) l[j] = false) (fun k => l.length - k) 0 (Wk.slots (by simp)) ⟨by omega, by simp⟩ ?_
  rintro k ⟨hk, hinv⟩
  refine vc_sound h.mo _ _ _ (by kernel_rfl) ?_
  rcases Nat.lt_or_ge k l.length with hlt | hge
  · have hk1 := wrap_succ hlt hl
    by_cases g : l[k] = s
    · have := idxZ_at (p := fun x => decide (x = s)) hlt (by simp [g]) hinv
      simp [hlt, g, fnd, this]
    · simp [hlt, g]
      refine ⟨k + 1, Wk.ren 0 [] hX rfl (by decide) (by simp [hk1]) (by simp) (by simp) (by simp), ⟨by omega, fun j hj hjk => ?_⟩, by omega⟩
      simpa using step_no (p := fun x => decide (x = s)) hinv hlt (by simp [g]) j hj hjk
  · have hge2 : ¬ k < l.length := by omega
    have := idxZ_no (p := fun x => decide (x = s)) fun j hj => hinv j hj (by omega)
    simp [hge2, fnd, this]

theorem c_SIndex (l : List (List UInt8)) (s : List UInt8) (hl : l.length ≤ 9223372036854775807) : FCall P 24 [Ls false l, .str s] (fun r => r = .int .i64 (fnd l s)) := by
  refine fcall_of h.f24 rfl (by decide) h.mo (by kernel_rfl) fun X hX => ?_
  simp
  refine awp_loop (σ := Nat) (fun k => (⟨[Ls false l, .str s, .any, .any, .any, .any, .any, .int .i64 l.length, .int .i64 k, .any, .any, .any, .any, .any, .any, .any, .any, .any, .any], []⟩ : S)) (fun k => k ≤ l.length ∧ ∀ j (hj : j < l.length), j < k → (fun x => decide (x = s)) l[j] = false) (fun k => l.length - k) 0 (Wk.slots (by simp)) ⟨by omega, by simp⟩ ?_
  rintro k ⟨hk, hinv⟩
  refine vc_sound h.mo _ _ _ (by kernel_rfl) ?_
  rcases Nat.lt_or_ge k l.length with hlt | hge
  · have hk1 := wrap_succ hlt hl
    by_cases g : l[k] = s
    · have := idxZ_at (p := fun x => decide (x = s)) hlt (by simp [g]) hinv
      simp [hlt, g, fnd, this]
    · have g' : ¬ s = l[k] := fun e => g e.symm
      simp [hlt, g']
      refine ⟨k + 1, Wk.ren 0 [] hX rfl (by decide) (by simp [hk1]) (by simp) (by simp) (by simp), ⟨by omega, fun j hj hjk => ?_⟩, by omega⟩
      simpa using step_no (p := fun x => decide (x = s)) hinv hlt (by simp [g]) j hj hjk
  · have hge2 : ¬ k < l.length := by omega
    have := idxZ_no (p := fun x => decide (x = s)) fun j hj => hinv j hj (by omega)
    simp [hge2, fnd, this]
theorem c_Find (l : List (List UInt8)) (s : List UInt8) (hl : l.length ≤ 9223372036854775807) : FCall P 14 [Ls false l, .str s] (fun r => r = .int .i64 (fnd l s)) := by
  refine fcall_of h.f14 rfl (by decide) h.mo (by kernel_rfl) fun X hX => ?_
  simp
  refine xcall_fn (c_SIndex l s hl) (by simp) ?_
  simp

set_option maxRecDepth 100000 in
set_option maxHeartbeats 4000000 in
theorem c_Keywords : FCall P 21 [] (fun r => r = Ls false kws) := by
  refine fcall_of h.f21 rfl (by decide) h.mo (by kernel_rfl) fun X hX => ?_
  simp (config := {maxSteps := 4000000}) [kws]
theorem c_RKeyword (s : List UInt8) : FCall P 10 [.str s] (fun r => r = .bool (kwB s)) := by
  refine fcall_of h.f10 rfl (by decide) h.mo (by kernel_rfl) fun X hX => ?_
  simp
  refine xcall_fn c_Keywords (by simp) ?_
  simp
  refine xcall_fn (c_RFind kws s (by decide)) (by simp) ?_
  have e : (0 ≤ fnd kws s) = (kwB s = true) := by
    unfold fnd
    rw [idxZ_nonneg]
    simp [kwB]
  simp [e]
theorem kw_step {s k : List UInt8} {Q : Prop} (h1 : kwB k = true) (h2 : ¬ s = k → Q) : (s = k → (s = k → kwB s = true) ∧ (¬ s = k → kwB s = false)) ∧ (¬ s = k → Q) :=
  ⟨fun e => ⟨fun _ => by rw [e]; exact h1, fun n => (n e).elim⟩, h2⟩
set_option maxRecDepth 100000 in
set_option maxHeartbeats 4000000 in
theorem c_Keyword (s : List UInt8) : FCall P 9 [.str s] (fun r => r = .bool (kwB s)) := by
  refine fcall_of h.f9 rfl (by decide) h.mo (by kernel_rfl) fun X hX => ?_
  simp (config := {maxSteps := 4000000})
  repeat' (refine kw_step (by kernel_rfl) fun _ => ?_)
  simp [kwB, kws, *]
end Go.Proofs.Ytgpgajhaecfbgaa
