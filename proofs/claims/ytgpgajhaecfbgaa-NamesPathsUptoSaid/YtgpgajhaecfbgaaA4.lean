/- Chapter 07: names: Join, Cut and Split, over any program that has the text. -/
import Derived.Test.YtgpgajhaecfbgaaA3
import Derived.Test.YtgpgajhaecfbgaaAlExt
namespace Go.Proofs.Ytgpgajhaecfbgaa
open Go.AL
variable {P : Program} [h : Facts P]

theorem c_Join (a b : List UInt8) (hl : a.length + 1 + b.length ≤ 9223372036854775807) : FCall P 17 [.str a, .str b] (fun r => r = .str (a ++ 46 :: b)) := by
  refine fcall_of h.f17 rfl (by decide) h.mo (by kernel_rfl) fun X hX => ?_
  simp
  omega

def dotI (s : List UInt8) : Int := idxZ (fun b => decide (b = 46)) s
theorem RepL.two {P : Program} {w : World} {F : Fz} {μ : Mu} {a b : A} {vs : List Value} (h : RepL P w F μ [a, b] vs) : ∃ x y, vs = [x, y] ∧ Rep P w F μ a x ∧ Rep P w F μ b y := by
  match vs, h with
  | [x, y], h => exact ⟨x, y, rfl, h.1, h.2.1⟩

theorem c_IndexByte (s : List UInt8) (c : UInt8) : FCall P 28 [.str s, .int .u8 c.toNat] (fun r => r = .int .i64 (idxZ (fun b => decide (b = c)) s)) := by
  refine fcall_ofA h.f28 rfl (by decide) fun X hX => ?_
  refine awp_seq (vc_sound h.mo _ _ _ (by kernel_rfl) ?_)
  simp
  refine awp_seq (awp_list ?_)
  refine alist_cons rfl ?_
  simp
  refine alist_cons rfl ?_
  simp
  refine alist_ext (e := Extern.BytealgIndexByte.indexByte) (.int .i64 (idxZ (fun b => decide (b = c)) s)) h.f32 (by decide) rfl (by kernel_rfl) (by kernel_rfl) ?_ ?_
  · intro a w μ hS
    have e5 : a.eval (.tmp 5) = .string ⟨⟨s⟩⟩ := Rep.str_inv (hS.eval (.tmp 5))
    have e6 : a.eval (.tmp 6) = .int .u8 c.toNat := Rep.int_inv (hS.eval (.tmp 6))
    refine ⟨.int .i64 (idxZ (fun b => decide (b = c)) s), ?_, .int _ _ _⟩
    have e : (#[Operand.tmp 5, Operand.tmp 6] : Array Operand).map a.eval = #[.string ⟨⟨s⟩⟩, .int .u8 c.toNat] := by simp [e5, e6]
    rw [e, Lib.run_indexByteString]
    have : ((c.toNat : Int)).toNat.toUInt8 = c := by simp
    rw [this, indexByte_idx]
  simp
  refine alist_cons rfl ?_
  simp
  refine alist_nil ?_
  simp
  refine awp_ret ?_
  simp

set_option maxRecDepth 20000 in
set_option maxHeartbeats 1000000 in
theorem c_Index (s : List UInt8) (c : UInt8) : FCall P 27 [.str s, .str [c]] (fun r => r = .int .i64 (idxZ (fun b => decide (b = c)) s)) := by
  refine fcall_of h.f27 rfl (by decide) h.mo (by kernel_rfl) fun X hX => ?_
  by_cases h1 : [c] = s
  · subst h1
    simp [idxZ, List.findIdx_cons]
  simp [h1]
  refine xcall_fn (c_IndexByte s c) (by simp) ?_
  simp

def cutP (s : List UInt8) : List UInt8 × List UInt8 × Bool := if 0 ≤ dotI s then (s.take (dotI s).toNat, s.drop ((dotI s).toNat + 1), true) else (s, [], false)
theorem c_LCut (s : List UInt8) (hl : s.length ≤ 9223372036854775807) : FCall P 26 [.str s, .str [46]] (fun r => r = .tup [.str (cutP s).1, .str (cutP s).2.1, .bool (cutP s).2.2]) := by
  refine fcall_of h.f26 rfl (by decide) h.mo (by kernel_rfl) fun X hX => ?_
  simp
  refine xcall_fn (c_Index s 46) (by simp) ?_
  unfold cutP
  have hd : dotI s = idxZ (fun b => decide (b = 46)) s := rfl
  rw [← hd]
  rcases idxZ_or (fun b => decide (b = 46)) s with ⟨hz, _⟩ | ⟨i, hz, hi, _⟩
  · rw [← hd] at hz
    simp [hz]
  · rw [← hd] at hz
    have hk := wrap_succ hi hl
    have hi1 : i ≤ s.length := by omega
    have hi2 : i + 1 ≤ s.length := by omega
    have hp : (0 : Int) ≤ (i : Int) + 1 := by omega
    have ht : (s.drop (i + 1)).take (s.length - (i + 1)) = s.drop (i + 1) := List.take_of_length_le (by simp)
    simp [hz, hk, hi1, hi2, hp, ht]
theorem c_Cut (s : List UInt8) (hl : s.length ≤ 9223372036854775807) : FCall P 25 [.str s, .str [46]] (fun r => r = .tup [.str (cutP s).1, .str (cutP s).2.1, .bool (cutP s).2.2]) := by
  refine fcall_of h.f25 rfl (by decide) h.mo (by kernel_rfl) fun X hX => ?_
  simp
  refine xcall_fn (c_LCut s hl) (by simp) ?_
  simp

def splB (s : List UInt8) : Bool := (cutP s).2.2 && nameB (cutP s).1 && nameB (cutP s).2.1
def splP (s : List UInt8) : List UInt8 × List UInt8 := if splB s = true then ((cutP s).1, (cutP s).2.1) else ([], [])
theorem cutP_len (s : List UInt8) : (cutP s).1.length ≤ s.length ∧ (cutP s).2.1.length ≤ s.length := by
  unfold cutP
  split
  · simp; omega
  · simp
theorem c_Split (s : List UInt8) (hl : s.length ≤ 9223372036854775807) : FCall P 18 [.str s] (fun r => r = .tup [.str (splP s).1, .str (splP s).2, .bool (splB s)]) := by
  refine fcall_of h.f18 rfl (by decide) h.mo (by kernel_rfl) fun X hX => ?_
  simp
  refine xcall_fn (c_Cut s hl) (by simp) ?_
  have hlen := cutP_len s
  have e1 : splB s = ((cutP s).2.2 && nameB (cutP s).1 && nameB (cutP s).2.1) := rfl
  have e2 : splP s = if splB s = true then ((cutP s).1, (cutP s).2.1) else ([], []) := rfl
  rw [e2, e1]
  generalize cutP s = p at hlen
  obtain ⟨a, b, f⟩ := p
  cases f
  · simp
  simp
  refine xcall_fn (c_Check a (by simp at hlen; omega)) (by simp) ?_
  have z1 := nameE_zero a
  have z2 := nameE_zero b
  by_cases h1 : nameB a = true
  case neg => simp [z1, h1]
  simp [z1, h1]
  refine xcall_fn (c_Check b (by simp at hlen; omega)) (by simp) ?_
  by_cases h2 : nameB b = true <;> simp [z2, h2]
theorem c_RSplit (s : List UInt8) (hl : s.length ≤ 9223372036854775807) : FCall P 19 [.str s] (fun r => r = .tup [.str (splP s).1, .str (splP s).2, .bool (splB s)]) := by
  refine fcall_of h.f19 rfl (by decide) h.mo (by kernel_rfl) fun X hX => ?_
  simp
  refine awp_loop (σ := Nat) (fun k => (⟨[.str s, .any, .str [], .str [], .bool false, .int .i64 k, .any, .any, .any, .any, .any, .any, .any, .any, .any, .any, .any, .any, .any, .any, .any, .any, .any, .any, .any, .any, .any, .any, .any, .any, .any, .any, .any, .any, .any, .any], []⟩ : S)) (fun k => k ≤ s.length ∧ ∀ j (hj : j < s.length), j < k → (fun b : UInt8 => decide (b = 46)) s[j] = false) (fun k => s.length - k) 0 (Wk.slots (by simp)) ⟨by omega, by simp⟩ ?_
  rintro k ⟨hk, hinv⟩
  refine vc_sound h.mo _ _ _ (by kernel_rfl) ?_
  have hd : dotI s = idxZ (fun b => decide (b = 46)) s := rfl
  rcases Nat.lt_or_ge k s.length with hlt | hge
  · have hk1 := wrap_succ hlt hl
    by_cases g : s[k] = 46
    · have hi := idxZ_at (p := fun b : UInt8 => decide (b = 46)) hlt (by simp [g]) hinv
      rw [← hd] at hi
      have hc : cutP s = (s.take k, s.drop (k + 1), true) := by unfold cutP; rw [if_pos (by omega), hi]; rfl
      have hi1 : k ≤ s.length := by omega
      have hi2 : k + 1 ≤ s.length := by omega
      have hp : (0 : Int) ≤ (k : Int) + 1 := by omega
      have ht : (s.drop (k + 1)).take (s.length - (k + 1)) = s.drop (k + 1) := List.take_of_length_le (by simp)
      have z1 := nameE_zero (s.take k)
      have z2 := nameE_zero (s.drop (k + 1))
      simp [hlt, g, hi1]
      refine xcall_fn (c_RCheck (s.take k) (by simp; omega)) (by simp) ?_
      by_cases h1 : nameB (s.take k) = true
      case neg => simp [z1, h1, splP, splB, hc]
      simp [z1, h1, hk1, hi2, hp, ht]
      refine xcall_fn (c_RCheck (s.drop (k + 1)) (by simp; omega)) (by simp) ?_
      by_cases h2 : nameB (s.drop (k + 1)) = true
      · simp [z2, h2, splP, splB, hc, h1, hk1, hi1, hi2, hp, ht]
      · simp [z2, h2, splP, splB, hc, h1]
    · have gn : ¬ (s[k].toNat : Int) = 46 := fun e => g (by
        have : s[k].toNat = 46 := by omega
        exact UInt8.toNat_inj.1 this)
      simp [hlt, gn]
      refine ⟨k + 1, Wk.ren 0 [] hX rfl (by decide) (by simp [hk1]) (by simp) (by simp) (by simp), ⟨by omega, fun j hj hjk => ?_⟩, by omega⟩
      simpa using step_no (p := fun b : UInt8 => decide (b = 46)) hinv hlt (by simp [g]) j hj hjk
  · have hge2 : ¬ k < s.length := by omega
    have hi := idxZ_no (p := fun b : UInt8 => decide (b = 46)) fun j hj => hinv j hj (by omega)
    rw [← hd] at hi
    have hc : cutP s = (s, [], false) := by unfold cutP; rw [hi]; rfl
    simp [hge2, splP, splB, hc]
end Go.Proofs.Ytgpgajhaecfbgaa
