/- Chapter 41: whether two logs are one, over any program that has the text. -/
import Derived.Test.YtacfckmhnnhllaaE10
namespace Go.Proofs.Ytacfckmhnnhllaa
open Go.AL
variable {P : Program} [h : Facts P]

theorem rec_ext {x y : TRec} : x = y ↔ x.fTime = y.fTime ∧ x.fSite = y.fSite ∧ x.fWhat = y.fWhat ∧ x.fProc = y.fProc ∧ x.fIndex = y.fIndex ∧ x.fValue = y.fValue := by
  obtain ⟨⟩ := x
  obtain ⟨⟩ := y
  simp
theorem take_eq_all {α : Type} {a b : List α} (hl : a.length = b.length) (ht : a.take a.length = b.take a.length) : a = b := by
  rw [List.take_length, List.take_of_length_le (by omega)] at ht
  exact ht
theorem take_step {α : Type} {a b : List α} {k : Nat} (ha : k < a.length) (hb : k < b.length) (ht : a.take k = b.take k) (he : a[k] = b[k]) : a.take (k + 1) = b.take (k + 1) := by
  rw [List.take_succ_eq_append_getElem ha, List.take_succ_eq_append_getElem hb, ht, he]
theorem take_no {α : Type} {a b : List α} {k : Nat} (ha : k < a.length) (hb : k < b.length) (he : a[k] ≠ b[k]) : a ≠ b := by
  rintro rfl
  exact he rfl
set_option maxHeartbeats 1000000 in
theorem c_EqRecs (a b : List TRec) (hl : a.length ≤ 9223372036854775807) : FCall P 37 [Ls false a, Ls false b] (fun r => r = .bool (decide (a = b))) := by
  refine fcall_ofB [6] h.f37 rfl (by decide) h.mo (by kernel_rfl) fun X hX => ?_
  by_cases q4 : a.length = b.length
  case neg =>
    have q4' : ¬ (a.length : Int) = (b.length : Int) := by omega
    rw [decide_eq_false (by intro q; exact q4 (by rw [q]))]
    simp [q4']
  have q4' : (a.length : Int) = (b.length : Int) := by omega
  generalize hv : decide (a = b) = v
  simp [eq_true q4']
  refine awp_loop (σ := Nat) (fun k => (⟨[Ls false a, Ls false b, .any, .any, .any, .any, .any, .any, .any, .any, .any, .any, .int .i64 a.length, .int .i64 k, .any, .any, .any, .any, .any, .any, .any, .any, .any, .any, .any, .any], []⟩ : S)) (fun k => k ≤ a.length ∧ a.take k = b.take k) (fun k => a.length - k) 0 (Wk.ren 0 [] hX rfl (by decide) (by simp) (by simp) (by simp) (by simp)) ⟨by simp, by simp⟩ ?_
  rintro k ⟨hk, hinv⟩
  refine vcB_sound [6] h.mo _ _ _ (by kernel_rfl) ?_
  rcases Nat.lt_or_ge k a.length with hlt | hge
  · have hlt2 : k < b.length := by omega
    have hk1 := wrap_succ hlt hl
    simp [hlt]
    refine awp_quiet [0, 1, 2, 3, 4, 5, 6, 7, 8] _ h.mo (by kernel_rfl) (by decide) (by kernel_rfl) (by rfl) ?_
    simp [hlt, hlt2]
    refine ⟨fun q => ?_, fun e1 e2 e3 e4 e5 e6 => ?_⟩
    · rw [← hv]
      exact decide_eq_false (take_no hlt hlt2 fun e => by rw [e] at q; simp at q)
    · exact ⟨k + 1, Wk.ren 0 [] hX rfl (by decide) (by simp [hk1]) (by simp) (by simp) (by simp), ⟨by omega, take_step hlt hlt2 hinv (rec_ext.2 ⟨e1, e2, e3, e4, e5, e6⟩)⟩, by omega⟩
  · have hkl : k = a.length := by omega
    subst hkl
    have hall := take_eq_all q4 hinv
    have : v = true := by rw [← hv]; exact decide_eq_true hall
    simp [this]
set_option maxHeartbeats 1000000 in
theorem c_SameRecs (a b : List TRec) (hl : a.length ≤ 9223372036854775807) : FCall P 34 [Ls false a, Ls false b] (fun r => r = .bool (decide (a = b))) := by
  refine fcall_ofB [6] h.f34 rfl (by decide) h.mo (by kernel_rfl) fun X hX => ?_
  by_cases q4 : a.length = b.length
  case neg =>
    have q4' : ¬ (a.length : Int) = (b.length : Int) := by omega
    rw [decide_eq_false (by intro q; exact q4 (by rw [q]))]
    simp [q4']
  have q4' : (a.length : Int) = (b.length : Int) := by omega
  generalize hv : decide (a = b) = v
  simp [eq_true q4']
  refine awp_loop (σ := Nat) (fun k => (⟨[Ls false a, Ls false b, .any, .any, .any, .int .i64 k, .any, .any, .any, .any, .any, .any, .any, .any, .any, .any, .any, .any, .any, .any, .any, .any, .any, .any, .any, .any], []⟩ : S)) (fun k => k ≤ a.length ∧ a.take k = b.take k) (fun k => a.length - k) 0 (Wk.ren 0 [] hX rfl (by decide) (by simp) (by simp) (by simp) (by simp)) ⟨by simp, by simp⟩ ?_
  rintro k ⟨hk, hinv⟩
  refine vcB_sound [6] h.mo _ _ _ (by kernel_rfl) ?_
  rcases Nat.lt_or_ge k a.length with hlt | hge
  · have hlt2 : k < b.length := by omega
    have hk1 := wrap_succ hlt hl
    simp [hlt]
    refine awp_quiet [0, 1, 2, 3, 4, 5, 6, 7, 8] _ h.mo (by kernel_rfl) (by decide) (by kernel_rfl) (by rfl) ?_
    simp [hlt, hlt2]
    refine ⟨fun q => ?_, fun e1 e2 e3 e4 e5 e6 => ?_⟩
    · rw [← hv]
      exact decide_eq_false (take_no hlt hlt2 fun e => by rw [e] at q; simp at q)
    · exact ⟨k + 1, Wk.ren 0 [] hX rfl (by decide) (by simp [hk1]) (by simp) (by simp) (by simp), ⟨by omega, take_step hlt hlt2 hinv (rec_ext.2 ⟨e1, e2, e3, e4, e5, e6⟩)⟩, by omega⟩
  · have hkl : k = a.length := by omega
    subst hkl
    have hall := take_eq_all q4 hinv
    have : v = true := by rw [← hv]; exact decide_eq_true hall
    simp [this]
def sameL (a b : TLog) : Bool := decide (a.fEvents = b.fEvents ∧ a.fRecs = b.fRecs)
theorem dif_neg : ∀ (a b : List TEvent) (n : Nat), dif a b n < 0 ↔ a = b
  | [], [], n => by simp [dif]
  | [], _ :: _, n => by simp [dif]
  | _ :: _, [], n => by simp [dif]
  | x :: a, y :: b, n => by
    by_cases q : x = y
    · rw [dif_eq q, dif_neg a b (n + 1), q]; simp
    · rw [dif_ne q]; simp [q]
theorem dif_ge : ∀ (a b : List TEvent) (n : Nat), -1 ≤ dif a b n
  | [], [], n => by simp [dif]
  | [], _ :: _, n => by simp [dif]
  | _ :: _, [], n => by simp [dif]
  | x :: a, y :: b, n => by
    by_cases q : x = y
    · rw [dif_eq q]; exact dif_ge a b (n + 1)
    · rw [dif_ne q]; omega
theorem c_CSame (a b : TLog) (ha : a.ok) (hb : b.ok) : FCall P 19 [.agg a.cells, .agg b.cells] (fun r => r = .bool (sameL a b)) := by
  refine fcall_of h.f19 rfl (by decide) h.mo (by kernel_rfl) fun X hX => ?_
  have hn := dif_neg a.fEvents b.fEvents 0
  have cd := c_Differ (P := P) a b ha hb
  unfold sameL
  unfold difZ at cd
  simp
  refine xcall_fn cd (by simp) ?_
  by_cases q : a.fEvents = b.fEvents
  · have hq := hn.2 q
    simp [hq]
    refine xcall_fn (c_EqRecs a.fRecs b.fRecs ha.2.1) (by simp) ?_
    simp [q]
  · have hq : ¬ dif a.fEvents b.fEvents 0 < 0 := fun z => q (hn.1 z)
    simp [hq, q]
theorem c_RLSame (a b : TLog) (ha : a.ok) (hb : b.ok) : FCall P 15 [.agg a.cells, .agg b.cells] (fun r => r = .bool (sameL a b)) := by
  refine fcall_of h.f15 rfl (by decide) h.mo (by kernel_rfl) fun X hX => ?_
  have hn := dif_neg a.fEvents b.fEvents 0
  have hg := dif_ge a.fEvents b.fEvents 0
  have cd := c_RDiffer (P := P) a b ha hb
  unfold sameL
  unfold difZ at cd
  simp
  refine xcall_fn cd (by simp) ?_
  by_cases q : a.fEvents = b.fEvents
  · have hq : dif a.fEvents b.fEvents 0 = -1 := by have := hn.2 q; omega
    simp [hq]
    refine xcall_fn (c_SameRecs a.fRecs b.fRecs ha.2.1) (by simp) ?_
    simp [q]
  · have hq : ¬ dif a.fEvents b.fEvents 0 = -1 := fun z => q (hn.1 (by omega))
    simp [hq, q]
end Go.Proofs.Ytacfckmhnnhllaa
