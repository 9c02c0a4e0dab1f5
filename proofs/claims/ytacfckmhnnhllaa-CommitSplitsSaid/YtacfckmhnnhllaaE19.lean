/- Chapter 41: Join of two logs and its reference, over any program that has the text. -/
import Derived.Test.YtacfckmhnnhllaaE9
import Derived.Test.YtacfckmhnnhllaaE13
import Derived.Test.YtacfckmhnnhllaaE14
import Derived.Test.YtacfckmhnnhllaaAlM4
namespace Go.Proofs.Ytacfckmhnnhllaa
open Go.AL
variable {P : Program} [h : Facts P]

def lateB (a b : List TEvent) : Bool := if h : 0 < a.length ∧ 0 < b.length then decide (b[0].fTime ≤ a[a.length - 1].fTime) else false
def catL (a b : TLog) : TLog := ⟨a.fEvents ++ b.fEvents, a.fRecs ++ b.fRecs⟩
def joinZ (a b : TLog) : TLog × Int := if chkZ a ≠ 0 then (⟨[], []⟩, chkZ a) else if chkZ b ≠ 0 then (⟨[], []⟩, chkZ b) else if lateB a.fEvents b.fEvents = true then (⟨[], []⟩, 12) else if longB (catL a b) = true then (⟨[], []⟩, 6) else (catL a b, 0)
theorem chk_len {l : TLog} (h : chkZ l = 0) : l.fEvents.length ≤ 5000 ∧ l.fRecs.length ≤ 50000 := by
  unfold chkZ at h
  by_cases q : longB l = true
  · rw [if_pos q] at h; omega
  · simp only [longB, Bool.or_eq_true, decide_eq_true_eq] at q
    omega
theorem shA_B {α : Type} [Enc α] (n : Nat) (m : List α) : shA n (B 0 m) = B n m := by cases m <;> rfl
set_option maxHeartbeats 8000000 in
theorem c_Join (a b : TLog) (ha : a.ok) (hb : b.ok) : FCall P 20 [.agg a.cells, .agg b.cells] (fun r => r = .tup [.agg (joinZ a b).1.cells, .int .i64 (joinZ a b).2]) := by
  refine fcall_ofA h.f20 rfl (by decide) fun X hX => ?_
  refine awp_seq (vc_sound h.mo _ _ _ (by kernel_rfl) ?_)
  simp
  refine awp_cut2 (⟨[.any, .any, .pto 0 2 0 0, .pto 1 2 0 0, .pto 2 2 0 0, .int .i64 0, .any, .any, .any, .any, .any, .any, .any, .any, .any, .any, .any, .any, .any, .any, .any, .any, .any, .any, .any, .any, .any, .any, .any, .any, .any, .any, .any, .any, .any, .any, .any, .any, .any, .any, .any, .any, .any, .any, .any, .any, .any, .any, .any, .any, .any, .any, .any, .any, .any, .any, .any, .any, .any, .any, .any, .any, .any, .any, .any, .any, .any, .any, .any, .any], [⟨25, 2, [.agg (a : TLog).cells], 0, true⟩, ⟨25, 2, [.agg (b : TLog).cells], 0, true⟩, ⟨25, 2, [.agg [.sl true [], .sl true []]], 0, true⟩]⟩ : S) (chkZ a = 0 ∧ chkZ b = 0) (vc_sound h.mo _ _ _ (by kernel_rfl) ?_) ?_
  case refine_1 =>
    simp
    refine awp_loop (σ := Nat) (fun k => (⟨[.any, .any, .pto 0 2 0 0, .pto 1 2 0 0, .pto 2 2 0 0, .int .i64 0, .any, .any, .any, .any, .any, .any, .any, .own 3 0 2 2 true, .int .i64 2, .int .i64 k, .any, .any, .any, .any, .any, .any, .any, .any, .any, .any, .any, .any, .any, .any, .any, .any, .any, .any, .any, .any, .any, .any, .any, .any, .any, .any, .any, .any, .any, .any, .any, .any, .any, .any, .any, .any, .any, .any, .any, .any, .any, .any, .any, .any, .any, .any, .any, .any, .any, .any, .any, .any, .any, .any], [⟨25, 2, [.agg (a : TLog).cells], 0, true⟩, ⟨25, 2, [.agg (b : TLog).cells], 0, true⟩, ⟨25, 2, [.agg [.sl true [], .sl true []]], 0, true⟩, ⟨25, 2, [.agg a.cells, .agg b.cells], 0, true⟩]⟩ : S)) (fun k => k ≤ 2 ∧ (0 < k → chkZ a = 0) ∧ (1 < k → chkZ b = 0)) (fun k => 2 - k) 0 (Wk.ren 0 [0, 1, 2, 3] hX rfl (by decide) (by simp) (by simp) (by simp) (by simp)) ⟨by simp, by simp, by simp⟩ ?_
    rintro k ⟨hk, h1, h2⟩
    refine vc_sound h.mo _ _ _ (by kernel_rfl) ?_
    match k, hk with
    | 0, _ =>
      simp
      refine xcall_fn (c_Check a ha) (by simp) ?_
      by_cases q : chkZ a = 0
      · simp [q]
        exact ⟨1, Wk.ren 0 [0, 1, 2, 3] hX rfl (by decide) (by simp) (by simp) (by simp) (by simp), ⟨by omega, by simp⟩, by omega⟩
      · have hj : joinZ a b = (⟨[], []⟩, chkZ a) := by unfold joinZ; rw [if_pos q]
        simp [q, hj]
    | 1, _ =>
      have h1 := h1 (by omega)
      simp
      refine xcall_fn (c_Check b hb) (by simp) ?_
      by_cases q : chkZ b = 0
      · simp [q]
        exact ⟨2, Wk.ren 0 [0, 1, 2, 3] hX rfl (by decide) (by simp) (by simp) (by simp) (by simp), ⟨by omega, fun _ => h1⟩, by omega⟩
      · have hj : joinZ a b = (⟨[], []⟩, chkZ b) := by unfold joinZ; rw [if_neg (fun z => z h1), if_pos q]
        simp [q, hj]
    | 2, _ =>
      simp
      exact ⟨⟨h1 (by omega), h2 (by omega)⟩, Wk.ren 0 [0, 1, 2] hX rfl (by decide) (by simp) (by simp) (by simp) (by simp)⟩
  rintro ⟨ca, cb⟩
  obtain ⟨la1, la2⟩ := chk_len ca
  obtain ⟨lb1, lb2⟩ := chk_len cb
  have hj : joinZ a b = if lateB a.fEvents b.fEvents = true then (⟨[], []⟩, 12) else if longB (catL a b) = true then (⟨[], []⟩, 6) else (catL a b, 0) := by unfold joinZ; rw [if_neg (fun z => z ca), if_neg (fun z => z cb)]
  rw [hj]
  clear hj
  refine awp_fz 0 (by rfl) (by simp) ?_
  refine awp_fz 1 (by rfl) (by simp) ?_
  simp
  refine awp_cut2 (⟨[.any, .any, .ptr (.agg a.cells), .ptr (.agg b.cells), .pto 2 2 0 0, .int .i64 0, .any, .any, .any, .any, .any, .any, .any, .any, .any, .any, .any, .any, .any, .any, .any, .any, .any, .any, .any, .any, .any, .any, .any, .any, .any, .any, .any, .any, .any, .any, .any, .any, .any, .any, .any, .any, .any, .any, .any, .any, .any, .any, .any, .any, .any, .any, .any, .any, .any, .any, .any, .any, .any, .any, .any, .any, .any, .any, .any, .any, .any, .any, .any, .any], [dead0, dead0, ⟨25, 2, [.agg [.sl true [], .sl true []]], 0, true⟩]⟩ : S) (lateB a.fEvents b.fEvents = false) (vcB_sound [9] h.mo _ _ _ (by kernel_rfl) ?_) ?_
  case refine_1 =>
    generalize hlv : lateB a.fEvents b.fEvents = lv
    unfold lateB at hlv
    obtain ⟨ea, ra⟩ := a
    obtain ⟨eb, rb⟩ := b
    simp only at hlv la1 lb1 ⊢
    simp
    refine awp_quiet [0, 1, 2, 3, 4, 5, 6, 7, 8, 9, 10, 11, 12, 13, 14, 15, 16, 17, 18, 19, 20, 21, 22] _ h.mo (by kernel_rfl) (by decide) (by kernel_rfl) (by rfl) ?_
    by_cases q1 : 0 < ea.length
    case neg =>
      rw [dif_neg (fun z => q1 z.1)] at hlv
      have q1i : ¬ (0 : Int) < (ea.length : Int) := by omega
      have e0 : ea = [] := List.length_eq_zero_iff.1 (by omega)
      subst hlv
      simp [e0]
      exact Wk.ren 0 [0, 1, 2] hX rfl (by decide) (by simp) (by simp) (by simp) (by simp)
    by_cases q2 : 0 < eb.length
    case neg =>
      rw [dif_neg (fun z => q2 z.2)] at hlv
      have q1i : (0 : Int) < (ea.length : Int) := by omega
      have q2i : ¬ (0 : Int) < (eb.length : Int) := by omega
      have e0 : eb = [] := List.length_eq_zero_iff.1 (by omega)
      subst hlv
      simp [q1, e0]
      exact Wk.ren 0 [0, 1, 2] hX rfl (by decide) (by simp) (by simp) (by simp) (by simp)
    rw [dif_pos ⟨q1, q2⟩] at hlv
    have q1i : (0 : Int) < (ea.length : Int) := by omega
    have q2i : (0 : Int) < (eb.length : Int) := by omega
    have n1 : ¬ ea = [] := by rintro rfl; simp at q1
    have n2 : ¬ eb = [] := by rintro rfl; simp at q2
    obtain ⟨l1, hl1⟩ : ∃ l1, l1 = ea.length - 1 := ⟨_, rfl⟩
    have hl1l : l1 < ea.length := by omega
    have w1 : IntKind.i64.wrap ((ea.length : Int) - 1) = (l1 : Int) := by rw [i64_id (by omega) (by omega)]; omega
    simp only [← hl1] at hlv
    by_cases q3 : eb[0].fTime ≤ ea[l1].fTime
    · rw [decide_eq_true q3] at hlv
      subst hlv
      simp [q1, q2, w1, hl1l, q3]
    · rw [decide_eq_false q3] at hlv
      subst hlv
      simp [q1, q2, w1, hl1l, q3]
      exact Wk.ren 0 [0, 1, 2] hX rfl (by decide) (by simp) (by simp) (by simp) (by simp)
  intro hlt
  rw [if_neg (by rw [hlt]; decide)]
  refine awp_cut2 (⟨[.any, .any, .any, .any, .pto 0 2 0 0, .int .i64 0, .any, .any, .any, .any, .pto 1 2 0 0, .any, .any, .any, .any, .any, .any, .any, .any, .any, .any, .any, .any, .any, .any, .any, .any, .any, .any, .any, .any, .any, .any, .any, .any, .any, .any, .any, .any, .any, .any, .any, .any, .any, .any, .any, .any, .any, .any, .any, .any, .any, .any, .any, .any, .any, .any, .any, .any, .any, .any, .any, .any, .any, .any, .any, .any, .any, .any, .any], [⟨25, 2, [.agg [.sl true [], .sl true []]], 0, true⟩, ⟨25, 2, [.agg [B 2 (a.fEvents ++ b.fEvents), B 3 (a.fRecs ++ b.fRecs)]], 0, true⟩, RF 44 (a.fEvents ++ b.fEvents) 0, RF 47 (a.fRecs ++ b.fRecs) 0]⟩ : S) True ?_ ?_
  case refine_1 =>
    have hce := c_ConcatE (P := P) a.fEvents b.fEvents (by omega) (by omega)
    have hcr := c_ConcatR (P := P) a.fRecs b.fRecs (by omega) (by omega)
    refine awp_tree (.take 0 (.take 1 (.take 2 (.take 3 (.take 6 (.take 7 (.take 8 (.take 9 (.alt 4 (.alt 5 (.alt 10 (.alt 11 (.take 12 (.alt 13 (.alt 14 .done .stop) .stop)) (.alt 13 (.alt 11 (.take 12 (.alt 14 .done .stop)) .stop) .stop)) (.alt 13 (.alt 10 (.alt 11 (.take 12 (.alt 14 .done .stop)) .stop) .stop) .stop)) (.alt 10 (.alt 5 (.alt 11 (.take 12 (.alt 13 (.alt 14 .done .stop) .stop)) (.alt 13 (.alt 11 (.take 12 (.alt 14 .done .stop)) .stop) .stop)) (.alt 13 (.alt 5 (.alt 11 (.take 12 (.alt 14 .done .stop)) .stop) .stop) .stop)) (.alt 13 (.alt 5 (.alt 10 (.alt 11 (.take 12 (.alt 14 .done .stop)) .stop) .stop) (.alt 10 (.alt 5 (.alt 11 (.take 12 (.alt 14 .done .stop)) .stop) .stop) .stop)) .stop))) (.alt 10 (.alt 4 (.alt 5 (.alt 11 (.take 12 (.alt 13 (.alt 14 .done .stop) .stop)) (.alt 13 (.alt 11 (.take 12 (.alt 14 .done .stop)) .stop) .stop)) (.alt 13 (.alt 5 (.alt 11 (.take 12 (.alt 14 .done .stop)) .stop) .stop) .stop)) (.alt 13 (.alt 4 (.alt 5 (.alt 11 (.take 12 (.alt 14 .done .stop)) .stop) .stop) .stop) .stop)) (.alt 13 (.alt 4 (.alt 5 (.alt 10 (.alt 11 (.take 12 (.alt 14 .done .stop)) .stop) .stop) (.alt 10 (.alt 5 (.alt 11 (.take 12 (.alt 14 .done .stop)) .stop) .stop) .stop)) (.alt 10 (.alt 4 (.alt 5 (.alt 11 (.take 12 (.alt 14 .done .stop)) .stop) .stop) .stop) .stop)) .stop))))))))))) _ h.mo (by kernel_rfl) (by decide) (by kernel_rfl) (by rfl) ?_
    simp
    repeat' (first | (with_reducible apply And.intro) | ((first | refine xcall_fzown 3 0 2 2 true (by rfl) rfl (by rfl) (by simp) ?_ | refine xcall_fzown 4 0 2 2 true (by rfl) rfl (by rfl) (by simp) ?_ | refine xcall_fzown 5 0 2 2 true (by rfl) rfl (by rfl) (by simp) ?_ | refine xcall_fzown 6 0 2 2 true (by rfl) rfl (by rfl) (by simp) ?_) <;> simp <;> (first | (refine xcall_fresh hce (by simp) ?_; rintro _ _ ⟨rfl, rfl⟩; rw [shA_B]; simp) | (refine xcall_fresh hcr (by simp) ?_; rintro _ _ ⟨rfl, rfl⟩; rw [shA_B]; simp))) | (refine Wk.ren 0 [2, 3, 5, 7] hX rfl (by decide) ?_ ?_ ?_ ?_ <;> (simp; done)) | (refine Wk.ren 0 [2, 3, 6, 7] hX rfl (by decide) ?_ ?_ ?_ ?_ <;> (simp; done)) | (refine Wk.ren 0 [2, 4, 5, 7] hX rfl (by decide) ?_ ?_ ?_ ?_ <;> (simp; done)) | (refine Wk.ren 0 [2, 4, 6, 7] hX rfl (by decide) ?_ ?_ ?_ ?_ <;> (simp; done)) | (refine Wk.ren 0 [2, 5, 4, 7] hX rfl (by decide) ?_ ?_ ?_ ?_ <;> (simp; done)) | (refine Wk.ren 0 [2, 5, 6, 7] hX rfl (by decide) ?_ ?_ ?_ ?_ <;> (simp; done)) | (refine Wk.ren 0 [2, 6, 4, 7] hX rfl (by decide) ?_ ?_ ?_ ?_ <;> (simp; done)) | (refine Wk.ren 0 [2, 6, 5, 7] hX rfl (by decide) ?_ ?_ ?_ ?_ <;> (simp; done)) | (refine Wk.ren 0 [2, 7, 4, 6] hX rfl (by decide) ?_ ?_ ?_ ?_ <;> (simp; done)) | (refine Wk.ren 0 [2, 7, 5, 6] hX rfl (by decide) ?_ ?_ ?_ ?_ <;> (simp; done)))
  intro _
  have hcl : (⟨a.fEvents ++ b.fEvents, a.fRecs ++ b.fRecs⟩ : TLog) = catL a b := rfl
  have hlo := c_long (P := P) (catL a b)
  have hce : a.fEvents ++ b.fEvents = (catL a b).fEvents := rfl
  have hcr : a.fRecs ++ b.fRecs = (catL a b).fRecs := rfl
  rw [hce, hcr]
  generalize catL a b = c at *
  refine vc_sound h.mo _ _ _ (by kernel_rfl) ?_
  simp
  refine xcall_fn hlo (by simp) ?_
  cases longB c <;> simp
end Go.Proofs.Ytacfckmhnnhllaa
