/- Chapter 09: expressions: few, over any program that has the text. -/
import Derived.Test.YtnfjdpnkkmflbaaTy
namespace Go.Proofs.Ytnfjdpnkkmflbaa
open Go.AL
variable {P : Program} [h : Facts P]

mutual
def lf : TExpr → Int → Int → Int
  | ⟨_, _, _, ks⟩, n, d => if n < 1 ∨ d < 1 then -1 else lfL ks (n - 1) (d - 1)
def lfL : List TExpr → Int → Int → Int
  | [], n, _ => n
  | x :: l, n, d => if lf x n d < 0 then -1 else lfL l (lf x n d) d
end
theorem lf_eq (e : TExpr) (n d : Int) : lf e n d = if n < 1 ∨ d < 1 then -1 else lfL e.fKids (n - 1) (d - 1) := by
  cases e; rw [lf]
theorem lfL_nil (n d : Int) : lfL [] n d = n := by rw [lfL]
theorem lfL_cons (x : TExpr) (l : List TExpr) (n d : Int) : lfL (x :: l) n d = if lf x n d < 0 then -1 else lfL l (lf x n d) d := by rw [lfL]
theorem lf_le : ∀ (e : TExpr) (n d : Int), lf e n d < 0 ∨ lf e n d < n := by
  refine TExpr.ind fun e ih => ?_
  intro n d
  rw [lf_eq]
  split
  · exact .inl (by omega)
  have key : ∀ (l : List TExpr) (m : Int), (∀ y ∈ l, ∀ n d, lf y n d < 0 ∨ lf y n d < n) → lfL l m (d - 1) < 0 ∨ lfL l m (d - 1) ≤ m := by
    intro l
    induction l with
    | nil => intro m _; rw [lfL_nil]; exact .inr (Int.le_refl _)
    | cons x l ihl =>
      intro m hm
      rw [lfL_cons]
      split
      · exact .inl (by omega)
      · have h1 := hm x (List.mem_cons_self ..) m (d - 1)
        rcases ihl (lf x m (d - 1)) (fun y hy => hm y (List.mem_cons_of_mem _ hy)) with h2 | h2
        · exact .inl h2
        · exact .inr (by omega)
  rcases key e.fKids (n - 1) ih with h1 | h1
  · exact .inl h1
  · exact .inr (by omega)
theorem c_left : ∀ (e : TExpr), e.ok → ∀ (n d : Int), -1 ≤ n → n ≤ 4000000000000000000 → -4000000000000000000 ≤ d → d ≤ 4000000000000000000 → FCall P 33 [.agg e.cells, .int .i64 n, .int .i64 d] (fun r => r = .int .i64 (lf e n d)) := by
  refine TExpr.ind fun e ih => ?_
  intro hok n d hn0 hn hd0 hd
  obtain ⟨_, _, _, _, hkl, hko⟩ := hok
  obtain ⟨op, nm, num, ks⟩ := e
  simp only at hkl hko ih
  refine fcall_of h.f33 rfl (by decide) h.mo (by kernel_rfl) fun X hX => ?_
  rw [lf_eq]
  by_cases h1 : n < 1
  · rw [if_pos (.inl h1)]
    simp [h1]
  by_cases h2 : d < 1
  · rw [if_pos (.inr h2)]
    simp [h1, h2]
  rw [if_neg (by omega)]
  have w1 : IntKind.i64.wrap (n - 1) = n - 1 := i64_id (by omega) (by omega)
  have w2 : IntKind.i64.wrap (d - 1) = d - 1 := i64_id (by omega) (by omega)
  have h1' : 1 ≤ n := by omega
  have h2' : 1 ≤ d := by omega
  simp [h1, h2, w1]
  refine awp_loop (σ := Nat × Int) (fun q => (⟨[.any, .int .i64 q.2, .int .i64 d, .pto 0 4 0 0, .any, .any, .any, .int .i64 q.1, .any, .any, .any, .any, .any, .any, .any, .any, .any, .any, .any, .any, .any, .any, .any, .any, .any, .any, .any, .any, .any, .any, .any, .any, .any, .any, .any], [⟨25, 4, [.agg (⟨op, nm, num, ks⟩ : TExpr).cells], 0, true⟩]⟩ : S)) (fun q => q.1 ≤ ks.length ∧ 0 ≤ q.2 ∧ q.2 ≤ n - 1 ∧ lfL ks (n - 1) (d - 1) = lfL (ks.drop q.1) q.2 (d - 1)) (fun q => ks.length - q.1) (0, n - 1) (Wk.ren 0 [0] hX rfl (by decide) (by simp) (by simp) (by simp) (by simp)) ⟨by simp, by simp only; omega, by simp, by simp⟩ ?_
  rintro ⟨k, m⟩ ⟨hk, hm0, hm, hinv⟩
  simp only at hk hm0 hm hinv
  refine vc_sound h.mo _ _ _ (by kernel_rfl) ?_
  rcases Nat.lt_or_ge k ks.length with hlt | hge
  · have hk1 := wrap_succ hlt hkl
    have hmem := List.getElem_mem hlt
    rw [List.drop_eq_getElem_cons hlt, lfL_cons] at hinv
    have hle := lf_le ks[k] m (d - 1)
    have hc := ih ks[k] hmem (hko _ hmem) m (d - 1) (by omega) (by omega) (by omega) (by omega)
    simp [hlt, w2, -Prod.exists]
    refine xcall_fn hc (by simp) ?_
    by_cases hneg : lf ks[k] m (d - 1) < 0
    · rw [if_pos hneg] at hinv
      simp [hneg, hinv, -Prod.exists]
    · rw [if_neg hneg] at hinv
      have hneg' : 0 ≤ lf ks[k] m (d - 1) := by omega
      simp [hneg, -Prod.exists]
      exact ⟨(k + 1, lf ks[k] m (d - 1)), Wk.ren 0 [0] hX rfl (by decide) (by simp [hk1]) (by simp) (by simp) (by simp), ⟨by omega, hneg', by simp only; omega, hinv⟩, by omega⟩
  · have hkl : k = ks.length := by omega
    subst hkl
    rw [List.drop_length, lfL_nil] at hinv
    simp [hinv]
def fewB (e : TExpr) : Bool := decide (0 ≤ lf e 200 40)
theorem c_few (e : TExpr) (hok : e.ok) : FCall P 10 [.agg e.cells] (fun r => r = .bool (fewB e)) := by
  refine fcall_of h.f10 rfl (by decide) h.mo (by kernel_rfl) fun X hX => ?_
  simp
  refine xcall_fn (c_left e hok 200 40 (by decide) (by decide) (by decide) (by decide)) (by simp) ?_
  by_cases h0 : 0 ≤ lf e 200 40 <;> simp [h0, fewB]
end Go.Proofs.Ytnfjdpnkkmflbaa
