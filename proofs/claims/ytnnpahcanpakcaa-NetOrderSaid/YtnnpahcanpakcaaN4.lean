/- Chapter 35: networks: the reference's Check, over any program that has the text. -/
import Derived.Test.YtnnpahcanpakcaaN3
namespace Go.Proofs.Ytnnpahcanpakcaa
open Go.AL
variable {P : Program} [h : Facts P]

theorem wi15 {n : Int} (h : wiB n 15 = true) : ∃ a : Nat, n = a ∧ a ≤ 15 := by
  have := wiB_iff.1 h
  exact ⟨n.toNat, by omega, by omega⟩
/-- The array has the rounds of the links. -/
def Tab (L : List Int) (f : Int × Int → Int) : Prop := L.length = 256 ∧ ∀ a b : Nat, a ≤ 15 → b ≤ 15 → L[a * 16 + b]? = some (f ((a : Int), (b : Int)))
theorem Tab.zero : Tab (zerosI 256) (fun _ => 0) := ⟨zerosI_len _, fun a b ha hb => zerosI_get (by omega)⟩
theorem Tab.set {L : List Int} {f : Int × Int → Int} (h : Tab L f) {a b : Nat} (ha : a ≤ 15) (hb : b ≤ 15) (v : Int) : Tab (L.set (a * 16 + b) v) (upd f ((a : Int), (b : Int)) v) := by
  refine ⟨by simp [h.1], fun c d hc hd => ?_⟩
  rw [List.getElem?_set]
  unfold upd
  by_cases e : a * 16 + b = c * 16 + d
  · have h1 : a = c := by omega
    have h2 : b = d := by omega
    subst h1 h2
    rw [if_pos rfl, if_pos (by rw [h.1]; omega), if_pos rfl]
  · rw [if_neg e, h.2 c d hc hd, if_neg]
    intro hh
    simp only [Prod.mk.injEq] at hh
    omega

theorem c_RCheck (n : TNet) (hd : n.fDelays.length ≤ 4000000000) (hl : n.fMsgs.length ≤ 9223372036854775807) : FCall P 14 [.agg n.cells] (fun r => r = .int .i64 (netE n)) := by
  refine fcall_of h.f14 rfl (by decide) h.mo (by kernel_rfl) fun X hX => ?_
  simp
  refine xcall_fn (c_RNew n.fDelays hd) (by simp) ?_
  unfold netE
  by_cases h0 : dlyE n.fDelays = 0
  case neg => simp [h0]
  simp [h0]
  by_cases h1 : wiB n.fUsed 1000000000000 = true
  case neg =>
    by_cases q1 : n.fUsed < 0
    · have q1' : ¬ 0 ≤ n.fUsed := by omega
      simp [h1, q1', q1]
    · have q2 : 1000000000000 < n.fUsed := Classical.byContradiction fun q => h1 (wiB_iff.2 ⟨by omega, by omega⟩)
      have q1' : 0 ≤ n.fUsed := by omega
      have q2' : ¬ n.fUsed ≤ 1000000000000 := by omega
      simp [h1, q1', q2', q1, q2]
  have g1 := wiB_iff.1 h1
  have q1 : ¬ n.fUsed < 0 := by omega
  have q2 : ¬ 1000000000000 < n.fUsed := by omega
  simp [h1, g1.1, g1.2, q1, q2]
  obtain ⟨dl, us, l⟩ := n
  simp only at hl
  refine awp_loop (σ := Nat × List Int) (fun s => (⟨[.any, .pto 0 3 0 0, .any, .any, .any, .pto 1 256 0 0, .int .i64 s.1, .any, .any, .any, .any, .any, .any, .any, .any, .any, .any, .any, .any, .any, .any, .any, .any, .any, .any, .any, .any, .any, .any, .any, .any, .any, .any, .any, .any, .any, .any, .any, .any, .any, .any, .any, .any, .any, .any, .any, .any, .any, .any, .any, .any, .any, .any, .any, .any, .any, .any, .any, .any, .any, .any, .any, .any, .any, .any, .any, .any, .any, .any, .any, .any, .any, .any, .any], [⟨25, 3, [.agg (⟨dl, us, l⟩ : TNet).cells], 0, true⟩, ⟨62, 256, [.agg (s.2.map Enc.enc)], 0, true⟩]⟩ : S)) (fun s => s.1 ≤ l.length ∧ ∃ f, Tab s.2 f ∧ chk (fun _ => 0) l = chk f (l.drop s.1)) (fun s => l.length - s.1) (0, zerosI 256) (Wk.ren 0 [0, 2] hX rfl (by decide) (by simp) (by simp) (by simp) (by simp)) ⟨by simp, _, Tab.zero, by simp⟩ ?_
  rintro ⟨k, L⟩ ⟨hk, f, hT, hinv⟩
  simp only at hk hT hinv
  refine vc_sound h.mo _ _ _ (by kernel_rfl) ?_
  rcases Nat.lt_or_ge k l.length with hlt | hge
  · have hk1 := wrap_succ hlt hl
    rw [List.drop_eq_getElem_cons hlt, chk_cons] at hinv
    obtain ⟨m, hm⟩ : ∃ m, l[k] = m := ⟨_, rfl⟩
    rw [hm] at hinv
    simp [hlt, hm]
    refine xcall_fn (c_site m.fFrom) (by simp) ?_
    cases h2 : wiB m.fFrom 15
    · rw [if_neg (by simp [msgB, endsB, h2])] at hinv
      simp [hinv]
    simp
    refine xcall_fn (c_site m.fTo) (by simp) ?_
    cases h3 : wiB m.fTo 15
    · rw [if_neg (by simp [msgB, endsB, h3])] at hinv
      simp [hinv]
    by_cases h4 : wiB m.fArrive 1000000000000 = true
    case neg =>
      rw [if_neg (by simp [msgB, h4])] at hinv
      by_cases q1 : m.fArrive < 0
      · have q1' : ¬ 0 ≤ m.fArrive := by omega
        simp [q1', q1, hinv]
      · have q2 : 1000000000000 < m.fArrive := Classical.byContradiction fun q => h4 (wiB_iff.2 ⟨by omega, by omega⟩)
        have q1' : 0 ≤ m.fArrive := by omega
        have q2' : ¬ m.fArrive ≤ 1000000000000 := by omega
        simp [q1', q2', q1, q2, hinv]
    rw [if_pos (by simp [msgB, endsB, h2, h3, h4])] at hinv
    have g2 := wiB_iff.1 h4
    have q3 : ¬ m.fArrive < 0 := by omega
    have q4 : ¬ 1000000000000 < m.fArrive := by omega
    obtain ⟨a, ha, ha15⟩ := wi15 h2
    obtain ⟨b, hb, hb15⟩ := wi15 h3
    have w1 : IntKind.i64.wrap ((a : Int) * 16) = ((a * 16 : Nat) : Int) := by rw [i64_id (by omega) (by omega)]; omega
    have w2 : IntKind.i64.wrap ((a : Int) * 16 + b) = ((a * 16 + b : Nat) : Int) := by rw [i64_id (by omega) (by omega)]; omega
    have hget := hT.2 a b ha15 hb15
    have hlen := hT.1
    have hkk : lk m = ((a : Int), (b : Int)) := by rw [lk, ha, hb]
    rw [hkk] at hinv
    obtain ⟨c, hc⟩ : ∃ c : Nat, a * 16 + b = c := ⟨_, rfl⟩
    have hcl : c < 256 := by omega
    rw [hc] at w2 hget
    simp [g2.1, g2.2, q3, q4, ha, hb, w1, w2, hget]
    have hcL : c < L.length := by omega
    have hcI : (c : Int) < 256 := by omega
    by_cases q : m.fArrive < f ((a : Int), (b : Int))
    · rw [if_pos q] at hinv
      have q' : ¬ f ((a : Int), (b : Int)) ≤ m.fArrive := by omega
      simp [q, q', hinv, hcl]
    · rw [if_neg q] at hinv
      have q' : f ((a : Int), (b : Int)) ≤ m.fArrive := by omega
      have hcL' : c + 1 ≤ L.length := by omega
      have hset : L.set c m.fArrive = L.take c ++ m.fArrive :: L.drop (c + 1) := List.set_eq_take_append_cons_drop .. |>.trans (by rw [if_pos hcL])
      simp [q, q', hcl, hcL']
      exact ⟨k + 1, L.set c m.fArrive, Wk.ren 0 [0, 1] hX rfl (by decide) (by simp [hk1]) (by simp) (by simp) (by simp [hset]), ⟨by omega, _, by rw [← hc]; exact hT.set ha15 hb15 _, hinv⟩, by omega⟩
  · have hge2 : ¬ k < l.length := by omega
    rw [List.drop_of_length_le hge] at hinv
    simp [hge2, hinv, chk]
end Go.Proofs.Ytnnpahcanpakcaa
