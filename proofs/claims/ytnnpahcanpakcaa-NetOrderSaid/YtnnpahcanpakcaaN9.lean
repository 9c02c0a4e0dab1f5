/- Chapter 35: networks: the reference's Least and Idle, over any program that has the text. -/
import Derived.Test.YtnnpahcanpakcaaN8
namespace Go.Proofs.Ytnnpahcanpakcaa
open Go.AL
variable {P : Program} [h : Facts P]

/-- The least time, of those messages that are no promises. -/
def lst : Int → Bool → List TMsg → Int × Bool
  | t, f, [] => (t, f)
  | t, f, m :: l => if m.fNull = false ∧ (f = false ∨ m.fEvent.fTime < t) then lst m.fEvent.fTime true l else lst t f l
theorem lst_cons (t : Int) (f : Bool) (m : TMsg) (l : List TMsg) : lst t f (m :: l) = if m.fNull = false ∧ (f = false ∨ m.fEvent.fTime < t) then lst m.fEvent.fTime true l else lst t f l := rfl
def leastP (n : TNet) : Int × Bool := if netE n = 0 then lst 0 false n.fMsgs else (0, false)

theorem c_RLeast (n : TNet) (hn : fitN n) : FCall P 20 [.agg n.cells] (fun r => r = .tup [.int .i64 (leastP n).1, .bool (leastP n).2]) := by
  refine fcall_of h.f20 rfl (by decide) h.mo (by kernel_rfl) fun X hX => ?_
  obtain ⟨d1, d2, d3⟩ := hn
  simp
  refine xcall_fn (c_RCheck n (by omega) (by omega)) (by simp) ?_
  by_cases h0 : netE n = 0
  case neg => simp [h0, leastP]
  simp [h0, leastP]
  obtain ⟨dl, us, l⟩ := n
  simp only at d1 d2 d3
  refine awp_loop (σ := Nat × Int × Bool) (fun s => (⟨[.any, .pto 0 3 0 0, .any, .any, .int .i64 s.2.1, .bool s.2.2, .int .i64 s.1, .any, .any, .any, .any, .any, .any, .any, .any, .any, .any, .any, .any, .any, .any, .any, .any, .any, .any, .any, .any, .any, .any, .any, .any, .any, .any, .any, .any, .any, .any, .any, .any, .any, .any, .any], [⟨25, 3, [.agg (⟨dl, us, l⟩ : TNet).cells], 0, true⟩]⟩ : S)) (fun s => s.1 ≤ l.length ∧ lst 0 false l = lst s.2.1 s.2.2 (l.drop s.1)) (fun s => l.length - s.1) (0, 0, false) (Wk.ren 0 [0] hX rfl (by decide) (by simp) (by simp) (by simp) (by simp)) ⟨by simp, by simp⟩ ?_
  rintro ⟨k, t, f⟩ ⟨hk, hinv⟩
  simp only at hk hinv
  refine vc_sound h.mo _ _ _ (by kernel_rfl) ?_
  rcases Nat.lt_or_ge k l.length with hlt | hge
  · have hk1 := wrap_succ hlt (by omega)
    rw [List.drop_eq_getElem_cons hlt, lst_cons] at hinv
    obtain ⟨m, hm⟩ : ∃ m, l[k] = m := ⟨_, rfl⟩
    rw [hm] at hinv
    cases h1 : m.fNull
    · cases f
      · rw [if_pos ⟨h1, .inl rfl⟩] at hinv
        simp [hlt, hm, h1, -Prod.exists, -Bool.exists_bool]
        exact ⟨(k + 1, m.fEvent.fTime, true), Wk.ren 0 [0] hX rfl (by decide) (by simp [hk1]) (by simp) (by simp) (by simp), ⟨by omega, hinv⟩, by omega⟩
      · by_cases q : m.fEvent.fTime < t
        · rw [if_pos ⟨h1, .inr q⟩] at hinv
          simp [hlt, hm, h1, q, -Prod.exists, -Bool.exists_bool]
          exact ⟨(k + 1, m.fEvent.fTime, true), Wk.ren 0 [0] hX rfl (by decide) (by simp [hk1]) (by simp) (by simp) (by simp), ⟨by omega, hinv⟩, by omega⟩
        · rw [if_neg (by simp [q])] at hinv
          simp [hlt, hm, h1, q, -Prod.exists, -Bool.exists_bool]
          exact ⟨(k + 1, t, true), Wk.ren 0 [0] hX rfl (by decide) (by simp [hk1]) (by simp) (by simp) (by simp), ⟨by omega, hinv⟩, by omega⟩
    · rw [if_neg (by simp [h1])] at hinv
      simp [hlt, hm, h1, -Prod.exists, -Bool.exists_bool]
      exact ⟨(k + 1, t, f), Wk.ren 0 [0] hX rfl (by decide) (by simp [hk1]) (by simp) (by simp) (by simp), ⟨by omega, hinv⟩, by omega⟩
  · have hge2 : ¬ k < l.length := by omega
    rw [List.drop_of_length_le hge, lst] at hinv
    simp [hge2, hinv]

def idleB (n : TNet) : Bool := decide (netE n = 0) && !(leastP n).2
theorem c_RIdle (n : TNet) (hn : fitN n) : FCall P 23 [.agg n.cells] (fun r => r = .bool (idleB n)) := by
  refine fcall_of h.f23 rfl (by decide) h.mo (by kernel_rfl) fun X hX => ?_
  simp
  refine xcall_fn (c_RLeast n hn) (by simp) ?_
  obtain ⟨d1, d2, d3⟩ := hn
  simp
  refine xcall_fn (c_RCheck n (by omega) (by omega)) (by simp) ?_
  by_cases h0 : netE n = 0 <;> simp [h0, idleB]
end Go.Proofs.Ytnnpahcanpakcaa
