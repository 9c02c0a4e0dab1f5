/- Chapter 35: networks: Check, over any program that has the text. -/
import Derived.Test.YtnnpahcanpakcaaN1
namespace Go.Proofs.Ytnnpahcanpakcaa
open Go.AL
variable {P : Program} [h : Facts P]

/-- The rounds in which the last messages on each link arrive. -/
def upd (f : Int × Int → Int) (k : Int × Int) (v : Int) : Int × Int → Int := fun p => if p = k then v else f p
def lk (m : TMsg) : Int × Int := (m.fFrom, m.fTo)
def msgB (m : TMsg) : Bool := endsB m && wiB m.fArrive 1000000000000
def chk : (Int × Int → Int) → List TMsg → Int
  | _, [] => 0
  | f, m :: l => if msgB m = true then (if m.fArrive < f (lk m) then 12 else chk (upd f (lk m) m.fArrive) l) else 2
def netE (n : TNet) : Int := if dlyE n.fDelays ≠ 0 then dlyE n.fDelays else if wiB n.fUsed 1000000000000 = true then chk (fun _ => 0) n.fMsgs else 2

theorem chk_cons (f : Int × Int → Int) (m : TMsg) (l : List TMsg) : chk f (m :: l) = if msgB m = true then (if m.fArrive < f (lk m) then 12 else chk (upd f (lk m) m.fArrive) l) else 2 := rfl

theorem c_Check (n : TNet) (hd : n.fDelays.length ≤ 9223372036854775807) (hl : n.fMsgs.length ≤ 9223372036854775807) : FCall P 13 [.agg n.cells] (fun r => r = .int .i64 (netE n)) := by
  refine fcall_ofB [12, 14] h.f13 rfl (by decide) h.mo (by kernel_rfl) fun X hX => ?_
  simp
  refine xcall_fn (c_delays n.fDelays hd) (by simp) ?_
  unfold netE
  by_cases h0 : dlyE n.fDelays = 0
  case neg => simp [h0]
  simp [h0]
  refine xcall_fn (c_within n.fUsed 1000000000000) (by simp) ?_
  by_cases h1 : wiB n.fUsed 1000000000000 = true
  case neg => simp [h1]
  simp [h1]
  generalize n.fMsgs = l at hl
  refine awp_loop (σ := Nat × List ((Int × Int) × Int)) (fun s => (⟨[.any, .any, .any, .any, .mp 0, .any, .any, .any, .any, .any, .any, .any, .any, .any, .any, .any, .any, .any, .any, Ls false l, .int .i64 l.length, .int .i64 s.1, .any, .any, .any, .any, .any, .any, .any, .any, .any, .any, .any, .any, .any, .any, .any, .any, .any, .any, .any, .any, .any, .any, .any, .any, .any], [RM s.2]⟩ : S)) (fun s => s.1 ≤ l.length ∧ chk (fun _ => 0) l = chk (fun p => (mget s.2 p).getD 0) (l.drop s.1)) (fun s => l.length - s.1) (0, []) (Wk.ren 0 [1] hX rfl (by decide) (by simp) (by simp) (by simp) (by simp)) ⟨by simp, by simp⟩ ?_
  rintro ⟨k, M⟩ ⟨hk, hinv⟩
  simp only at hk hinv
  refine vcB_sound [12, 14] h.mo _ _ _ (by kernel_rfl) ?_
  rcases Nat.lt_or_ge k l.length with hlt | hge
  · have hk1 := wrap_succ hlt hl
    rw [List.drop_eq_getElem_cons hlt, chk_cons] at hinv
    obtain ⟨m, hm⟩ : ∃ m, l[k] = m := ⟨_, rfl⟩
    rw [hm] at hinv
    simp [hlt, hm]
    refine xcall_fn (c_ends m) (by simp) ?_
    cases h2 : endsB m
    · rw [if_neg (by simp [msgB, h2])] at hinv
      simp [hinv]
    simp
    refine xcall_fn (c_within m.fArrive 1000000000000) (by simp) ?_
    cases h3 : wiB m.fArrive 1000000000000
    · rw [if_neg (by simp [msgB, h3])] at hinv
      simp [hinv]
    rw [if_pos (by simp [msgB, h2, h3])] at hinv
    simp
    refine awp_fz 1 (by rfl) (by simp) ?_
    simp
    refine awp_quiet [0, 1, 2, 3, 4, 5, 6] _ h.mo (by kernel_rfl) (by decide) (by kernel_rfl) (by rfl) ?_
    simp
    refine ⟨_, c_of m, ?_⟩
    have hlk : lk m = (m.fFrom, m.fTo) := rfl
    rw [hlk] at hinv
    by_cases q : m.fArrive < (mget M (m.fFrom, m.fTo)).getD 0
    · rw [if_pos q] at hinv
      simp [q, hinv]
    · rw [if_neg q] at hinv
      simp [q]
      refine awp_tree (.take 0 (.take 1 (.take 3 (.take 4 (.alt 2 (.alt 5 .done .stop) .stop))))) _ h.mo (by kernel_rfl) (by decide) (by kernel_rfl) (by rfl) ?_
      simp
      refine xcall_fn (c_of m) (by simp) ?_
      simp
      have e : (fun p => (mget (mset M (m.fFrom, m.fTo) m.fArrive) p).getD 0) = upd (fun p => (mget M p).getD 0) (m.fFrom, m.fTo) m.fArrive := by
        funext p
        unfold upd
        rw [mget_set]
        by_cases hp : p = (m.fFrom, m.fTo)
        · rw [if_pos hp, if_pos hp.symm]; rfl
        · rw [if_neg hp, if_neg (fun hh => hp hh.symm)]
      exact ⟨k + 1, mset M (m.fFrom, m.fTo) m.fArrive, Wk.ren 0 [0] hX rfl (by decide) (by simp [hk1]) (by simp) (by simp) (by simp), ⟨by omega, by rw [e]; exact hinv⟩, by omega⟩
  · have hge2 : ¬ k < l.length := by omega
    rw [List.drop_of_length_le hge] at hinv
    simp [hge2, hinv, chk]
end Go.Proofs.Ytnnpahcanpakcaa
