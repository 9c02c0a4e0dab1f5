/- Chapter 21: stores: the plain forms; New, the processes that wait, over any program that has the text. -/
import Derived.Test.YtmnpiibjjamjiaaTy
namespace Go.Proofs.Ytmnpiibjjamjiaa
open Go.AL
variable {P : Program} [h : Facts P]

def inB (n : Int) : Bool := decide (-1000000000000 ≤ n) && decide (n ≤ 1000000000000)
theorem inB_iff {n : Int} : inB n = true ↔ -1000000000000 ≤ n ∧ n ≤ 1000000000000 := by simp [inB]
def cntB (n : Int) : Bool := decide (0 ≤ n) && decide (n ≤ 1000000000000)
theorem cntB_iff {n : Int} : cntB n = true ↔ 0 ≤ n ∧ n ≤ 1000000000000 := by simp [cntB]
def newE (room p : Int) : Int := if 1 ≤ room ∧ room ≤ 1000 then (if 1 ≤ p ∧ p ≤ 3 then 0 else 1) else 2
def zeroS : TStore := ⟨0, 0, [], [], [], 0, 0⟩
def newS (room p : Int) : TStore := if newE room p = 0 then ⟨room, p, [], [], [], 0, 0⟩ else zeroS
def prc (l : List TReady) : List Int := l.map (·.fProc)
def waitL (s : TStore) : List Int := prc s.fPutters ++ s.fGetters
def fitS (s : TStore) : Prop := s.fItems.length ≤ 4000000000 ∧ s.fPutters.length ≤ 4000000000 ∧ s.fGetters.length ≤ 4000000000

theorem c_New (room p : Int) : FCall P 10 [.int .i64 room, .int .i64 p] (fun r => r = .tup [.agg (newS room p).cells, .int .i64 (newE room p)]) := by
  refine fcall_of h.f10 rfl (by decide) h.mo (by kernel_rfl) fun X hX => ?_
  by_cases h1 : room < 1
  · have e : newE room p = 2 := if_neg (by omega)
    simp [h1, e, newS, zeroS]
  by_cases h2 : 1000 < room
  · have e : newE room p = 2 := if_neg (by omega)
    simp [h1, h2, e, newS, zeroS]
  by_cases h3 : p < 1
  · have e : newE room p = 1 := (if_pos (by omega)).trans (if_neg (by omega))
    simp [h1, h2, h3, e, newS, zeroS]
  by_cases h4 : 3 < p
  · have e : newE room p = 1 := (if_pos (by omega)).trans (if_neg (by omega))
    simp [h1, h2, h3, h4, e, newS, zeroS]
  have e : newE room p = 0 := (if_pos (by omega)).trans (if_pos (by omega))
  simp [h1, h2, h3, h4, e, newS]
theorem c_RNew (room p : Int) : FCall P 11 [.int .i64 room, .int .i64 p] (fun r => r = .tup [.agg (newS room p).cells, .int .i64 (newE room p)]) := by
  refine fcall_of h.f11 rfl (by decide) h.mo (by kernel_rfl) fun X hX => ?_
  by_cases h1 : room < 1
  · have e : newE room p = 2 := if_neg (by omega)
    simp [h1, e, newS, zeroS]
  by_cases h2 : 1000 < room
  · have e : newE room p = 2 := if_neg (by omega)
    simp [h1, h2, e, newS, zeroS]
  by_cases h3 : p < 1
  · have e : newE room p = 1 := (if_pos (by omega)).trans (if_neg (by omega))
    simp [h1, h2, h3, e, newS, zeroS]
  by_cases h4 : 3 < p
  · have e : newE room p = 1 := (if_pos (by omega)).trans (if_neg (by omega))
    simp [h1, h2, h3, h4, e, newS, zeroS]
  have e : newE room p = 0 := (if_pos (by omega)).trans (if_pos (by omega))
  simp [h1, h2, h3, h4, e, newS]
theorem c_counts (n : Int) : FCall P 33 [.int .i64 n] (fun r => r = .bool (cntB n)) := by
  refine fcall_of h.f33 rfl (by decide) h.mo (by kernel_rfl) fun X hX => ?_
  by_cases h1 : 0 ≤ n <;> by_cases h2 : n ≤ 1000000000000 <;> simp [cntB, h1, h2] <;> omega
theorem c_natural (n : Int) : FCall P 50 [.int .i64 n] (fun r => r = .bool (cntB n)) := by
  refine fcall_of h.f50 rfl (by decide) h.mo (by kernel_rfl) fun X hX => ?_
  by_cases h1 : 0 ≤ n <;> by_cases h2 : n ≤ 1000000000000 <;> simp [cntB, h1, h2] <;> omega
theorem c_In (n : Int) : FCall P 29 [.int .i64 n] (fun r => r = .bool (inB n)) := by
  refine fcall_of h.f29 rfl (by decide) h.mo (by kernel_rfl) fun X hX => ?_
  by_cases h1 : -1000000000000 ≤ n <;> by_cases h2 : n ≤ 1000000000000 <;> simp [inB, h1, h2] <;> omega
theorem c_RIn (n : Int) : FCall P 51 [.int .i64 n] (fun r => r = .bool (inB n)) := by
  refine fcall_of h.f51 rfl (by decide) h.mo (by kernel_rfl) fun X hX => ?_
  by_cases h1 : -1000000000000 ≤ n <;> by_cases h2 : n ≤ 1000000000000 <;> simp [inB, h1, h2] <;> omega

theorem prc_take {l : List TReady} {k : Nat} (hk : k < l.length) : prc (l.take (k + 1)) = prc (l.take k) ++ [l[k].fProc] := by
  unfold prc
  rw [List.take_succ_eq_append_getElem hk, List.map_append]
  rfl
theorem c_waiting (s : TStore) (hs : fitS s) : FCall P 27 [.agg s.cells] (fun r => r = Ls false (waitL s)) := by
  refine fcall_of h.f27 rfl (by decide) h.mo (by kernel_rfl) fun X hX => ?_
  obtain ⟨room, pol, items, put, get, i, o⟩ := s
  obtain ⟨d1, d2, d3⟩ := hs
  simp only at d1 d2 d3
  simp
  refine awp_loop (σ := Nat) (fun k => (⟨[.any, .pto 0 7 0 0, .any, B 1 (prc (put.take k)), .any, .any, .any, Ls false put, .int .i64 put.length, .int .i64 k, .any, .any, .any, .any, .any, .any, .any, .any, .any, .any, .any, .any, .any], [⟨26, 7, [.agg (⟨room, pol, items, put, get, i, o⟩ : TStore).cells], 0, true⟩, RF 3 (prc (put.take k)) 0]⟩ : S)) (fun k => k ≤ put.length) (fun k => put.length - k) 0 (Wk.ren 0 [0, 1] hX rfl (by decide) (by simp [prc]) (by simp) (by simp) (by simp [prc])) (by omega) ?_
  rintro k hk
  refine vc_sound h.mo _ _ _ (by kernel_rfl) ?_
  rcases Nat.lt_or_ge k put.length with hlt | hge
  · have hk1 := wrap_succ hlt (by omega)
    have hp := prc_take hlt
    have hpl : (prc (put.take k)).length ≤ put.length := by simp [prc]; omega
    generalize prc (put.take k) = L at hp hpl
    simp [hlt]
    exact ⟨⟨by omega, by omega⟩, k + 1, Wk.ren 0 [0, 4] hX rfl (by decide) (by simp [hk1, hp]) (by simp) (by simp) (by simp [hp]), by omega, by omega⟩
  · have hkl : k = put.length := by omega
    subst hkl
    have hpl : (prc put).length = put.length := by simp [prc]
    simp [waitL]
    omega
end Go.Proofs.Ytmnpiibjjamjiaa
