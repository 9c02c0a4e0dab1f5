/- Chapter 41: the check of a log, over any program that has the text. -/
import Derived.Test.YtacfckmhnnhllaaE6
import Derived.Test.YtacfckmhnnhllaaE7
namespace Go.Proofs.Ytacfckmhnnhllaa
open Go.AL
variable {P : Program} [h : Facts P]

def anyB (o : Option Pl) (p : Pl) : Bool := match o with | none => false | some q => plB p q
def ceL : Option Pl → List TEvent → Int
  | _, [] => 0
  | o, e :: l => if evtZ e ≠ 0 then evtZ e else if anyB o (ofE e) = true then 12 else ceL (some (ofE e)) l
def crL (S : List Pl) : Option Pl → List TRec → Int
  | _, [] => 0
  | o, r :: l => if anyB o (atR r) = true then 12 else if hapB S (atR r) = false then 5 else crL S (some (atR r)) l
def chkZ (l : TLog) : Int := if longB l = true then 6 else if ceL none l.fEvents ≠ 0 then ceL none l.fEvents else crL (l.fEvents.map ofE) none l.fRecs
/-- What comes ahead of place k. -/
def prv {α : Type} (f : α → Pl) (l : List α) (k : Nat) : Option Pl := if k = 0 then none else (l[k - 1]?).map f
theorem prv_zero {α : Type} (f : α → Pl) (l : List α) : prv f l 0 = none := rfl
theorem prv_succ {α : Type} (f : α → Pl) {l : List α} {k : Nat} (hk : k < l.length) : prv f l (k + 1) = some (f l[k]) := by
  unfold prv
  rw [if_neg (by omega), Nat.add_sub_cancel, List.getElem?_eq_getElem hk]
  rfl
theorem plA_mk (p : Pl) : plA p = .agg [.int .i64 p.1, .int .i64 p.2] := rfl
theorem cmpP_lt (p q : Pl) : (cmpP p q < 0) = (plB p q = true) := by rw [← cmpP_less, decide_eq_true_eq]
def keysOf (M : List (Pl × Bool)) (S : List Pl) : Prop := ∀ p, (mget M p).getD false = hapB S p
theorem keysOf_nil : keysOf [] [] := fun p => by simp [hapB]
theorem keysOf_set {M : List (Pl × Bool)} {S : List Pl} (h : keysOf M S) (p : Pl) : keysOf (mset M p true) (S ++ [p]) := by
  intro q
  rw [mget_set]
  by_cases e : p = q
  · simp [e, hapB]
  · rw [if_neg e, h q]
    have : ¬ q = p := fun z => e z.symm
    simp [hapB, this]
set_option maxHeartbeats 4000000 in
theorem c_Check (l : TLog) (hok : l.ok) : FCall P 12 [.agg l.cells] (fun r => r = .int .i64 (chkZ l)) := by
  refine fcall_ofB [10, 17] h.f12 rfl (by decide) h.mo (by kernel_rfl) fun X hX => ?_
  obtain ⟨⟨hel, heo⟩, hrl, hro⟩ := hok
  unfold chkZ
  simp
  refine xcall_fn (c_long l) (by simp) ?_
  cases hlg : longB l
  case true => simp
  obtain ⟨es, rs⟩ := l
  simp only at hel heo hrl hro
  simp
  refine awp_loop (σ := Nat × List (Pl × Bool)) (fun z => (⟨[.any, .pto 0 2 0 0, .any, .mp 1, .any, .any, .any, .any, .any, .any, .any, .any, .any, Ls false es, .int .i64 es.length, .int .i64 z.1, .any, .any, .any, .any, .any, .any, .any, .any, .any, .any, .any, .any, .any, .any, .any, .any, .any, .any, .any, .any, .any, .any, .any, .any, .any, .any, .any, .any, .any, .any, .any, .any, .any, .any, .any, .any, .any, .any, .any, .any, .any, .any, .any, .any, .any, .any, .any, .any, .any, .any, .any, .any, .any, .any, .any, .any, .any], [⟨25, 2, [.agg (⟨es, rs⟩ : TLog).cells], 0, true⟩, RM z.2]⟩ : S)) (fun z => z.1 ≤ es.length ∧ ceL none es = ceL (prv ofE es z.1) (es.drop z.1) ∧ keysOf z.2 ((es.take z.1).map ofE)) (fun z => es.length - z.1) (0, []) (Wk.ren 0 [0, 1] hX rfl (by decide) (by simp) (by simp) (by simp) (by simp)) ⟨by simp, by simp [prv_zero], keysOf_nil⟩ ?_
  rintro ⟨k, M⟩ ⟨hk, hinv, hM⟩
  simp only at hk hinv hM
  refine vcB_sound [10, 17] h.mo _ _ _ (by kernel_rfl) ?_
  rcases Nat.lt_or_ge k es.length with hlt | hge
  · have hk1 := wrap_succ hlt hel
    have hmem := List.getElem_mem hlt
    have hal : es[k].fArgs.length ≤ 9223372036854775807 := by
      obtain ⟨_, _, _, _, _, _, _, _, q⟩ := heo _ hmem
      exact q.1
    rw [List.drop_eq_getElem_cons hlt, ceL] at hinv
    have hps := prv_succ ofE hlt
    have hMs := keysOf_set hM (ofE es[k])
    have htk : (es.take (k + 1)).map ofE = (es.take k).map ofE ++ [ofE es[k]] := by rw [List.take_succ_eq_append_getElem hlt, List.map_append]; rfl
    rw [← htk] at hMs
    simp [hlt, -Prod.exists]
    refine xcall_fn (c_Event es[k] hal) (by simp) ?_
    by_cases h0 : evtZ es[k] = 0
    case neg =>
      simp [h0] at hinv
      simp [h0, hinv]
    rw [if_neg (fun q => q h0)] at hinv
    simp [h0, -Prod.exists]
    refine awp_quiet [0, 1, 2, 3, 5, 6, 7, 8, 9, 10, 4, 11, 12, 13, 14] _ h.mo (by kernel_rfl) (by decide) (by kernel_rfl) (by rfl) ?_
    by_cases k0 : k = 0
    · subst k0
      simp [prv_zero, anyB] at hinv
      simp [-Prod.exists]
      refine xcall_fn (c_of es[0]) (by simp) ?_
      simp [plA_mk, -Prod.exists]
      exact ⟨(1, mset M (ofE es[0]) true), Wk.ren 0 [0, 1] hX rfl (by decide) (by simp) (by simp) (by simp) (by simp), ⟨by omega, by rw [hinv, hps]; simp, by simpa using hMs⟩, by simp only; omega⟩
    · obtain ⟨j, rfl⟩ : ∃ j, k = j + 1 := ⟨k - 1, by omega⟩
      have hjl : j < es.length := by omega
      have hk1' : IntKind.i64.wrap ((j : Int) + 1 + 1) = (j : Int) + 2 := by simp at hk1; rw [hk1]; omega
      have hwj := wrap_nat hjl (by omega)
      have h0j : (0 : Int) < (j : Int) + 1 := by omega
      rw [prv_succ ofE hjl] at hinv
      simp [h0j, hwj, hjl, -Prod.exists]
      refine ⟨_, c_of es[j + 1], _, c_of es[j], ?_⟩
      simp [plA_mk, -Prod.exists]
      refine ⟨_, c_compare (ofE es[j + 1]) (ofE es[j]), ?_⟩
      have hcl := cmpP_lt (ofE es[j + 1]) (ofE es[j])
      cases hpl : plB (ofE es[j + 1]) (ofE es[j])
      case true =>
        have hcl' : cmpP (ofE es[j + 1]) (ofE es[j]) < 0 := by rw [hcl]; exact hpl
        simp [anyB, hpl] at hinv
        simp [hcl', hinv, -Prod.exists]
      have hcl' : ¬ cmpP (ofE es[j + 1]) (ofE es[j]) < 0 := by rw [hcl, hpl]; decide
      simp [anyB, hpl] at hinv
      simp [hcl', -Prod.exists]
      refine xcall_fn (c_of es[j + 1]) (by simp) ?_
      simp [plA_mk, -Prod.exists]
      exact ⟨(j + 2, mset M (ofE es[j + 1]) true), Wk.ren 0 [0, 1] hX rfl (by decide) (by simp [hk1']) (by simp) (by simp) (by simp), ⟨by omega, by rw [hinv, hps], by simpa using hMs⟩, by simp only; omega⟩
  have hkl : k = es.length := by omega
  subst hkl
  rw [List.drop_length, ceL] at hinv
  rw [List.take_length] at hM
  simp [hinv, -Prod.exists]
  refine awp_loop (σ := Nat) (fun i => (⟨[.any, .pto 0 2 0 0, .any, .mp 1, .any, .any, .any, .any, .any, .any, .any, .any, .any, .any, .any, .any, .any, .any, .any, .any, .any, .any, .any, .any, .any, .any, .any, .any, .any, .any, .any, .any, .any, .any, .any, .any, .any, .any, .any, .any, .any, .any, .any, .any, .any, Ls false rs, .int .i64 rs.length, .int .i64 i, .any, .any, .any, .any, .any, .any, .any, .any, .any, .any, .any, .any, .any, .any, .any, .any, .any, .any, .any, .any, .any, .any, .any, .any, .any], [⟨25, 2, [.agg (⟨es, rs⟩ : TLog).cells], 0, true⟩, RM M]⟩ : S)) (fun i => i ≤ rs.length ∧ crL (es.map ofE) none rs = crL (es.map ofE) (prv atR rs i) (rs.drop i)) (fun i => rs.length - i) 0 (Wk.ren 0 [0, 1] hX rfl (by decide) (by simp) (by simp) (by simp) (by simp)) ⟨by simp, by simp [prv_zero]⟩ ?_
  rintro i ⟨hi, hinv⟩
  refine vcB_sound [10, 17] h.mo _ _ _ (by kernel_rfl) ?_
  rcases Nat.lt_or_ge i rs.length with hlt | hge
  · have hk1 := wrap_succ hlt hrl
    rw [List.drop_eq_getElem_cons hlt, crL] at hinv
    have hps := prv_succ atR hlt
    have hMi := hM (atR rs[i])
    simp [hlt]
    refine awp_quiet [0, 1, 2, 3, 5, 6, 7, 8, 9, 10, 4, 11, 12, 13, 14] _ h.mo (by kernel_rfl) (by decide) (by kernel_rfl) (by rfl) ?_
    by_cases k0 : i = 0
    · subst k0
      simp [prv_zero, anyB] at hinv
      simp
      refine xcall_fn (c_at rs[0]) (by simp) ?_
      simp [plA_mk]
      rw [show ((atR rs[0]).1, (atR rs[0]).2) = atR rs[0] from rfl, hMi]
      cases hh : hapB (es.map ofE) (atR rs[0])
      · simp [hh] at hinv
        simp [hinv]
      · simp [hh] at hinv
        simp
        exact ⟨1, Wk.ren 0 [0, 1] hX rfl (by decide) (by simp) (by simp) (by simp) (by simp), ⟨by omega, by rw [hinv, hps]; simp⟩, by omega⟩
    · obtain ⟨j, rfl⟩ : ∃ j, i = j + 1 := ⟨i - 1, by omega⟩
      have hjl : j < rs.length := by omega
      have hk1' : IntKind.i64.wrap ((j : Int) + 1 + 1) = (j : Int) + 2 := by simp at hk1; rw [hk1]; omega
      have hwj := wrap_nat hjl (by omega)
      have h0j : (0 : Int) < (j : Int) + 1 := by omega
      rw [prv_succ atR hjl] at hinv
      simp [h0j, hwj, hjl]
      refine ⟨_, c_at rs[j + 1], _, c_at rs[j], ?_⟩
      simp [plA_mk]
      refine ⟨_, c_compare (atR rs[j + 1]) (atR rs[j]), ?_⟩
      have hcl := cmpP_lt (atR rs[j + 1]) (atR rs[j])
      cases hpl : plB (atR rs[j + 1]) (atR rs[j])
      case true =>
        have hcl' : cmpP (atR rs[j + 1]) (atR rs[j]) < 0 := by rw [hcl]; exact hpl
        simp [anyB, hpl] at hinv
        simp [hcl', hinv]
      have hcl' : ¬ cmpP (atR rs[j + 1]) (atR rs[j]) < 0 := by rw [hcl, hpl]; decide
      simp [anyB, hpl] at hinv
      simp [hcl']
      refine xcall_fn (c_at rs[j + 1]) (by simp) ?_
      simp [plA_mk]
      rw [show ((atR rs[j + 1]).1, (atR rs[j + 1]).2) = atR rs[j + 1] from rfl, hMi]
      cases hh : hapB (es.map ofE) (atR rs[j + 1])
      · simp [hh] at hinv
        simp [hinv]
      · simp [hh] at hinv
        simp
        exact ⟨j + 2, Wk.ren 0 [0, 1] hX rfl (by decide) (by simp [hk1']) (by simp) (by simp) (by simp), ⟨by omega, by rw [hinv, hps]⟩, by omega⟩
  · have hil : i = rs.length := by omega
    subst hil
    rw [List.drop_length, crL] at hinv
    simp [hinv]
end Go.Proofs.Ytacfckmhnnhllaa
