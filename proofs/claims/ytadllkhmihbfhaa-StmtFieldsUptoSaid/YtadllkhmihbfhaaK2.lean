/- Chapter 10: statements: the reference's Uses, over any program that has the text. -/
import Derived.Test.YtadllkhmihbfhaaK0
import Derived.Test.YtadllkhmihbfhaaA4
import Derived.Test.YtadllkhmihbfhaaQ1
namespace Go.Proofs.Ytadllkhmihbfhaa
open Go.AL
variable {P : Program} [h : Facts P]

omit h in
theorem wi_mid {l : List (List UInt8)} {s : List UInt8} {k : Nat} (hi : incr l) (hlo : ∀ j (hj : j < l.length), j < k → l[j] < s) (hhi : ∀ (hk : k < l.length), s < l[k]) (hk : k ≤ l.length) : l.take k ++ (s :: l.drop k) = insF s l false := by
  have hlt : ∀ x ∈ l.take k, x < s := by
    intro x hx
    obtain ⟨j, hj, rfl⟩ := List.getElem_of_mem hx
    rw [List.getElem_take]
    rw [List.length_take] at hj
    exact hlo j (by omega) (by omega)
  have hgt : ∀ x ∈ l.drop k, s < x := by
    intro x hx
    rcases Nat.lt_or_ge k l.length with hkl | hkl
    · rw [List.drop_eq_getElem_cons hkl] at hx
      rcases List.mem_cons.1 hx with rfl | hx
      · exact hhi hkl
      · have hp : incr (l.drop k) := List.Pairwise.sublist (List.drop_sublist k l) hi
        rw [List.drop_eq_getElem_cons hkl] at hp
        exact List.lt_trans (hhi hkl) ((List.pairwise_cons.1 hp).1 x hx)
    · rw [List.drop_eq_nil_of_le hkl] at hx; cases hx
  refine incr_unique ?_ (insF_incr s l hi) fun x => ?_
  · refine List.pairwise_append.2 ⟨List.Pairwise.sublist (List.take_sublist k l) hi, List.pairwise_cons.2 ⟨hgt, List.Pairwise.sublist (List.drop_sublist k l) hi⟩, ?_⟩
    intro x hx y hy
    rcases List.mem_cons.1 hy with rfl | hy
    · exact hlt x hx
    · exact List.lt_trans (hlt x hx) (hgt y hy)
  · rw [insF_mem, List.mem_append, List.mem_cons]
    have : x ∈ l ↔ x ∈ l.take k ∨ x ∈ l.drop k := by rw [← List.mem_append, List.take_append_drop]
    rw [this]
    constructor
    · rintro (hx | rfl | hx)
      · exact .inl ⟨.inl hx, fun e => by rw [e] at hx; exact List.lt_irrefl _ (hlt _ hx)⟩
      · exact .inr ⟨rfl, rfl⟩
      · exact .inl ⟨.inr hx, fun e => by rw [e] at hx; exact List.lt_irrefl _ (hgt _ hx)⟩
    · rintro (⟨hx | hx, _⟩ | ⟨rfl, _⟩)
      · exact .inl hx
      · exact .inr (.inr hx)
      · exact .inr (.inl rfl)
omit h in
theorem wi_has {l : List (List UInt8)} {s : List UInt8} (hi : incr l) (hs : s ∈ l) : l = insF s l false := by
  refine incr_unique hi (insF_incr s l hi) fun x => ?_
  rw [insF_mem]
  constructor
  · intro hx
    by_cases e : x = s
    · exact .inr ⟨e, rfl⟩
    · exact .inl ⟨hx, e⟩
  · rintro (⟨hx, _⟩ | ⟨rfl, _⟩)
    · exact hx
    · exact hs
omit h in
theorem asrc_part (T : List Row) (l : List (List UInt8)) (off n cb : Nat) (ex : Bool) (hle : off + n ≤ l.length) : asrc P (RF 9 l 0 :: T) 9 (if l = [] then A.own 0 0 0 0 true else A.own 0 off n cb ex) = some (((l.drop off).take n).map Enc.enc) := by
  by_cases hl : l = []
  · subst hl
    have : n = 0 := by simp at hle; omega
    subst this
    rfl
  · rw [if_neg hl, RF_ne hl]
    by_cases hn : n = 0
    · subst hn
      simp [cut_eq]
    · simp [cut_eq, hle, List.map_drop, List.map_take]
/-- What 'with' leaves of the row that it was handed. -/
def withR (m : List (List UInt8)) (s : List UInt8) (r : A) (r1 : Row) (L : List Row) : Prop :=
  (m = insF s m false ∧ r = B 0 m ∧ r1 = RF 9 m 0 ∧ L = []) ∨ (r = B 4 (insF s m false) ∧ r1 = RF 9 m 0 ∧ L = [dead0, ⟨9, 1, [A.str s], 0, true⟩, dead0, RF 9 (insF s m false) 0])
def withX (m : List (List UInt8)) (s : List UInt8) (r : A) (H' : List Row) : Prop :=
  ∃ r1 L, H' = r1 :: L ∧ (r1.live = true → (RF 9 m 0).live = true) ∧ noidL r1.es = true ∧ (∀ x ∈ L, noidL x.es = true) ∧ frsh r = true ∧ withR m s r r1 L
set_option maxHeartbeats 4000000 in
theorem c_with (l : List (List UInt8)) (s : List UInt8) (hl : l.length ≤ 2000000) (hi : incr l) : XCall P 36 [B 0 l, .str s] [RF 9 l 0] (withX l s) := by
  refine xcall_of h.f36 rfl (by decide) h.mo (by kernel_rfl) fun X hX => ?_
  have hX1 : X.μ.length ≤ 1 := by simpa using hX
  simp
  refine awp_loop (σ := Nat) (fun k => (⟨[B 0 l, .str s, .any, .any, .any, .int .i64 k, .any, .any, .any, .any, .any, .any, .any, .any, .any, .any, .any, .any, .any, .any, .any, .any, .any, .any, .any, .any, .any, .any, .any, .any, .any, .any, .any, .any, .any, .any, .any, .any, .any, .any, .any, .any, .any, .any, .any, .any, .any, .any], [RF 9 l 0]⟩ : S)) (fun k => k ≤ l.length ∧ ∀ j (hj : j < l.length), j < k → l[j] < s) (fun k => l.length - k) 0 (Wk.slots (by simp)) ⟨by omega, by simp⟩ ?_
  rintro k ⟨hk, hinv⟩
  refine vc_sound h.mo _ _ _ (by kernel_rfl) ?_
  by_cases hlt : k < l.length
  · have hk1 := wrap_succ hlt (by omega)
    have hp1 : ∀ T, asrc P (RF 9 l 0 :: T) 9 (if l = [] then A.own 0 0 0 0 true else A.own 0 0 k l.length false) = _ := fun T => asrc_part T l 0 k _ _ (by omega)
    have hp2 : ∀ T, asrc P (RF 9 l 0 :: T) 9 (if l = [] then A.own 0 0 0 0 true else A.own 0 k (l.length - k) (l.length - k) false) = _ := fun T => asrc_part T l k (l.length - k) _ _ (by omega)
    rw [List.drop_zero] at hp1
    have e4 : (l.drop k).take (l.length - k) = l.drop k := List.take_of_length_le (by simp)
    rw [e4] at hp2
    rcases tri l[k] s with q | q | q
    · have hb : Op.bytesLess l[k] s = true := by rw [less_eq]; exact decide_eq_true q
      simp [hlt, hb]
      refine ⟨k + 1, Wk.slots (by simp [hk1]), ⟨by omega, fun j hj hjk => ?_⟩, by omega⟩
      by_cases e : j = k
      · subst e; exact q
      · exact hinv j hj (by omega)
    · have hb : Op.bytesLess l[k] s = false := by rw [less_eq, q]; exact decide_eq_false (List.lt_irrefl _)
      have hm : s ∈ l := q ▸ List.getElem_mem hlt
      have hb2 : Op.bytesLess s s = false := by rw [less_eq]; exact decide_eq_false (List.lt_irrefl _)
      have hw := wi_has hi hm
      simp [hlt, hb2, q]
      exact ⟨_, _, rfl, id, by simp, by simp, rfl, .inl ⟨hw, rfl, rfl, rfl⟩⟩
    · have hb : Op.bytesLess l[k] s = false := by rw [less_eq]; exact decide_eq_false fun z => List.lt_irrefl _ (List.lt_trans z q)
      have hne : ¬ l[k] = s := fun e => by rw [e] at q; exact List.lt_irrefl _ q
      have hmid := wi_mid hi hinv (fun _ => q) hk
      simp [hlt, hb, hne, hp1, hp2, -agrowT_ne, -List.map_take, -List.map_drop]
      refine ⟨by omega, ⟨by omega, by omega⟩, ⟨by omega, by omega⟩, by omega, ⟨by omega, by omega⟩, ?_⟩
      have e1 : (A.own 3 0 (min k l.length + 1) (min k l.length + 1) false) = B 3 (l.take k ++ [s]) := by simp [B]
      have e2 : (⟨9, 1, List.map Enc.enc (l.take k) ++ [A.str s], 0, true⟩ : Row) = RF 9 (l.take k ++ [s]) 0 := by rw [RF_ne (by simp)]; simp [-List.map_take]
      have e3 : List.map Enc.enc (l.take k) ++ [A.str s] = List.map Enc.enc (l.take k ++ [s]) := by simp [-List.map_take]
      have e5 : (l.take k ++ [s]) ++ l.drop k = insF s l false := by rw [← hmid]; simp
      rw [e2, e1, e3]
      generalize l.take k ++ [s] = m at *
      generalize l.drop k = d at *
      simp [e5]
      exact ⟨_, _, rfl, id, by simp, by simp [noidL], rfl, .inr ⟨rfl, rfl, rfl⟩⟩
  · have hp1 : ∀ T, asrc P (RF 9 l 0 :: T) 9 (if l = [] then A.own 0 0 0 0 true else A.own 0 0 k l.length false) = _ := fun T => asrc_part T l 0 k _ _ (by omega)
    have hp2 : ∀ T, asrc P (RF 9 l 0 :: T) 9 (if l = [] then A.own 0 0 0 0 true else A.own 0 k (l.length - k) (l.length - k) false) = _ := fun T => asrc_part T l k (l.length - k) _ _ (by omega)
    rw [List.drop_zero] at hp1
    have e4 : (l.drop k).take (l.length - k) = l.drop k := List.take_of_length_le (by simp)
    rw [e4] at hp2
    have hmid := wi_mid hi hinv (fun q => absurd q hlt) hk
    simp [hlt, hp1, hp2, -agrowT_ne, -List.map_take, -List.map_drop]
    refine ⟨by omega, ⟨by omega, by omega⟩, ⟨by omega, by omega⟩, by omega, ⟨by omega, by omega⟩, ?_⟩
    have e1 : (A.own 3 0 (min k l.length + 1) (min k l.length + 1) false) = B 3 (l.take k ++ [s]) := by simp [B]
    have e2 : (⟨9, 1, List.map Enc.enc (l.take k) ++ [A.str s], 0, true⟩ : Row) = RF 9 (l.take k ++ [s]) 0 := by rw [RF_ne (by simp)]; simp [-List.map_take]
    have e3 : List.map Enc.enc (l.take k) ++ [A.str s] = List.map Enc.enc (l.take k ++ [s]) := by simp [-List.map_take]
    have e5 : (l.take k ++ [s]) ++ l.drop k = insF s l false := by rw [← hmid]; simp
    rw [e2, e1, e3]
    generalize l.take k ++ [s] = m at *
    generalize l.drop k = d at *
    simp [e5]
    exact ⟨_, _, rfl, id, by simp, by simp [noidL], rfl, .inr ⟨rfl, rfl, rfl⟩⟩
end Go.Proofs.Ytadllkhmihbfhaa
