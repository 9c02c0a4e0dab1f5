/- Chapter 10: statements: the library's Compact of texts, over any program that has the text. -/
import Derived.Test.YtadllkhmihbfhaaTy
namespace Go.Proofs.Ytadllkhmihbfhaa
open Go.AL
variable {P : Program} [h : Facts P]

def dd : List (List UInt8) → List (List UInt8)
  | [] => []
  | [x] => [x]
  | x :: y :: r => if x = y then dd (y :: r) else x :: dd (y :: r)
theorem dd_snoc (t : List (List UInt8)) (y x : List UInt8) : dd (t ++ [y, x]) = if y = x then dd (t ++ [y]) else dd (t ++ [y]) ++ [x] := by
  induction t with
  | nil =>
    simp only [List.nil_append, dd]
    split
    · rename_i q; rw [q]
    · rfl
  | cons a t ih =>
    cases t with
    | nil =>
      simp only [List.nil_append, List.cons_append, dd] at ih ⊢
      by_cases q1 : a = y <;> by_cases q2 : y = x <;> simp [q1, q2]
    | cons b t =>
      simp only [List.cons_append] at ih ⊢
      rw [dd, dd, ih]
      by_cases q1 : a = b <;> by_cases q2 : y = x <;> simp [q1, q2]
theorem dd_take {l : List (List UInt8)} {j : Nat} (hj : j + 1 < l.length) : dd (l.take (j + 2)) = if l[j] = l[j + 1] then dd (l.take (j + 1)) else dd (l.take (j + 1)) ++ [l[j + 1]] := by
  have e1 : l.take (j + 1) = l.take j ++ [l[j]] := List.take_succ_eq_append_getElem (by omega)
  have e2 : l.take (j + 2) = l.take j ++ [l[j], l[j + 1]] := by
    rw [show j + 2 = (j + 1) + 1 from rfl, List.take_succ_eq_append_getElem hj, e1, List.append_assoc]; rfl
  rw [e1, e2, dd_snoc]
theorem dd_short (l : List (List UInt8)) (hl : l.length < 2) : dd l = l := by
  match l, hl with
  | [], _ => rfl
  | [x], _ => rfl
theorem dd_take_len (l : List (List UInt8)) : (dd l).length ≤ l.length := by
  match l with
  | [] => simp [dd]
  | [x] => simp [dd]
  | x :: y :: r =>
    have := dd_take_len (y :: r)
    unfold dd
    split
    · simp only [List.length_cons] at *; omega
    · simp only [List.length_cons] at *; omega

set_option maxHeartbeats 4000000 in
theorem c_Compact (l : List (List UInt8)) (hl : l.length ≤ 1000000) :
    XCall P 34 [B 0 l] [RF 9 l 0] (fun r H' => ∃ r1 k, H' = r1 :: List.replicate k dead0 ∧ (r1.live = true → (RF 9 l 0).live = true) ∧ noidL r1.es = true ∧ frmd r = true ∧ ∃ c ex, r = .own 0 0 (dd l).length c ex ∧ RowCut (some r1) (dd l)) := by
  refine xcall_of h.f34 rfl (by decide) h.mo (by kernel_rfl) fun X hX => ?_
  have hX1 : X.μ.length ≤ 1 := by simpa using hX
  by_cases h2 : l.length < 2
  · have h2i : (l.length : Int) < 2 := by omega
    simp [h2i]
    rw [dd_short l h2]
    refine ⟨rfl, ⟨l.length, by cases l <;> simp [B]⟩, ?_⟩
    cases l with
    | nil => exact .inl rfl
    | cons x l => exact .inr ⟨_, _, _, rfl, List.take_of_length_le (by simp)⟩
  have h2' : 2 ≤ l.length := by omega
  have h2i : ¬ (l.length : Int) < 2 := by omega
  have h2j : (2 : Int) ≤ (l.length : Int) := by omega
  have hne : l ≠ [] := by rintro rfl; simp at h2'
  have hem : l.isEmpty = false := by cases l with | nil => exact (hne rfl).elim | cons _ _ => rfl
  simp [h2i]
  refine awp_loop (σ := Nat) (fun i => (⟨[B 0 l, .any, .any, .int .i64 (i : Int), .any, .any, .any, .any, .any, .any, .any, .any, .any, .any, .any, .any, .any, .any, .any, .any, .any, .any, .any, .any, .any, .any, .any, .any, .any, .any, .any, .any, .any, .any, .any, .any, .any, .any, .any, .any, .any, .any, .any, .any, .any, .any, .any, .any, .any, .any, .any, .any, .any, .any, .any, .any, .any, .any, .any, .any, .any], [⟨9, 1, l.map Enc.enc, 0, true⟩]⟩ : S)) (fun i => 1 ≤ i ∧ i ≤ l.length ∧ dd (l.take i) = l.take i) (fun i => l.length - i) 1 (Wk.ren 1 [0] hX1 rfl (by decide) (by simp) (by simp) (by simp) (by simp [RF_ne hne])) ⟨by omega, by omega, dd_short _ (by simp; omega)⟩ ?_
  rintro i ⟨h1i, hil, hd⟩
  refine vc_sound h.mo _ _ _ (by kernel_rfl) ?_
  rcases Nat.lt_or_ge i l.length with hlt | hge
  case inr =>
    have hie : i = l.length := by omega
    subst hie
    rw [List.take_length] at hd
    simp
    rw [hd]
    refine ⟨by rw [RF_ne hne], rfl, ⟨l.length, by cases l <;> simp [B]⟩, .inr ⟨_, _, _, rfl, List.take_of_length_le (by simp)⟩⟩
  obtain ⟨j, hj⟩ : ∃ j, i = j + 1 := ⟨i - 1, by omega⟩
  have hjl : j < l.length := by omega
  have hwm : IntKind.i64.wrap ((i : Int) - 1) = (j : Int) := by rw [i64_id (by omega) (by omega)]; omega
  have hk1 := wrap_succ hlt (by omega)
  have hdt : dd (l.take (i + 1)) = if l[j] = l[i] then dd (l.take i) else dd (l.take i) ++ [l[i]] := by subst hj; exact dd_take hlt
  rw [hd] at hdt
  by_cases heq : l[j] = l[i]
  case neg =>
    rw [if_neg heq] at hdt
    have heq2 : ¬ l[i] = l[j] := fun q => heq q.symm
    simp [hlt, hjl, hwm, heq2]
    exact ⟨i + 1, Wk.ren 1 [0] hX1 rfl (by decide) (by simp [hk1]) (by simp) (by simp) (by simp), ⟨by omega, by omega, by rw [hdt, List.take_succ_eq_append_getElem hlt]⟩, by omega⟩
  rw [if_pos heq] at hdt
  have hil2 : i ≤ l.length := by omega
  simp [hlt, hjl, hwm, eq_true heq.symm, hil2, hem]
  refine awp_loop (σ := Nat × Nat × List (List UInt8)) (fun z => (⟨[B 0 l, .any, .any, .int .i64 (z.1 : Int), .own 0 i (l.length - i) (l.length - i) false, .int .i64 (z.2.1 : Int), .any, .any, .any, .any, .any, .any, .any, .any, .any, .any, .any, .any, .any, .any, .any, .any, .any, .any, .any, .any, .any, .any, .any, .any, .any, .any, .any, .any, .any, .any, .any, .any, .any, .any, .any, .any, .any, .any, .any, .any, .any, .any, .any, .any, .any, .any, .any, .any, .any, .any, .any, .any, .any, .any, .any], [⟨9, 1, z.2.2.map Enc.enc, 0, true⟩]⟩ : S)) (fun z => 1 ≤ z.1 ∧ 1 ≤ z.2.1 ∧ i + z.2.1 ≤ l.length ∧ z.1 + 1 ≤ i + z.2.1 ∧ z.2.2.length = l.length ∧ z.2.2.take z.1 = dd (l.take (i + z.2.1)) ∧ z.2.2.drop (i + z.2.1 - 1) = l.drop (i + z.2.1 - 1)) (fun z => l.length - z.2.1) (i, 1, l) (Wk.ren 1 [0] hX1 rfl (by decide) (by simp) (by simp) (by simp) (by simp)) ⟨h1i, by simp, by simp only; omega, by simp only; omega, rfl, hdt.symm, rfl⟩ ?_
  rintro ⟨p, q, m⟩ ⟨hp, hq, hiq, hpq, hm, htk, hdr⟩
  simp only at hp hq hiq hpq hm htk hdr
  refine vc_sound h.mo _ _ _ (by kernel_rfl) ?_
  clear hwm hk1 hdt heq
  rcases Nat.lt_or_ge q (l.length - i) with hqlt | hqge
  · obtain ⟨r, hr⟩ : ∃ r, q = r + 1 := ⟨q - 1, by omega⟩
    have hwm : IntKind.i64.wrap ((q : Int) - 1) = (r : Int) := by rw [i64_id (by omega) (by omega)]; omega
    have hk1 := wrap_succ hqlt (by omega)
    have hpl : p < l.length := by omega
    have hkp := wrap_succ hpl (by omega)
    have b1 : i + q < l.length := by omega
    have b2 : i + r < l.length := by omega
    have b1m : i + q < m.length := by omega
    have b2m : i + r < m.length := by omega
    have hpm : p < m.length := by omega
    have hr1 : r < l.length - i := by omega
    have e0 : i + q - 1 = i + r := by omega
    rw [e0] at hdr
    have hx2 : m[i + r] = l[i + r] := by
      rw [List.drop_eq_getElem_cons b2, List.drop_eq_getElem_cons b2m] at hdr
      exact (List.cons.inj hdr).1
    have hdr1 : m.drop (i + q) = l.drop (i + q) := by
      have e1 : i + q = i + r + 1 := by omega
      have := congrArg (List.drop 1) hdr
      rw [List.drop_drop, List.drop_drop] at this
      rw [e1]
      exact this
    have hx1 : m[i + q] = l[i + q] := by
      rw [List.drop_eq_getElem_cons b1, List.drop_eq_getElem_cons b1m] at hdr1
      exact (List.cons.inj hdr1).1
    have hdd : dd (l.take (i + (q + 1))) = if l[i + r] = l[i + q] then m.take p else m.take p ++ [l[i + q]] := by
      have := dd_take (l := l) (j := i + r) (by omega)
      have e1 : i + r + 2 = i + (q + 1) := by omega
      have e2 : i + r + 1 = i + q := by omega
      simp only [e1, e2] at this
      rw [this, ← htk]
    by_cases hee : l[i + r] = l[i + q]
    · rw [if_pos hee] at hdd
      simp [hqlt, hwm, hm, b1, b2, hr1, hx1, hx2, eq_true hee.symm, -Prod.exists]
      exact ⟨(p, q + 1, m), Wk.ren 1 [0] hX1 rfl (by decide) (by simp [hk1]) (by simp) (by simp) (by simp), ⟨hp, by simp only; omega, by simp only; omega, by simp only; omega, hm, hdd.symm, by simp only; rw [show i + (q + 1) - 1 = i + q by omega]; exact hdr1⟩, by simp only; omega⟩
    · rw [if_neg hee] at hdd
      have hee2 : ¬ l[i + q] = l[i + r] := fun z => hee z.symm
      obtain ⟨m', hm'⟩ : ∃ m', m.set p l[i + q] = m' := ⟨_, rfl⟩
      have e : (m.map Enc.enc).set p (Enc.enc l[i + q]) = m'.map Enc.enc := by rw [← hm', List.map_set]
      simp at e
      simp [hqlt, hwm, hm, b1, b2, hr1, hx1, hx2, hee2, hpl, -Prod.exists] -- G5
      refine ⟨(p + 1, q + 1, m'), Wk.ren 1 [0] hX1 rfl (by decide) (by simp [hk1, hkp]) (by simp) (by simp) (by simp [e]), ⟨by simp only; omega, by simp only; omega, by simp only; omega, by simp only; omega, by rw [← hm']; simp [hm], ?_, ?_⟩, by simp only; omega⟩
      · simp only
        rw [hdd, ← hm', List.take_succ_eq_append_getElem (by simp; omega), List.take_set_of_le (Nat.le_refl p)]
        simp
      · simp only
        rw [show i + (q + 1) - 1 = i + q by omega, ← hm', List.drop_set_of_lt (by omega)]
        exact hdr1
  · have hqe : i + q = l.length := by omega
    have hqi : ¬ q < l.length - i := by omega
    rw [hqe, List.take_length] at htk
    have hlen : (dd l).length = p := by rw [← htk, List.length_take]; omega
    rw [hlen]
    have hp3 : p ≤ l.length := by omega
    have hp4 : ¬ l.length - p = 0 := by omega
    simp [hqi, hp3, hp4, hm, hem]
    have ho : ∀ r : Row, r.live = true → r.ty = 9 → ownOK P [r] (32) (B 0 l) = true := by
      rintro ⟨_, _, _, _, _⟩ h1 h2
      simp only at h1 h2
      subst h1 h2
      simp [B]
    refine ⟨ho _ rfl rfl, ho _ rfl rfl, by rw [RF_ne hne], noidL_replicate _ rfl _, rfl, .inr ⟨_, _, _, rfl, ?_⟩⟩
    rw [hlen, List.take_append_of_le_length (by simp; omega), ← htk, List.map_take, List.take_take, Nat.min_self]
end Go.Proofs.Ytadllkhmihbfhaa
