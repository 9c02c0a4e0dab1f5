/- Chapter 21: stores, plain: what Put, Get and Leave return; it is valid. No program in sight. -/
import Derived.Test.YtmnpiibjjamjiaaW4
namespace Go.Proofs.Ytmnpiibjjamjiaa
open Go.AL

def putS (s : TStore) (proc item : Int) : TStore :=
  if entE s proc item ≠ 0 then zeroS else match s.fGetters with
    | _ :: gs => ⟨s.fRoom, s.fPolicy, s.fItems, s.fPutters, gs, s.fIn + 1, s.fOut + 1⟩
    | [] => if (s.fItems.length : Int) < s.fRoom then ⟨s.fRoom, s.fPolicy, s.fItems ++ [item], s.fPutters, [], s.fIn + 1, s.fOut⟩ else ⟨s.fRoom, s.fPolicy, s.fItems, s.fPutters ++ [⟨proc, item⟩], [], s.fIn, s.fOut⟩
def putB (s : TStore) (proc item : Int) : Bool := decide (entE s proc item = 0) && (!s.fGetters.isEmpty || decide ((s.fItems.length : Int) < s.fRoom))
def putN (s : TStore) (proc item : Int) : List TReady :=
  if entE s proc item ≠ 0 then [] else match s.fGetters with
    | g :: _ => [⟨g, item⟩]
    | [] => []
def getB (s : TStore) (proc : Int) : Bool := decide (entE s proc 0 = 0) && (firstP s).2
def firstN (s : TStore) : Nat := (firstP s).1.toNat
def getS (s : TStore) (proc : Int) : TStore :=
  if entE s proc 0 ≠ 0 then zeroS else if (firstP s).2 = false then ⟨s.fRoom, s.fPolicy, s.fItems, s.fPutters, s.fGetters ++ [proc], s.fIn, s.fOut⟩ else match s.fPutters with
    | [] => ⟨s.fRoom, s.fPolicy, s.fItems.eraseIdx (firstN s), [], s.fGetters, s.fIn, s.fOut + 1⟩
    | p :: ps => ⟨s.fRoom, s.fPolicy, s.fItems.eraseIdx (firstN s) ++ [p.fItem], ps, s.fGetters, s.fIn + 1, s.fOut + 1⟩
def getI (s : TStore) (proc : Int) : Int := if getB s proc = true then s.fItems.getD (firstN s) 0 else 0
def getN (s : TStore) (proc : Int) : List TReady := if getB s proc = true then s.fPutters.take 1 else []
def leaveS (s : TStore) (proc : Int) : TStore := if chkS s ≠ 0 then s else ⟨s.fRoom, s.fPolicy, s.fItems, s.fPutters.filter fun r => !decide (r.fProc = proc), s.fGetters.filter fun p => !decide (p = proc), s.fIn, s.fOut⟩

theorem newE_zero {room p : Int} : newE room p = 0 ↔ (1 ≤ room ∧ room ≤ 1000) ∧ 1 ≤ p ∧ p ≤ 3 := by
  unfold newE
  by_cases h1 : 1 ≤ room ∧ room ≤ 1000
  · rw [if_pos h1]
    by_cases h2 : 1 ≤ p ∧ p ≤ 3
    · rw [if_pos h2]; exact ⟨fun _ => ⟨h1, h2⟩, fun _ => rfl⟩
    · rw [if_neg h2]; exact ⟨(fun h => by cases h), fun h => (h2 h.2).elim⟩
  · rw [if_neg h1]; exact ⟨(fun h => by cases h), fun h => (h1 h.1).elim⟩
/-- A valid store. -/
structure V (s : TStore) : Prop where
  room : 1 ≤ s.fRoom ∧ s.fRoom ≤ 1000
  pol : 1 ≤ s.fPolicy ∧ s.fPolicy ≤ 3
  few : (s.fItems.length : Int) ≤ s.fRoom
  wl : s.fPutters.length + s.fGetters.length ≤ 300
  it : ∀ x ∈ s.fItems, inB x = true
  pt : ∀ r ∈ s.fPutters, inB r.fItem = true
  i : 0 ≤ s.fIn ∧ s.fIn ≤ 1000000000000
  o : 0 ≤ s.fOut ∧ s.fOut ≤ 1000000000000
  w : ∀ x ∈ waitL s, cntB x = true
  nd : (waitL s).Nodup
  bal : s.fIn - s.fOut = s.fItems.length
  fp : s.fPutters = [] ∨ s.fRoom ≤ s.fItems.length
  fg : s.fGetters = [] ∨ s.fItems = []
theorem waitL_length (s : TStore) : (waitL s).length = s.fPutters.length + s.fGetters.length := by simp [waitL, prc]
theorem V_iff {s : TStore} : chkS s = 0 ↔ V s := by
  constructor
  · intro h
    obtain ⟨h1, ⟨h2, h3⟩, h4, h5, h6, h7⟩ := chkS_zero h
    obtain ⟨a1, a2⟩ := newE_zero.1 h1
    obtain ⟨b1, b2, b3, b4⟩ := rng1_iff.1 h4
    unfold formB at h7
    simp only [Bool.and_eq_true, Bool.or_eq_true, decide_eq_true_eq] at h7
    obtain ⟨⟨c1, c2⟩, c3⟩ := h7
    rw [waitL_length] at h3
    exact ⟨a1, a2, h2, h3, b1, b2, cntB_iff.1 b3, cntB_iff.1 b4, List.all_eq_true.1 h5, h6, c1, c2.imp List.eq_nil_of_length_eq_zero id, c3.imp List.eq_nil_of_length_eq_zero List.eq_nil_of_length_eq_zero⟩
  · intro h
    unfold chkS
    rw [if_neg (by rw [newE_zero.2 ⟨h.room, h.pol⟩]; simp)]
    have := h.few
    have := h.wl
    rw [if_neg (by rw [waitL_length]; omega)]
    rw [if_neg (by
      have e1 : rng1 s = true := rng1_iff.2 ⟨h.it, h.pt, cntB_iff.2 h.i, cntB_iff.2 h.o⟩
      have e2 : (waitL s).all cntB = true := List.all_eq_true.2 h.w
      rw [e1, e2]; simp)]
    rw [if_neg (by simp [h.nd]), if_pos]
    unfold formB
    simp only [Bool.and_eq_true, Bool.or_eq_true, decide_eq_true_eq]
    exact ⟨⟨h.bal, h.fp.imp (fun e => by rw [e]; rfl) id⟩, h.fg.imp (fun e => by rw [e]; rfl) (fun e => by rw [e]; rfl)⟩
theorem ent_zero {s : TStore} {proc item : Int} (h : entE s proc item = 0) : V s ∧ cntB proc = true ∧ inB item = true ∧ proc ∉ waitL s ∧ s.fPutters.length + s.fGetters.length < 300 ∧ s.fIn < 1000000000000 ∧ s.fOut < 1000000000000 := by
  unfold entE at h
  split at h
  · rename_i g; exact (g h).elim
  rename_i g1
  split at h
  · cases h
  rename_i g2
  split at h
  · cases h
  rename_i g3
  split at h
  · cases h
  rename_i g4
  rw [waitL_length] at g4
  refine ⟨V_iff.1 (Classical.not_not.1 g1), ?_, ?_, g3, by omega, by omega, by omega⟩
  · cases e : cntB proc
    · exact (g2 (.inl e)).elim
    · rfl
  · cases e : inB item
    · exact (g2 (.inr e)).elim
    · rfl
/-- What Put returns is valid. -/
theorem V_put {s : TStore} {proc item : Int} (h : entE s proc item = 0) : V (putS s proc item) := by
  obtain ⟨hv, h1, h2, h3, h4, h5, h6⟩ := ent_zero h
  unfold putS
  rw [if_neg (by simp [h])]
  obtain ⟨room, pol, items, put, get, i, o⟩ := s
  obtain ⟨v1, v2, v3, v4, v5, v6, v7, v8, v9, v10, v11, v12, v13⟩ := hv
  simp only at *
  cases get with
  | cons g gs =>
    simp only
    have hsub : ∀ x, x ∈ prc put ++ gs → x ∈ prc put ++ g :: gs := fun x hx => by
      rcases List.mem_append.1 hx with hx | hx
      · exact List.mem_append_left _ hx
      · exact List.mem_append_right _ (List.mem_cons_of_mem _ hx)
    refine ⟨v1, v2, v3, by simp at v4 ⊢; omega, v5, v6, by simp only; omega, by simp only; omega, fun x hx => v9 x (hsub x hx), ?_, by simp only; omega, v12, ?_⟩
    · refine List.Nodup.sublist ?_ v10
      exact List.Sublist.append (List.Sublist.refl _) (List.sublist_cons_self _ _)
    · rcases v13 with v13 | v13
      · cases v13
      · exact .inr v13
  | nil =>
    simp only
    split
    · rename_i hr
      have hp : put = [] := v12.resolve_right (by omega)
      refine ⟨v1, v2, by simp; omega, v4, fun x hx => ?_, v6, by simp only; omega, v8, v9, v10, by simp; omega, .inl hp, .inl rfl⟩
      rcases List.mem_append.1 hx with hx | hx
      · exact v5 x hx
      · rw [List.mem_singleton] at hx; rw [hx]; exact h2
    · rename_i hr
      have e : prc (put ++ [⟨proc, item⟩]) ++ [] = (prc put ++ []) ++ [proc] := by simp [prc]
      refine ⟨v1, v2, v3, by simp at h4 ⊢; omega, v5, fun r hr => ?_, v7, v8, fun x hx => ?_, ?_, v11, .inr (by simp only; omega), .inl rfl⟩
      · rcases List.mem_append.1 hr with hr | hr
        · exact v6 r hr
        · rw [List.mem_singleton] at hr; rw [hr]; exact h2
      · unfold waitL at hx
        simp only [e] at hx
        rcases List.mem_append.1 hx with hx | hx
        · exact v9 x hx
        · rw [List.mem_singleton] at hx; rw [hx]; exact h1
      · unfold waitL
        simp only [e]
        exact List.nodup_append.2 ⟨v10, by simp, by rintro a ha b hb rfl; rw [List.mem_singleton] at hb; rw [hb] at ha; exact h3 ha⟩
theorem first_at {s : TStore} (_hv : V s) (hf : (firstP s).2 = true) : firstN s < s.fItems.length := by
  unfold firstN
  unfold firstP at hf ⊢
  split at hf
  · cases hf
  rename_i h0
  rw [if_neg h0]
  simp only
  have hl : 0 < s.fItems.length := by omega
  split
  · omega
  · split
    · rw [Int.toNat_natCast]
      unfold bestI
      refine List.findIdx_lt_length_of_exists ?_
      obtain ⟨⟨h1, h2⟩, h3⟩ := minL_spec s.fItems s.fItems[0]
      have hmem : minL s.fItems[0] s.fItems ∈ s.fItems := by
        rcases h3 with h3 | h3
        · rw [h3]; exact List.getElem_mem hl
        · exact h3
      exact ⟨_, hmem, by simpa using h2⟩
    · simpa using hl
theorem first_none {s : TStore} (hv : V s) (hf : (firstP s).2 = false) : s.fItems = [] := by
  unfold firstP at hf
  split at hf
  · rename_i h0
    exact List.eq_nil_of_length_eq_zero (h0.resolve_right (by rw [V_iff.2 hv]; simp))
  · cases hf
/-- What Get returns is valid. -/
theorem V_get {s : TStore} {proc : Int} (h : entE s proc 0 = 0) : V (getS s proc) := by
  obtain ⟨hv, h1, h2, h3, h4, h5, h6⟩ := ent_zero h
  have hfa := first_at hv
  have hfn := first_none hv
  unfold getS
  rw [if_neg (by simp [h])]
  generalize hf : (firstP s).2 = f at hfa hfn
  generalize firstN s = n at hfa
  obtain ⟨room, pol, items, put, get, i, o⟩ := s
  obtain ⟨v1, v2, v3, v4, v5, v6, v7, v8, v9, v10, v11, v12, v13⟩ := hv
  simp only at *
  cases f
  · rw [if_pos rfl]
    have hit := hfn rfl
    refine ⟨v1, v2, v3, by simp at h4 ⊢; omega, v5, v6, v7, v8, fun x hx => ?_, ?_, v11, v12, .inr hit⟩
    · unfold waitL at hx
      simp only at hx
      rw [← List.append_assoc] at hx
      rcases List.mem_append.1 hx with hx | hx
      · exact v9 x hx
      · rw [List.mem_singleton] at hx; rw [hx]; exact h1
    · unfold waitL
      simp only
      rw [← List.append_assoc]
      exact List.nodup_append.2 ⟨v10, by simp, by rintro a ha b hb rfl; rw [List.mem_singleton] at hb; rw [hb] at ha; exact h3 ha⟩
  · rw [if_neg (by simp)]
    have hn := hfa rfl
    have hlen : (items.eraseIdx n).length = items.length - 1 := List.length_eraseIdx_of_lt hn
    have hg : get = [] := v13.resolve_right (by rintro rfl; simp at hn)
    have hmem : ∀ x ∈ items.eraseIdx n, inB x = true := fun x hx => v5 x (List.mem_of_mem_eraseIdx hx)
    cases put with
    | nil =>
      simp only
      refine ⟨v1, v2, by simp only [hlen]; omega, v4, hmem, v6, v7, by simp only; omega, v9, v10, by simp only [hlen]; omega, .inl rfl, .inl hg⟩
    | cons p ps =>
      simp only
      refine ⟨v1, v2, by simp [hlen]; omega, by simp at v4 ⊢; omega, fun x hx => ?_, fun r hr => v6 r (List.mem_cons_of_mem _ hr), by simp only; omega, by simp only; omega, fun x hx => v9 x (List.mem_cons_of_mem _ hx), (List.nodup_cons.1 v10).2, by simp [hlen]; omega, ?_, .inl hg⟩
      · rcases List.mem_append.1 hx with hx | hx
        · exact hmem x hx
        · rw [List.mem_singleton] at hx; rw [hx]; exact v6 p (by simp)
      · rcases v12 with v12 | v12
        · cases v12
        · exact .inr (by simp [hlen]; omega)
theorem prc_filter (l : List TReady) (proc : Int) : prc (l.filter fun r => !decide (r.fProc = proc)) = (prc l).filter fun p => !decide (p = proc) := by
  unfold prc
  rw [List.filter_map]
  rfl
/-- What Leave returns is valid where the store was. -/
theorem V_leave {s : TStore} (hv : V s) (proc : Int) : V (leaveS s proc) := by
  unfold leaveS
  rw [if_neg (by rw [V_iff.2 hv]; simp)]
  have e : waitL ⟨s.fRoom, s.fPolicy, s.fItems, s.fPutters.filter fun r => !decide (r.fProc = proc), s.fGetters.filter fun p => !decide (p = proc), s.fIn, s.fOut⟩ = (waitL s).filter fun p => !decide (p = proc) := by
    unfold waitL
    simp only
    rw [prc_filter, List.filter_append]
  obtain ⟨v1, v2, v3, v4, v5, v6, v7, v8, v9, v10, v11, v12, v13⟩ := hv
  have l1 : (s.fPutters.filter fun r => !decide (r.fProc = proc)).length ≤ s.fPutters.length := List.length_filter_le _ _
  have l2 : (s.fGetters.filter fun p => !decide (p = proc)).length ≤ s.fGetters.length := List.length_filter_le _ _
  refine ⟨v1, v2, v3, by simp only; omega, v5, fun r hr => v6 r (List.mem_filter.1 hr).1, v7, v8, fun x hx => ?_, ?_, v11, ?_, ?_⟩
  · rw [e] at hx
    exact v9 x (List.mem_filter.1 hx).1
  · rw [e]
    exact v10.filter _
  · rcases v12 with v12 | v12
    · exact .inl (by simp only; rw [v12]; rfl)
    · exact .inr v12
  · rcases v13 with v13 | v13
    · exact .inl (by simp only; rw [v13]; rfl)
    · exact .inr v13
theorem chk_leave (s : TStore) (proc : Int) : chkS (leaveS s proc) = chkS s := by
  by_cases h : chkS s = 0
  · rw [h]
    exact V_iff.2 (V_leave (V_iff.1 h) proc)
  · rw [leaveS, if_pos h]
end Go.Proofs.Ytmnpiibjjamjiaa
