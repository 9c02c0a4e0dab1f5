/- Chapter 41: the projections on all sites merge to the log, plain. -/
import Derived.Test.YtacfckmhnnhllaaL6
namespace Go.Proofs.Ytacfckmhnnhllaa
open Go.AL

theorem plB_tri {p q : Pl} (h1 : plB p q = false) (h2 : plB q p = false) : p = q := by
  obtain ⟨a, b⟩ := p
  obtain ⟨c, d⟩ := q
  simp only [plB, Bool.or_eq_false_iff, Bool.and_eq_false_iff, decide_eq_false_iff_not] at h1 h2
  have e1 : a = c := by omega
  subst e1
  have e2 : b = d := by omega
  subst e2
  rfl
theorem eqk_pl {α : Type} {f : α → Pl} {z u : α} (h : eqk (ltOf f) z u = true) : f z = f u := by
  simp only [eqk, Bool.and_eq_true, Bool.not_eq_true'] at h
  exact plB_tri h.1 h.2
theorem all_sites {α : Type} {f : α → Pl} (l : List α) (z : α) : ∀ (ss : List Int), ss.Nodup → (ss.flatMap fun s => l.filter fun u => decide ((f u).2 = s)).filter (eqk (ltOf f) z) = if (f z).2 ∈ ss then l.filter (eqk (ltOf f) z) else []
  | [], _ => by simp
  | s :: ss, hn => by
    obtain ⟨n1, n2⟩ := List.nodup_cons.1 hn
    rw [List.flatMap_cons, List.filter_append, all_sites l z ss n2, List.filter_filter]
    by_cases q : (f z).2 = s
    · subst q
      rw [if_neg n1, if_pos (List.mem_cons_self ..), List.append_nil]
      refine List.filter_congr fun u _ => ?_
      cases c : eqk (ltOf f) z u
      · rfl
      · rw [eqk_pl c]; simp
    · have h0 : (l.filter fun u => eqk (ltOf f) z u && decide ((f u).2 = s)) = [] := List.filter_eq_nil_iff.2 fun u _ c => by
        simp only [Bool.and_eq_true, decide_eq_true_eq] at c
        rw [← eqk_pl c.1] at c
        exact q c.2
      rw [h0, List.nil_append]
      by_cases m : (f z).2 ∈ ss
      · rw [if_pos m, if_pos (List.mem_cons_of_mem _ m)]
      · rw [if_neg m, if_neg (by simp [q, m])]
theorem sites_SS {α : Type} {f : α → Pl} {l : List α} (hl : srt (ltOf f) l) {ss : List Int} (hn : ss.Nodup) (hs : ∀ u ∈ l, (f u).2 ∈ ss) : isrt (ltOf f) (ss.flatMap fun s => l.filter fun u => decide ((f u).2 = s)) = l := by
  refine isrt_of (ord_of f) ⟨hl, fun z => ?_⟩
  rw [all_sites l z ss hn]
  split
  · rfl
  · rename_i q
    refine List.filter_eq_nil_iff.2 fun u hu c => q ?_
    rw [eqk_pl c]
    exact hs u hu
def stsL (f : Nat) : List Int := (List.range 16).map fun i => (((i + f) % 16 : Nat) : Int)
def partsL (l : TLog) (f k : Nat) : List TLog := (List.range k).map fun i => prjL l (((i + f) % 16 : Nat) : Int)
theorem sts_nodup (f : Nat) : (stsL f).Nodup := by
  unfold stsL
  rw [List.nodup_iff_pairwise_ne, List.pairwise_map]
  refine List.Pairwise.imp_of_mem ?_ (List.nodup_iff_pairwise_ne.1 (List.nodup_range (n := 16)))
  intro a b ha hb hab c
  have := List.mem_range.1 ha
  have := List.mem_range.1 hb
  omega
theorem sts_all (f : Nat) (s : Int) (h0 : 0 ≤ s) (h1 : s ≤ 15) : s ∈ stsL f := by
  refine List.mem_map.2 ⟨(s.toNat + 16 - f % 16) % 16, List.mem_range.2 (by omega), ?_⟩
  omega
theorem evA_parts (l : TLog) (f : Nat) : evA (partsL l f 16) = (stsL f).flatMap fun s => l.fEvents.filter fun u => decide ((ofE u).2 = s) := by
  simp only [evA, partsL, stsL, List.flatMap_map]
  rfl
theorem rcA_parts (l : TLog) (f : Nat) : rcA (partsL l f 16) = (stsL f).flatMap fun s => l.fRecs.filter fun u => decide ((atR u).2 = s) := by
  simp only [rcA, partsL, stsL, List.flatMap_map]
  rfl
theorem site_in {e : TEvent} (h : evtZ e = 0) : 0 ≤ e.fSite ∧ e.fSite ≤ 15 := by
  unfold evtZ at h
  by_cases q : rngB e = false
  · rw [if_pos q] at h; omega
  have q' : rngB e = true := by simpa using q
  simp only [rngB, wthB, Bool.and_eq_true, decide_eq_true_eq] at q'
  omega
theorem chkA_of : ∀ {ls : List TLog}, (∀ l ∈ ls, chkZ l = 0) → chkA ls = 0
  | [], _ => rfl
  | x :: ls, h => by
    rw [chkA, if_neg (fun q => q (h x (List.mem_cons_self ..)))]
    exact chkA_of fun l hl => h l (List.mem_cons_of_mem _ hl)
theorem parts_ev {l : TLog} (h : Good l) (f : Nat) : isrt (ltOf ofE) (evA (partsL l f 16)) = l.fEvents := by
  rw [evA_parts]
  exact sites_SS h.es (sts_nodup f) fun u hu => sts_all f _ (site_in (h.ev u hu)).1 (site_in (h.ev u hu)).2
theorem parts_rc {l : TLog} (h : Good l) (f : Nat) : isrt (ltOf atR) (rcA (partsL l f 16)) = l.fRecs := by
  rw [rcA_parts]
  refine sites_SS h.rs (sts_nodup f) fun u hu => ?_
  obtain ⟨e, he, q⟩ := List.mem_map.1 (h.rh u hu)
  rw [← q]
  exact sts_all f _ (site_in (h.ev e he)).1 (site_in (h.ev e he)).2
theorem parts_len {l : TLog} (h : Good l) (f : Nat) : (evA (partsL l f 16)).length = l.fEvents.length ∧ (rcA (partsL l f 16)).length = l.fRecs.length := by
  have h1 := congrArg List.length (parts_ev h f)
  have h2 := congrArg List.length (parts_rc h f)
  rw [isrt_len] at h1 h2
  exact ⟨h1, h2⟩
theorem parts_clash (l : TLog) (f : Nat) : ¬ clash (partsL l f 16) := by
  rintro ⟨i, k, hi, hk, hki, s, ⟨e, he, hs⟩, e', he', hs'⟩
  have hi' : i < 16 := by simpa [partsL] using hi
  have hk' : k < 16 := by simpa [partsL] using hk
  simp [partsL, prjL, prjE] at he he'
  have q1 := he.2
  have q2 := he'.2
  omega
theorem parts_merge {l : TLog} (h : Good l) (f : Nat) : mergeZ (partsL l f 16) = (l, 0) := by
  have hz : chkA (partsL l f 16) = 0 := chkA_of fun x hx => by
    obtain ⟨i, _, rfl⟩ := List.mem_map.1 hx
    exact chk_prj _ (chk_good.2 h)
  have hg : longB ⟨evA (partsL l f 16), rcA (partsL l f 16)⟩ = false := by
    have := h.le
    have := h.lr
    obtain ⟨n1, n2⟩ := parts_len h f
    simp only [longB, Bool.or_eq_false_iff, decide_eq_false_iff_not]
    omega
  unfold mergeZ
  rw [if_neg (fun q => q hz), if_neg (by rw [twB_false (parts_clash l f)]; decide), if_neg (by simp [hg]), parts_ev h, parts_rc h]
end Go.Proofs.Ytacfckmhnnhllaa
