/- Chapter 21: stores, plain: what the calls keep: the order, the sums. No program in sight. -/
import Derived.Test.YtmnpiibjjamjiaaW11
namespace Go.Proofs.Ytmnpiibjjamjiaa
open Go.AL

def pit (s : TStore) : List Int := s.fPutters.map (·.fItem)
theorem V_fit {s : TStore} (hv : V s) : s.fItems.length ≤ 1000 ∧ s.fPutters.length ≤ 300 ∧ s.fGetters.length ≤ 300 := by
  have := hv.few
  have := hv.room
  have := hv.wl
  omega
theorem V_fitS {s : TStore} (hv : V s) : fitS s := by
  obtain ⟨a, b, c⟩ := V_fit hv
  exact ⟨by omega, by omega, by omega⟩
theorem V_new {room p : Int} (h : newE room p = 0) : V (newS room p) := by
  obtain ⟨h1, h2⟩ := newE_zero.1 h
  unfold newS
  rw [if_pos h]
  exact ⟨h1, h2, by simp; omega, by simp, by simp, by simp, by simp, by simp, by simp [waitL, prc], by simp [waitL, prc], by simp, .inl rfl, .inl rfl⟩

/-- Get with an item: what was there is the item and what is there. -/
theorem get_got {s : TStore} {proc : Int} (h : entE s proc 0 = 0) (hg : getB s proc = true) : ∃ n, ∃ hn : n < s.fItems.length, n = firstN s ∧ getI s proc = s.fItems[n] ∧ (getS s proc).fItems ++ pit (getS s proc) = s.fItems.eraseIdx n ++ pit s ∧ (getS s proc).fPolicy = s.fPolicy ∧ (getS s proc).fItems.length + (getS s proc).fPutters.length + 1 = s.fItems.length + s.fPutters.length := by
  have hv := (ent_zero h).1
  have eB : getB s proc = (firstP s).2 := by rw [getB]; simp [h]
  have hf : (firstP s).2 = true := by rw [← eB]; exact hg
  have hn := first_at hv hf
  have hlen : (s.fItems.eraseIdx (firstN s)).length = s.fItems.length - 1 := List.length_eraseIdx_of_lt hn
  refine ⟨_, hn, rfl, ?_, ?_⟩
  · rw [getI, if_pos hg]; simp [List.getD, hn]
  have eS : getS s proc = match s.fPutters with
    | [] => ⟨s.fRoom, s.fPolicy, s.fItems.eraseIdx (firstN s), [], s.fGetters, s.fIn, s.fOut + 1⟩
    | p :: ps => ⟨s.fRoom, s.fPolicy, s.fItems.eraseIdx (firstN s) ++ [p.fItem], ps, s.fGetters, s.fIn + 1, s.fOut + 1⟩ := by
    rw [getS, if_neg (by simp [h]), if_neg (by simp [hf])]; rfl
  rw [eS]
  cases hp : s.fPutters with
  | nil => simp [pit, hp]; omega
  | cons p ps => simp [pit, hp]; omega
theorem get_none {s : TStore} {proc : Int} (h : entE s proc 0 = 0) (hg : getB s proc = false) : (getS s proc).fItems = s.fItems ∧ (getS s proc).fPutters = s.fPutters ∧ (getS s proc).fPolicy = s.fPolicy := by
  have eB : getB s proc = (firstP s).2 := by rw [getB]; simp [h]
  have hf : (firstP s).2 = false := by rw [← eB]; exact hg
  have eS : getS s proc = ⟨s.fRoom, s.fPolicy, s.fItems, s.fPutters, s.fGetters ++ [proc], s.fIn, s.fOut⟩ := by
    rw [getS, if_neg (by simp [h]), if_pos hf]
  rw [eS]
  exact ⟨rfl, rfl, rfl⟩
theorem get_fifo {s : TStore} {proc : Int} (h : entE s proc 0 = 0) (hp : s.fPolicy = 1) (hg : getB s proc = true) : getI s proc :: ((getS s proc).fItems ++ pit (getS s proc)) = s.fItems ++ pit s := by
  obtain ⟨n, hn, rfl, h1, h2, _⟩ := get_got h hg
  have h0 : firstN s = 0 := by
    unfold firstN firstP
    split
    · rfl
    · simp [hp]
  have h3 : s.fItems ≠ [] := by rintro e; rw [e] at hn; simp at hn
  obtain ⟨a, l, hl⟩ := List.exists_cons_of_ne_nil h3
  rw [h2, h1]
  simp [h0, hl]
/-- Put without a waiting getter: it is behind the others. -/
theorem put_in {s : TStore} {proc item : Int} (h : entE s proc item = 0) (hg : s.fGetters = []) : (putS s proc item).fItems ++ pit (putS s proc item) = s.fItems ++ pit s ++ [item] ∧ putN s proc item = [] ∧ (putS s proc item).fPolicy = s.fPolicy ∧ (putS s proc item).fItems.length + (putS s proc item).fPutters.length = s.fItems.length + s.fPutters.length + 1 := by
  have hv := (ent_zero h).1
  have hfp := hv.fp
  have eS : putS s proc item = if (s.fItems.length : Int) < s.fRoom then ⟨s.fRoom, s.fPolicy, s.fItems ++ [item], s.fPutters, [], s.fIn + 1, s.fOut⟩ else ⟨s.fRoom, s.fPolicy, s.fItems, s.fPutters ++ [⟨proc, item⟩], [], s.fIn, s.fOut⟩ := by
    rw [putS, if_neg (by simp [h]), hg]
  have eN : putN s proc item = [] := by rw [putN, if_neg (by simp [h]), hg]
  rw [eS, eN]
  split
  · rename_i hr
    have hp : s.fPutters = [] := hfp.resolve_right (by omega)
    simp [pit, hp]
  · simp [pit]
    omega
theorem put_out {s : TStore} {proc item : Int} (h : entE s proc item = 0) (hg : s.fGetters ≠ []) : (putS s proc item).fItems = [] ∧ (putS s proc item).fPutters = [] ∧ s.fItems = [] ∧ s.fPutters = [] ∧ (∃ g, putN s proc item = [⟨g, item⟩]) ∧ (putS s proc item).fPolicy = s.fPolicy := by
  have hv := (ent_zero h).1
  have hi : s.fItems = [] := hv.fg.resolve_left hg
  have hp : s.fPutters = [] := by
    refine hv.fp.resolve_right ?_
    have := hv.room
    rw [hi]
    simp
    omega
  obtain ⟨g, gs, hgs⟩ := List.exists_cons_of_ne_nil hg
  have eS : putS s proc item = ⟨s.fRoom, s.fPolicy, s.fItems, s.fPutters, gs, s.fIn + 1, s.fOut + 1⟩ := by
    rw [putS, if_neg (by simp [h]), hgs]
  have eN : putN s proc item = [⟨g, item⟩] := by rw [putN, if_neg (by simp [h]), hgs]
  rw [eS, eN]
  exact ⟨hi, hp, hi, hp, ⟨g, rfl⟩, rfl⟩

/-- The sum of what is there. -/
def tot (s : TStore) : Int := (s.fItems ++ pit s).sum
theorem sum_eraseIdx : ∀ (l : List Int) (n : Nat) (hn : n < l.length), (l.eraseIdx n).sum = l.sum - l[n]
  | a :: l, 0, _ => by simp; omega
  | a :: l, n + 1, hn => by
    have := sum_eraseIdx l n (by simpa using hn)
    simp
    omega
theorem sum_bound : ∀ (l : List Int), (∀ x ∈ l, inB x = true) → -1000000000000 * (l.length : Int) ≤ l.sum ∧ l.sum ≤ 1000000000000 * (l.length : Int)
  | [], _ => by simp
  | a :: l, h => by
    have h1 := sum_bound l fun x hx => h x (List.mem_cons_of_mem _ hx)
    have h2 := h a (List.mem_cons_self ..)
    unfold inB at h2
    simp only [Bool.and_eq_true, decide_eq_true_eq] at h2
    rw [List.sum_cons, List.length_cons]
    omega
theorem V_mem {s : TStore} (hv : V s) : ∀ x ∈ s.fItems ++ pit s, inB x = true := by
  intro x hx
  rcases List.mem_append.1 hx with hx | hx
  · exact hv.it x hx
  · obtain ⟨r, hr, rfl⟩ := List.mem_map.1 hx
    exact hv.pt r hr
theorem V_tot {s : TStore} (hv : V s) : -1300000000000000 ≤ tot s ∧ tot s ≤ 1300000000000000 := by
  obtain ⟨a, b, c⟩ := V_fit hv
  have := sum_bound _ (V_mem hv)
  have hl : (s.fItems ++ pit s).length = s.fItems.length + s.fPutters.length := by simp [pit]
  rw [hl] at this
  unfold tot
  omega
def mine (s : TStore) (proc : Int) : List TReady := s.fPutters.filter fun r => decide (r.fProc = proc)
theorem part_sum (proc : Int) : ∀ l : List TReady, ((l.filter fun r => !decide (r.fProc = proc)).map (·.fItem)).sum + ((l.filter fun r => decide (r.fProc = proc)).map (·.fItem)).sum = (l.map (·.fItem)).sum ∧ (l.filter fun r => !decide (r.fProc = proc)).length + (l.filter fun r => decide (r.fProc = proc)).length = l.length
  | [] => by simp
  | r :: l => by
    obtain ⟨h1, h2⟩ := part_sum proc l
    by_cases hr : r.fProc = proc
    · simp [hr]; omega
    · simp [hr]; omega
theorem leave_tot {s : TStore} (hv : V s) (proc : Int) : tot (leaveS s proc) = tot s - ((mine s proc).map (·.fItem)).sum ∧ (leaveS s proc).fItems.length + (leaveS s proc).fPutters.length + (mine s proc).length = s.fItems.length + s.fPutters.length ∧ (leaveS s proc).fPolicy = s.fPolicy := by
  have h := part_sum proc s.fPutters
  unfold leaveS
  rw [if_neg (by simp [V_iff.2 hv])]
  simp only [tot, pit, mine, List.sum_append]
  refine ⟨by omega, by omega, ?_⟩
  trivial
end Go.Proofs.Ytmnpiibjjamjiaa
