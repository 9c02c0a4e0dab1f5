/- Chapter 35: networks, plain: each message arrives exactly once, on each link in the order of sending. No program in sight. -/
import Derived.Test.YtnnpahcanpakcaaP1
namespace Go.Proofs.Ytnnpahcanpakcaa
open Go.AL

theorem filter_len {α : Type} (p : α → Bool) : ∀ l : List α, (l.filter p).length + (l.filter fun x => !p x).length = l.length
  | [] => rfl
  | x :: l => by
    have := filter_len p l
    by_cases h : p x = true
    · simp [h]; omega
    · simp [h]; omega
theorem sorted_split (r : Int) : ∀ {l : List TMsg}, l.Pairwise (fun a b => a.fArrive ≤ b.fArrive) → l.filter (fun m => decide (m.fArrive ≤ r)) ++ l.filter (fun m => !decide (m.fArrive ≤ r)) = l
  | [], _ => rfl
  | x :: l, h => by
    obtain ⟨h1, h2⟩ := List.pairwise_cons.1 h
    by_cases hx : x.fArrive ≤ r
    · rw [List.filter_cons, if_pos (by simp [hx]), List.filter_cons, if_neg (by simp [hx]), List.cons_append, sorted_split r h2]
    · have e1 : (x :: l).filter (fun m => decide (m.fArrive ≤ r)) = [] := by
        refine List.filter_eq_nil_iff.2 fun y hy => ?_
        rcases List.mem_cons.1 hy with rfl | hy
        · simp [hx]
        · have := h1 y hy
          simp; omega
      have e2 : (x :: l).filter (fun m => !decide (m.fArrive ≤ r)) = x :: l := by
        refine List.filter_eq_self.2 fun y hy => ?_
        rcases List.mem_cons.1 hy with rfl | hy
        · simp [hx]
        · have := h1 y hy
          simp; omega
      rw [e1, e2, List.nil_append]
theorem part_eq {l : List TMsg} (h : Ord l) (r to : Int) (p : Int × Int) : (l.filter (hereB r to) ++ l.filter fun m => !hereB r to m).filter (fun m => decide (lk m = p)) = l.filter fun m => decide (lk m = p) := by
  rw [List.filter_append, List.filter_filter, List.filter_filter]
  by_cases hb : p.2 = to
  · have e1 : (l.filter fun a => decide (lk a = p) && hereB r to a) = (l.filter fun m => decide (lk m = p)).filter fun m => decide (m.fArrive ≤ r) := by
      rw [List.filter_filter]
      refine List.filter_congr fun x _ => ?_
      by_cases e : lk x = p
      · have : x.fTo = to := by rw [← hb, ← e]; rfl
        simp [e, hereB, this]
      · simp [e]
    have e2 : (l.filter fun a => decide (lk a = p) && !hereB r to a) = (l.filter fun m => decide (lk m = p)).filter fun m => !decide (m.fArrive ≤ r) := by
      rw [List.filter_filter]
      refine List.filter_congr fun x _ => ?_
      by_cases e : lk x = p
      · have : x.fTo = to := by rw [← hb, ← e]; rfl
        simp [e, hereB, this]
      · simp [e]
    rw [e1, e2]
    exact sorted_split r (h p)
  · have hne : ∀ x : TMsg, lk x = p → hereB r to x = false := fun x e => by
      have : ¬ x.fTo = to := fun g => hb (by rw [← e]; exact g)
      simp [hereB, this]
    have e1 : (l.filter fun a => decide (lk a = p) && hereB r to a) = [] := by
      refine List.filter_eq_nil_iff.2 fun x _ => ?_
      by_cases e : lk x = p
      · simp [hne x e]
      · simp [e]
    have e2 : (l.filter fun a => decide (lk a = p) && !hereB r to a) = l.filter fun m => decide (lk m = p) := by
      refine List.filter_congr fun x _ => ?_
      by_cases e : lk x = p
      · simp [hne x e]
      · simp [e]
    rw [e1, e2, List.nil_append]

/-- The numbers from g up to c, c not among them. -/
def Run : Int → Int → List Int → Prop
  | g, c, [] => g = c
  | g, c, x :: l => x = g ∧ Run (g + 1) c l
theorem Run.snoc : ∀ {l : List Int} {g c : Int}, Run g c l → Run g (c + 1) (l ++ [c])
  | [], g, c, h => by
    have : g = c := h
    subst this
    exact ⟨rfl, rfl⟩
  | x :: l, g, c, h => ⟨h.1, Run.snoc h.2⟩
theorem Run.le : ∀ {l : List Int} {g c : Int}, Run g c l → g ≤ c
  | [], g, c, h => Int.le_of_eq h
  | x :: l, g, c, h => by have := Run.le h.2; omega

/-- A message of the sites 0 to 3, at most 51 rounds on its way. -/
def MOK (r : Int) (m : TMsg) : Prop := (0 ≤ m.fFrom ∧ m.fFrom ≤ 3) ∧ (0 ≤ m.fTo ∧ m.fTo ≤ 3) ∧ (0 ≤ m.fEvent.fTime ∧ m.fEvent.fTime ≤ r) ∧ (m.fEvent.fTime + 1 ≤ m.fArrive ∧ m.fArrive ≤ m.fEvent.fTime + 51) ∧ m.fEvent.fArgs = []
/-- The numbers of the messages on a link. -/
def onL (a b : Nat) (l : List TMsg) : List Int := (l.filter fun m => decide (lk m = ((a : Int), (b : Int)))).map fun m => m.fEvent.fSeq
/-- What holds between two actions. -/
structure Inv (n : TNet) (i : Nat) (r s : Int) (got count : List Int) : Prop where
  ok : netE n = 0
  r0 : 0 ≤ r
  ri : r ≤ i
  used : n.fUsed ≤ i
  sent : s = n.fMsgs.length
  few : n.fMsgs.length ≤ i
  gl : got.length = 16
  cl : count.length = 16
  ms : ∀ m ∈ n.fMsgs, MOK r m
  run : ∀ a b : Nat, a ≤ 3 → b ≤ 3 → ∃ g c, got[4 * a + b]? = some g ∧ count[4 * a + b]? = some c ∧ 0 ≤ g ∧ c ≤ i ∧ Run g c (onL a b n.fMsgs)

theorem wi3 {n : Int} (h : 0 ≤ n ∧ n ≤ 3) : ∃ a : Nat, n = a ∧ a ≤ 3 := ⟨n.toNat, by omega, by omega⟩
theorem Inv.start {n : TNet} (h0 : netE n = 0) (h1 : n.fUsed = 0) (h2 : n.fMsgs = []) : Inv n 0 0 0 (zerosI 16) (zerosI 16) := by
  refine ⟨h0, by omega, by simp, by simp [h1], by simp [h2], by simp [h2], zerosI_len _, zerosI_len _, by simp [h2], fun a b ha hb => ⟨0, 0, zerosI_get (by omega), zerosI_get (by omega), by omega, by simp, ?_⟩⟩
  simp [onL, h2, Run]
theorem Inv.next {n : TNet} {i : Nat} {r s : Int} {got count : List Int} (h : Inv n i r s got count) : Inv n (i + 1) (r + 1) s got count where
  ok := h.ok
  r0 := by have := h.r0; omega
  ri := by have := h.ri; omega
  used := by have := h.used; omega
  sent := h.sent
  few := by have := h.few; omega
  gl := h.gl
  cl := h.cl
  ms := fun m hm => by
    obtain ⟨h1, h2, ⟨h3, h4⟩, h5⟩ := h.ms m hm
    exact ⟨h1, h2, ⟨h3, by omega⟩, h5⟩
  run := fun a b ha hb => by
    obtain ⟨g, c, h1, h2, h3, h4, h5⟩ := h.run a b ha hb
    exact ⟨g, c, h1, h2, h3, by omega, h5⟩
/-- Those that arrive first, the others behind them. -/
theorem Inv.part {n : TNet} {i : Nat} {r s : Int} {got count : List Int} (h : Inv n i r s got count) (t to : Int) : Inv ⟨n.fDelays, n.fUsed, n.fMsgs.filter (hereB t to) ++ n.fMsgs.filter fun m => !hereB t to m⟩ i r s got count := by
  obtain ⟨h1, h2, h3, h4⟩ := netE_iff.1 h.ok
  have hmem : ∀ m, m ∈ n.fMsgs.filter (hereB t to) ++ n.fMsgs.filter (fun m => !hereB t to m) → m ∈ n.fMsgs := fun m hm => by
    rcases List.mem_append.1 hm with hm | hm <;> exact (List.mem_filter.1 hm).1
  have hlen : (n.fMsgs.filter (hereB t to) ++ n.fMsgs.filter fun m => !hereB t to m).length = n.fMsgs.length := by rw [List.length_append, filter_len]
  exact {
    ok := netE_iff.2 ⟨h1, h2, fun m hm => h3 m (hmem m hm), fun p => by rw [part_eq h4]; exact h4 p⟩
    r0 := h.r0
    ri := h.ri
    used := h.used
    sent := by rw [h.sent]; simp only [hlen]
    few := by simp only [hlen]; exact h.few
    gl := h.gl
    cl := h.cl
    ms := fun m hm => h.ms m (hmem m hm)
    run := fun a b ha hb => by
      obtain ⟨g, c, k1, k2, k3, k4, k5⟩ := h.run a b ha hb
      refine ⟨g, c, k1, k2, k3, k4, ?_⟩
      unfold onL
      simp only [part_eq h4]
      exact k5 }
theorem Inv.take {d : List Int} {u : Int} {x : TMsg} {l : List TMsg} {i : Nat} {r s : Int} {got count : List Int} (h : Inv ⟨d, u, x :: l⟩ i r s got count) :
    ∃ a b : Nat, a ≤ 3 ∧ b ≤ 3 ∧ x.fFrom = a ∧ x.fTo = b ∧ got[4 * a + b]? = some x.fEvent.fSeq ∧ 0 ≤ x.fEvent.fSeq ∧ x.fEvent.fSeq + 1 ≤ i ∧ 1 ≤ s ∧ Inv ⟨d, u, l⟩ i r (s - 1) (got.set (4 * a + b) (x.fEvent.fSeq + 1)) count := by
  obtain ⟨h1, h2, h3, h4⟩ := netE_iff.1 h.ok
  obtain ⟨m1, m2, m3, m4, m5⟩ := h.ms x (by simp)
  obtain ⟨a, ha, ha3⟩ := wi3 m1
  obtain ⟨b, hb, hb3⟩ := wi3 m2
  have hs := h.sent
  have hf := h.few
  simp only [List.length_cons] at hs hf
  have hlk : lk x = ((a : Int), (b : Int)) := by rw [lk, ha, hb]
  obtain ⟨g, c, k1, k2, k3, k4, k5⟩ := h.run a b ha3 hb3
  have hon : onL a b (x :: l) = x.fEvent.fSeq :: onL a b l := by
    unfold onL
    rw [List.filter_cons, if_pos (by simp [hlk])]
    rfl
  rw [hon] at k5
  obtain ⟨k6, k7⟩ := k5
  have k8 := Run.le k7
  refine ⟨a, b, ha3, hb3, ha, hb, by rw [k6]; exact k1, by omega, by omega, by omega, ?_⟩
  exact {
    ok := netE_iff.2 ⟨h1, h2, fun m hm => h3 m (List.mem_cons_of_mem _ hm), (Ord_cons.1 h4).2⟩
    r0 := h.r0
    ri := h.ri
    used := h.used
    sent := by simp only; omega
    few := by simp only; omega
    gl := by rw [List.length_set]; exact h.gl
    cl := h.cl
    ms := fun m hm => h.ms m (List.mem_cons_of_mem _ hm)
    run := fun a' b' ha' hb' => by
      have hgl := h.gl
      by_cases e : a = a' ∧ b = b'
      · obtain ⟨rfl, rfl⟩ := e
        refine ⟨x.fEvent.fSeq + 1, c, ?_, k2, by omega, k4, by rw [k6]; exact k7⟩
        rw [List.getElem?_set, if_pos rfl, if_pos (by omega)]
      · obtain ⟨g', c', q1, q2, q3, q4, q5⟩ := h.run a' b' ha' hb'
        refine ⟨g', c', ?_, q2, q3, q4, ?_⟩
        · rw [List.getElem?_set, if_neg (by omega)]
          exact q1
        · have : onL a' b' (x :: l) = onL a' b' l := by
            unfold onL
            rw [List.filter_cons, if_neg]
            rw [hlk]
            simp only [Prod.mk.injEq, decide_eq_true_eq]
            omega
          rwa [this] at q5 }
theorem Inv.send {n : TNet} {i : Nat} {r s : Int} {got count : List Int} (h : Inv n i r s got count) (hi : i < 5000) {a b : Nat} (ha : a ≤ 3) (hb : b ≤ 3) (near : Bool) :
    ∃ c, count[4 * a + b]? = some c ∧ 0 ≤ c ∧ c ≤ i ∧ ∀ m : TMsg, m.fFrom = a → m.fTo = b → m.fEvent.fTime = r → m.fEvent.fSeq = c → m.fEvent.fArgs = [] → sendE n m r near = 0 ∧ (sendN n m r near).fMsgs.length = n.fMsgs.length + 1 ∧ Inv (sendN n m r near) (i + 1) r (s + 1) got (count.set (4 * a + b) (c + 1)) := by
  obtain ⟨g, c, k1, k2, k3, k4, k5⟩ := h.run a b ha hb
  have k6 := Run.le k5
  refine ⟨c, k2, by omega, k4, fun m m1 m2 m3 m4 m5 => ?_⟩
  obtain ⟨h1, h2, h3, h4⟩ := netE_iff.1 h.ok
  have g2 := wiB_iff.1 h2
  have gu := h.used
  have gr := h.ri
  have gr0 := h.r0
  have hz : sendE n m r near = 0 := by
    refine sendE_zero.2 ⟨h.ok, ?_, wiB_iff.2 ⟨h.r0, by omega⟩, fun _ => by omega⟩
    unfold endsB
    rw [Bool.and_eq_true]
    exact ⟨wiB_iff.2 (by omega), wiB_iff.2 (by omega)⟩
  have hN : sendN n m r near = sentT n m r near := by rw [sendN, if_pos hz]
  have hv := netE_sent hz
  have hlen : (sendN n m r near).fMsgs.length = n.fMsgs.length + 1 := by rw [hN]; simp [sentT]
  have hat := atR_le h.ok r near
  have ga := arrL_ge (lk m) n.fMsgs (atR n r near)
  have gl := arrL_le (lk m) n.fMsgs (atR n r near) (v := r + 51) hat.2 fun x hx => by
    obtain ⟨_, _, q3, q4, _⟩ := h.ms x hx
    omega
  have hsent := h.sent
  have hfew := h.few
  refine ⟨hz, hlen, ?_⟩
  exact {
    ok := hv
    r0 := h.r0
    ri := by omega
    used := by
      rw [hN]
      unfold sentT
      simp only
      split <;> omega
    sent := by rw [hlen]; omega
    few := by rw [hlen]; omega
    gl := h.gl
    cl := by rw [List.length_set]; exact h.cl
    ms := fun x hx => by
      rw [hN] at hx
      rcases List.mem_append.1 hx with hx | hx
      · exact h.ms x hx
      · rw [List.mem_singleton] at hx
        subst hx
        refine ⟨by show 0 ≤ m.fFrom ∧ m.fFrom ≤ 3; omega, by show 0 ≤ m.fTo ∧ m.fTo ≤ 3; omega, by show 0 ≤ m.fEvent.fTime ∧ m.fEvent.fTime ≤ r; omega, ?_, m5⟩
        show m.fEvent.fTime + 1 ≤ arrL _ _ _ ∧ arrL _ _ _ ≤ m.fEvent.fTime + 51
        omega
    run := fun a' b' ha' hb' => by
      have hcl := h.cl
      have hms : (sendN n m r near).fMsgs = n.fMsgs ++ [arrM m (arrL (lk m) (atR n r near) n.fMsgs)] := by rw [hN]; rfl
      rw [hms]
      by_cases e : a = a' ∧ b = b'
      · obtain ⟨rfl, rfl⟩ := e
        refine ⟨g, c + 1, k1, by rw [List.getElem?_set, if_pos rfl, if_pos (by omega)], k3, by omega, ?_⟩
        have : onL a b (n.fMsgs ++ [arrM m (arrL (lk m) (atR n r near) n.fMsgs)]) = onL a b n.fMsgs ++ [c] := by
          unfold onL
          rw [List.filter_append, List.map_append, List.filter_cons, if_pos (by simp [lk, arrM, m1, m2])]
          simp [arrM, m4]
        rw [this]
        exact k5.snoc
      · obtain ⟨g', c', q1, q2, q3, q4, q5⟩ := h.run a' b' ha' hb'
        refine ⟨g', c', q1, by rw [List.getElem?_set, if_neg (by omega)]; exact q2, q3, by omega, ?_⟩
        have : onL a' b' (n.fMsgs ++ [arrM m (arrL (lk m) (atR n r near) n.fMsgs)]) = onL a' b' n.fMsgs := by
          unfold onL
          rw [List.filter_append, List.map_append, List.filter_cons, if_neg]
          · simp
          · simp only [lk, arrM, m1, m2, Prod.mk.injEq, decide_eq_true_eq]
            omega
        rw [this]
        exact q5 }

/-- Behind the actions: what is on its way was sent ahead of them, and where a round came late enough nothing is left. -/
def Late (N i : Nat) (r : Int) (l : List TMsg) : Prop := N ≤ i → ∀ m ∈ l, m.fEvent.fTime ≤ r - ((i : Int) - N) ∧ ∀ j, N + 50 ≤ j → j < i → m.fTo ≠ ((j % 4 : Nat) : Int)
theorem Late.ahead {N i : Nat} {r : Int} {l : List TMsg} (h : i < N ∨ i = N) (hm : ∀ m ∈ l, MOK r m) : Late N i r l := by
  intro hN m hml
  obtain ⟨_, _, h3, _⟩ := hm m hml
  exact ⟨by omega, fun j h1 h2 => by omega⟩
theorem Late.next {N i : Nat} {r : Int} {l : List TMsg} (hN : N ≤ i) (h : Late N i r l) (hm : ∀ m ∈ l, MOK r m) : Late N (i + 1) (r + 1) (l.filter fun m => !hereB (r + 1) ((i % 4 : Nat) : Int) m) := by
  intro _ m hml
  obtain ⟨h1, h2⟩ := List.mem_filter.1 hml
  obtain ⟨k1, k2⟩ := h hN m h1
  obtain ⟨_, _, h3, h4, _⟩ := hm m h1
  refine ⟨by omega, fun j g1 g2 => ?_⟩
  rcases Nat.lt_or_ge j i with hlt | hge
  · exact k2 j g1 hlt
  · have : j = i := by omega
    subst this
    intro e
    have : ¬ (m.fTo = ((j % 4 : Nat) : Int) ∧ m.fArrive ≤ r + 1) := fun g => by
      have : hereB (r + 1) ((j % 4 : Nat) : Int) m = true := by unfold hereB; rw [decide_eq_true g.1, decide_eq_true g.2]; rfl
      rw [this] at h2; cases h2
    exact this ⟨e, by omega⟩
theorem Late.empty {N : Nat} {r : Int} {l : List TMsg} (h : Late N (N + 240) r l) (hm : ∀ m ∈ l, MOK r m) : l = [] := by
  cases l with
  | nil => rfl
  | cons m l =>
    obtain ⟨_, h2⟩ := h (by omega) m (by simp)
    obtain ⟨_, k2, _⟩ := hm m (by simp)
    exfalso
    have g0 := h2 (N + 236) (by omega) (by omega)
    have g1 := h2 (N + 237) (by omega) (by omega)
    have g2 := h2 (N + 238) (by omega) (by omega)
    have g3 := h2 (N + 239) (by omega) (by omega)
    omega
/-- When nothing is on its way, all that was sent has come. -/
theorem Inv.done {n : TNet} {i : Nat} {r s : Int} {got count : List Int} (h : Inv n i r s got count) (he : n.fMsgs = []) : got = count ∧ s = 0 := by
  have hg := h.gl
  have hc := h.cl
  refine ⟨List.ext_getElem? fun k => ?_, by rw [h.sent, he]; rfl⟩
  rcases Nat.lt_or_ge k 16 with hlt | hge
  · obtain ⟨g, c, h1, h2, _, _, h5⟩ := h.run (k / 4) (k % 4) (by omega) (by omega)
    have e : 4 * (k / 4) + k % 4 = k := by omega
    rw [e] at h1 h2
    rw [h1, h2]
    have : g = c := by simpa [he, onL, Run] using h5
    rw [this]
  · rw [List.getElem?_eq_none (by omega), List.getElem?_eq_none (by omega)]
end Go.Proofs.Ytnnpahcanpakcaa
