/- Chapter 09: expressions: the names that are mentioned, over any program that has the text. -/
import Derived.Test.YtnfjdpnkkmflbaaE3
import Derived.Test.YtnfjdpnkkmflbaaS2
namespace Go.Proofs.Ytnfjdpnkkmflbaa
open Go.AL
variable {P : Program} [h : Facts P]

def selfN (o : Int) (nm : List UInt8) : List (List UInt8) := if o = 3 ∨ objB o = true then [nm] else []
mutual
def nmE : TExpr → List (List UInt8)
  | ⟨o, nm, _, ks⟩ => selfN o nm ++ nmL ks
def nmL : List TExpr → List (List UInt8)
  | [] => []
  | x :: l => nmE x ++ nmL l
end
theorem nmE_eq (e : TExpr) : nmE e = selfN e.fOp e.fName ++ nmL e.fKids := by cases e; rw [nmE]
theorem nmL_nil : nmL [] = [] := by rw [nmL]
theorem nmL_cons (x : TExpr) (l : List TExpr) : nmL (x :: l) = nmE x ++ nmL l := by rw [nmL]
theorem nmL_app (a b : List TExpr) : nmL (a ++ b) = nmL a ++ nmL b := by
  induction a with
  | nil => rw [nmL_nil]; rfl
  | cons x a ih => rw [List.cons_append, nmL_cons, nmL_cons, ih, List.append_assoc]
theorem nmL_take {ks : List TExpr} {k : Nat} (hk : k < ks.length) : nmL (ks.take (k + 1)) = nmL (ks.take k) ++ nmE ks[k] := by
  rw [List.take_succ_eq_append_getElem hk, nmL_app, nmL_cons, nmL_nil, List.append_nil]
theorem self_len (o : Int) (nm : List UInt8) : (selfN o nm).length ≤ 1 := by unfold selfN; split <;> simp
theorem nm_cnt : ∀ e : TExpr, (nmE e).length ≤ cntE e := by
  refine TExpr.ind fun e ih => ?_
  rw [nmE_eq, cntE_eq, List.length_append]
  have h1 := self_len e.fOp e.fName
  have key : ∀ l : List TExpr, (∀ y ∈ l, (nmE y).length ≤ cntE y) → (nmL l).length ≤ cntL l := by
    intro l
    induction l with
    | nil => intro _; rw [nmL_nil, cntL_nil]; exact Nat.le_refl _
    | cons x l ihl =>
      intro hl
      rw [nmL_cons, cntL_cons, List.length_append]
      have h1 := hl x (List.mem_cons_self ..)
      have h2 := ihl fun y hy => hl y (List.mem_cons_of_mem _ hy)
      omega
  have := key e.fKids ih
  omega
theorem nmL_cnt (l : List TExpr) : (nmL l).length ≤ cntL l := by
  induction l with
  | nil => rw [nmL_nil, cntL_nil]; exact Nat.le_refl _
  | cons x l ih => rw [nmL_cons, cntL_cons, List.length_append]; have := nm_cnt x; omega
theorem cntL_take (l : List TExpr) (k : Nat) : cntL (l.take k) ≤ cntL l := by
  induction l generalizing k with
  | nil => simp
  | cons x l ih =>
    cases k with
    | zero => rw [List.take_zero, cntL_nil]; omega
    | succ k => rw [List.take_succ_cons, cntL_cons, cntL_cons]; have := ih k; omega
theorem cntL_take_get {l : List TExpr} {k : Nat} (hk : k < l.length) : cntL (l.take k) + cntE l[k] ≤ cntL l := by
  have h1 := cntL_take l (k + 1)
  rw [List.take_succ_eq_append_getElem hk] at h1
  have key : ∀ a b : List TExpr, cntL (a ++ b) = cntL a + cntL b := by
    intro a b
    induction a with
    | nil => rw [cntL_nil, List.nil_append]; omega
    | cons x a ih => rw [List.cons_append, cntL_cons, cntL_cons, ih]; omega
  rw [key, cntL_cons, cntL_nil] at h1
  omega

/-- What 'mentioned' leaves of the row that it was handed. -/
def menR (m : List (List UInt8)) (e : List (List UInt8)) (r : A) (r1 : Row) (L : List Row) : Prop :=
  (r = B 0 m ∧ r1 = RF 9 m 0 ∧ L = [] ∧ e = []) ∨ (r = B 1 (m ++ e) ∧ r1 = dead0 ∧ L = [RF 9 (m ++ e) 0])
def menX (m : List (List UInt8)) (e : List (List UInt8)) (r : A) (H' : List Row) : Prop :=
  ∃ r1 L, H' = r1 :: L ∧ (r1.live = true → (RF 9 m 0).live = true) ∧ noidL r1.es = true ∧ (∀ x ∈ L, noidL x.es = true) ∧ frsh r = true ∧ menR m e r r1 L
theorem noid_RF (m : List (List UInt8)) : noidL (RF 9 m 0).es = true := by
  unfold RF
  split
  · rfl
  · exact noidL_enc m
theorem menX_same (m : List (List UInt8)) : menX m [] (B 0 m) [RF 9 m 0] :=
  ⟨_, _, rfl, id, noid_RF m, by simp, rfl, .inl ⟨rfl, rfl, rfl, rfl⟩⟩
theorem menX_new (m e : List (List UInt8)) : menX m e (B 1 (m ++ e)) [dead0, RF 9 (m ++ e) 0] :=
  ⟨_, _, rfl, (fun q => absurd q (by decide)), rfl, by simp, rfl, Or.inr ⟨rfl, rfl, rfl⟩⟩
theorem grA_B0 (id n : Nat) (m : List (List UInt8)) : grA id n (B 0 m) = B id m := rfl
theorem grA_B1 (id n : Nat) (m : List (List UInt8)) : grA id n (B 1 m) = B n m := rfl
def menS (l : List TExpr) (m : List (List UInt8)) (k : Nat) : Bool → S
  | false => (⟨[B 0 m, .any, .any, .any, .any, .any, .any, .any, .any, .any, .any, .any, .any, .any, .any, .any, .any, .any, .any, .any, .any, Ls false l, .int .i64 l.length, .int .i64 k, .any, .any, .any, .any, .any, .any, .any, .any], [RF 9 m 0]⟩ : S)
  | true => (⟨[B 1 m, .any, .any, .any, .any, .any, .any, .any, .any, .any, .any, .any, .any, .any, .any, .any, .any, .any, .any, .any, .any, Ls false l, .int .i64 l.length, .int .i64 k, .any, .any, .any, .any, .any, .any, .any, .any], [dead0, RF 9 m 0]⟩ : S)
set_option maxHeartbeats 2000000 in
theorem c_mentioned : ∀ (e : TExpr), e.ok → ∀ (m : List (List UInt8)), m.length + cntE e ≤ 1000000 → XCall P 38 [B 0 m, .agg e.cells] [RF 9 m 0] (menX m (nmE e)) := by
  refine TExpr.ind fun e ih => ?_
  intro hok m hc
  rw [cntE_eq] at hc
  rw [nmE_eq]
  obtain ⟨_, _, _, _, hkl, hko⟩ := hok
  obtain ⟨op, nm, n, ks⟩ := e
  simp only at hkl hko ih hc ⊢
  refine xcall_of h.f38 rfl (by decide) h.mo (by kernel_rfl) fun X hX => ?_
  have hX1 : X.μ.length ≤ 1 := by simpa using hX
  have hnl := nmL_cnt ks
  have hse := self_len op nm
  by_cases q1 : op = 3
  case' pos =>
    have hs : selfN op nm = [nm] := by simp [selfN, q1]
    simp [eq_true q1]
    refine ⟨⟨by omega, by omega⟩, ?_⟩
    refine awp_loop (σ := Nat × Bool) (fun z => menS ks (m ++ (selfN op nm ++ nmL (ks.take z.1))) z.1 z.2) (fun z => z.1 ≤ ks.length ∧ (z.2 = false → selfN op nm ++ nmL (ks.take z.1) = [])) (fun z => ks.length - z.1) (0, true) (Wk.ren 1 [0, 3] hX1 rfl (by decide) (by simp [hs, nmL_nil]) (by simp) (by simp) (by simp [hs, nmL_nil])) ⟨by simp, by simp [hs, nmL_nil]⟩ ?_
  case' neg =>
    simp [q1]
    refine xcall_fn (c_object op) (by simp) ?_
    cases q2 : objB op
    case' false =>
      have hs : selfN op nm = [] := by simp [selfN, q1, q2]
      simp
      refine awp_loop (σ := Nat × Bool) (fun z => menS ks (m ++ (selfN op nm ++ nmL (ks.take z.1))) z.1 z.2) (fun z => z.1 ≤ ks.length ∧ (z.2 = false → selfN op nm ++ nmL (ks.take z.1) = [])) (fun z => ks.length - z.1) (0, false) (Wk.ren 1 [0] hX1 rfl (by decide) (by simp [hs, nmL_nil]) (by simp) (by simp) (by simp [hs, nmL_nil])) ⟨by simp, by simp [hs, nmL_nil]⟩ ?_
    case' true =>
      have hs : selfN op nm = [nm] := by simp [selfN, q2]
      simp
      refine ⟨⟨by omega, by omega⟩, ?_⟩
      refine awp_loop (σ := Nat × Bool) (fun z => menS ks (m ++ (selfN op nm ++ nmL (ks.take z.1))) z.1 z.2) (fun z => z.1 ≤ ks.length ∧ (z.2 = false → selfN op nm ++ nmL (ks.take z.1) = [])) (fun z => ks.length - z.1) (0, true) (Wk.ren 1 [0, 3] hX1 rfl (by decide) (by simp [hs, nmL_nil]) (by simp) (by simp) (by simp [hs, nmL_nil])) ⟨by simp, by simp [hs, nmL_nil]⟩ ?_
  all_goals
    clear hs
    rintro ⟨k, b⟩ ⟨hk, hb⟩
    simp only at hk hb
    refine vc_sound h.mo _ _ _ (by kernel_rfl) ?_
    rcases Nat.lt_or_ge k ks.length with hlt | hge
    · have hk1 := wrap_succ hlt hkl
      have hmem := List.getElem_mem hlt
      have hct := cntL_take_get hlt
      have hnt := nmL_cnt (ks.take k)
      have htk : m ++ (selfN op nm ++ nmL (ks.take (k + 1))) = m ++ (selfN op nm ++ nmL (ks.take k)) ++ nmE ks[k] := by rw [nmL_take hlt]; simp only [List.append_assoc]
      have hlen : (m ++ (selfN op nm ++ nmL (ks.take k))).length + cntE ks[k] ≤ 1000000 := by simp only [List.length_append]; omega
      have hxc := ih ks[k] hmem (hko _ hmem) _ hlen
      have hb' : b = false → nmE ks[k] = [] → selfN op nm ++ nmL (ks.take (k + 1)) = [] := fun e1 e2 => by rw [nmL_take hlt, e2, List.append_nil]; exact hb e1
      generalize m ++ (selfN op nm ++ nmL (ks.take k)) = acc at *
      cases b
      · simp [menS, hlt, -Prod.exists, -Bool.exists_bool]
        refine xcall_grow 0 hxc (by simp) (by simp) (by simp) (by simp) ?_
        rintro r r1 L (⟨rfl, rfl, rfl, he⟩ | ⟨rfl, rfl, rfl⟩)
        · rw [he, List.append_nil] at htk
          rw [grA_B0]
          simp [-Prod.exists, -Bool.exists_bool]
          exact ⟨(k + 1, false), Wk.ren 1 [0] hX1 rfl (by decide) (by simp [hk1, htk]) (by simp) (by simp) (by simp [htk]), ⟨by omega, fun _ => by have q := hb' rfl he; simpa using q⟩, by omega⟩
        · rw [grA_B1]
          simp [-Prod.exists, -Bool.exists_bool]
          exact ⟨(k + 1, true), Wk.ren 1 [0, 2] hX1 rfl (by decide) (by simp [hk1, htk]) (by simp) (by simp) (by simp [htk]), ⟨by omega, by simp⟩, by omega⟩
      · simp [menS, hlt, -Prod.exists, -Bool.exists_bool]
        refine xcall_grow 1 hxc (by simp) (by simp) (by simp) (by simp) ?_
        rintro r r1 L (⟨rfl, rfl, rfl, he⟩ | ⟨rfl, rfl, rfl⟩)
        · rw [he, List.append_nil] at htk
          rw [grA_B0]
          simp [-Prod.exists, -Bool.exists_bool]
          exact ⟨(k + 1, true), Wk.ren 1 [0, 1] hX1 rfl (by decide) (by simp [hk1, htk]) (by simp) (by simp) (by simp [htk]), ⟨by omega, by simp⟩, by omega⟩
        · rw [grA_B1]
          simp [-Prod.exists, -Bool.exists_bool]
          exact ⟨(k + 1, true), Wk.ren 1 [0, 3] hX1 rfl (by decide) (by simp [hk1, htk]) (by simp) (by simp) (by simp [htk]), ⟨by omega, by simp⟩, by omega⟩
    · have hkl : k = ks.length := by omega
      subst hkl
      rw [List.take_length] at hb ⊢
      cases b
      · rw [hb rfl, List.append_nil]
        simp [menS]
        exact menX_same m
      · simp [menS]
        exact menX_new m _
end Go.Proofs.Ytnfjdpnkkmflbaa
