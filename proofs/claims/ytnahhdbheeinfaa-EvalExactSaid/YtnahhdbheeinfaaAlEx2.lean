/- An abstract layer over the walk, 24: append of make; fresh slices handed back. No program in sight. -/
import Derived.Test.YtnahhdbheeinfaaAlExt
namespace Go.AL

@[simp] theorem leL_replicate {ids : List Nat} {a : A} (h : leA ids a a) : ∀ n : Nat, leL ids (List.replicate n a) (List.replicate n a) = True
  | 0 => eq_true (by simp [leL])
  | n + 1 => eq_true (by rw [List.replicate_succ, leL]; exact ⟨h, by rw [leL_replicate h n]; trivial⟩)
@[simp] theorem hasRL_replicate {m : Nat} {a : A} (h : hasR m a) : ∀ n : Nat, hasRL m (List.replicate n a) = True
  | 0 => eq_true (by simp [hasRL])
  | n + 1 => eq_true (by rw [List.replicate_succ, hasRL]; exact ⟨h, by rw [hasRL_replicate h n]; trivial⟩)
@[simp] theorem noany_replicate {a : A} (h : isAny a = false) : ∀ n : Nat, noany (List.replicate n a) = true
  | 0 => rfl
  | n + 1 => by rw [List.replicate_succ, noany, h, noany_replicate h n]; rfl
theorem sl_nil_val {P : Program} {w : World} {F : Fz} {μ : Mu} {v : Value} (h : Rep P w F μ (.sl true []) v) : ∃ ad, v = .slice ad 0 0 := by
  cases h with
  | slnil _ _ ad => exact ⟨ad, rfl⟩
  | sl _ _ _ b off m cap sz V hm hcap hmax hfull hsz hrep hcell =>
    have := hfull rfl
    simp only [List.length_nil] at hm
    subst hm
    subst this
    exact ⟨_, rfl⟩
theorem alist_cap0 {P : Program} {X : Ctx} {ops : Array Oper} {Q : AX → S → Prop} {rest : List Oper} {s : S} {dst : Option Tmp} {type : TypeId} {pos : String} {aft : Array Edge} {x : Operand} {t e : TypeId} (ht : P.underlying t = some (.slice e)) (hx : ev s.t x = .sl true [])
    (hK : alist P X ops Q rest ⟨put s.t dst (.int .i64 0), s.h⟩) : alist P X ops Q (⟨dst, .call ⟨.builtin .cap, #[x], #[t]⟩, type, pos, aft, none⟩ :: rest) s := by
  refine alist_op _ rfl (fun a w μ hS => ?_) hK
  have e1 := hS.eval x
  rw [hx] at e1
  obtain ⟨ad, e3⟩ := sl_nil_val e1
  refine ⟨.int .i64 0, ?_, .int _ _ _⟩
  simp [execOp, resolve, invoke, builtin, e3, Builtin.cap_, run_underlying ht, goInt]
theorem alist_appendZeros {P : Program} {X : Ctx} {ops : Array Oper} {Q : AX → S → Prop} {rest : List Oper} {s : S} {dst : Option Tmp} {type : TypeId} {pos : String} {aft : Array Edge} {x y : Operand} {t tn e : TypeId} {kq kn : IntKind} {z : A} {bytes : Nat} (n : Nat)
    (ht : P.underlying t = some (.slice e)) (htn : P.underlying tn = some (.int kn)) (hz : zbox P e = some (z, bytes)) (hsh : shp P e z = true) (hnz : P.cellsOf e ≠ 0) (hx : ev s.t x = .sl true []) (hy : ev s.t y = .int kq n) (h0 : 0 < n) (h63 : n ≤ 9223372036854775807) (h48 : n * bytes ≤ 140737488355328)
    (hK : alist P X ops Q rest ⟨put s.t dst (.own s.h.length 0 n n false), s.h ++ [⟨e, P.cellsOf e, List.replicate n z, 0, true⟩]⟩) : alist P X ops Q (⟨dst, .call ⟨.builtin .append, #[x, y], #[t, tn]⟩, type, pos, aft, none⟩ :: rest) s := by
  refine alist_opw _ _ rfl (fun a w μ hS => ?_) hK
  have e1 := hS.eval x
  rw [hx] at e1
  have e2 : a.eval y = .int kq n := Rep.int_inv (by rw [← hy]; exact hS.eval y)
  obtain ⟨ad, e3⟩ := sl_nil_val e1
  obtain ⟨v, w', h1, h2⟩ := s_appendZeros (ty := type) (kq := kq) hS.hs ht htn hz hsh hnz ad n h0 h63 h48
  refine ⟨v, w', ?_, h2⟩
  simp only [execOp, resolve, invoke, builtin, Sem.run_bind, Sem.run_pure, Result.andThen_ok, List.map_toArray, List.map_cons, List.map_nil, e2, e3, h1]
/-- One live row, seen alone. -/
theorem HS.one {P : Program} {w : World} {F0 : Fz} {μ : Mu} {H : List Row} (hs : HS P w F0 μ H) {id b0 bs0 : Nat} {r0 : Row} (hr : H[id]? = some r0) (hl : r0.live = true) (hμ : μ[id]? = some (b0, bs0)) (hes : noidL r0.es = true) :
    HS P w (fun b o => Ft F0 μ H b o ∧ b ≠ b0) [(b0, bs0)] [r0] ∧ ∀ b o, Ft (fun b o => Ft F0 μ H b o ∧ b ≠ b0) [(b0, bs0)] [r0] b o → Ft F0 μ H b o := by
  have fsub : ∀ b o, Ft (fun b o => Ft F0 μ H b o ∧ b ≠ b0) [(b0, bs0)] [r0] b o → Ft F0 μ H b o := by
    rintro b o (hf | ⟨i, r, bs, h1, h2, h3, h4⟩)
    · exact hf.1
    · cases i with
      | zero =>
        simp at h1 h3
        obtain ⟨rfl, rfl⟩ := h3
        subst h1
        exact .inr ⟨id, r0, bs0, hr, h2, hμ, h4⟩
      | succ i => simp at h1
  refine ⟨⟨rfl, fun b o hf => hs.lt hf.1, ?_, ?_, ?_⟩, fsub⟩
  · intro i r b bs h1 h2 h3
    cases i with
    | succ i => simp at h1
    | zero =>
      simp at h1 h3
      obtain ⟨rfl, rfl⟩ := h3
      subst h1
      have hA : Adv w (Ft F0 μ H) w (Ft (fun b o => Ft F0 μ H b o ∧ b ≠ b0) [(b0, bs0)] [r0]) := ⟨rfl, rfl, rfl, Nat.le_refl _, fun _ _ _ h _ => h, fun b o _ h => fsub b o h, fun _ _ _ h => h, fun _ _ _ => rfl⟩
      rcases hs.row id r0 b0 bs0 hr h2 hμ with ⟨cur, c1, c2, c3, c4, c5⟩ | hm
      · refine .inl ⟨cur, c1, c2, c3, c4, fun k e he => ?_⟩
        obtain ⟨g1, V, g2, g3⟩ := c5 k e he
        exact ⟨g1, V, (g2.noid (noidL_get hes k e he)).adv hA (List.nil_prefix), g3⟩
      · exact .inr (hm.adv hA rfl)
  · intro i j r r' b bs bs' h1 _ h3 _ _ _
    cases i with
    | succ i => simp at h1
    | zero => cases j with
      | succ j => simp at h3
      | zero => rfl
  · intro i r b bs o h1 h2 h3 hf
    cases i with
    | succ i => simp at h1
    | zero =>
      simp at h1 h3
      exact hf.2 h3.1.symm

/-- A live slice that is handed over is not written any more. -/
theorem xcall_fzown {P : Program} {f : FuncId} {H : List Row} {K : A → List Row → Prop} (id off len cb : Nat) (ex : Bool) {r0 : Row} (hr : H[id]? = some r0) (hl : r0.live = true) (hes : noidL r0.es = true) (hle : off + len ≤ r0.es.length)
    (h : XCall P f [.sl false ((r0.es.drop off).take len)] (H.set id dead0) K) : XCall P f [.own id off len cb ex] H K := by
  refine ⟨h.1, fun w F0 μ vs hs hL => ?_⟩
  have hid : id < H.length := (List.getElem?_eq_some_iff.1 hr).1
  have hidμ : id < μ.length := by rw [hs.len]; exact hid
  obtain ⟨⟨b0, bs0⟩, hμ⟩ : ∃ p, μ[id]? = some p := ⟨_, List.getElem?_eq_getElem hidμ⟩
  obtain ⟨hs1, fsub⟩ := hs.one hr hl hμ hes
  obtain ⟨hk, hA⟩ := hs.kill (id := id) (d := dead0) rfl
  have hrn : rnMu μ [id] = [(b0, bs0)] := by
    simp only [rnMu, List.map_cons, List.map_nil]
    rw [List.getD_eq_getElem?_getD, hμ]; rfl
  match vs, hL with
  | [v], hL =>
    have h0 : Rep P w (Ft (fun b o => Ft F0 μ H b o ∧ b ≠ b0) [(b0, bs0)] [r0]) [(b0, bs0)] (.own 0 off len cb ex) v := by
      cases hL.1 with
      | own _ _ off len cb ex b bs cap ty n hμ' hsh hfit hlen' hcb hmax hex ao hat =>
        rw [hμ] at hμ'; cases hμ'
        exact .own _ 0 off len _ ex _ _ cap ty n rfl hsh hfit hlen' hcb hmax hex ao hat
      | ownn _ _ _ a => exact .ownn _ _ _ a
    have hres : resA P [r0] 1 (.own 0 off len cb ex) = some (.sl false ((r0.es.drop off).take len)) := by
      unfold resA
      simp only [A.noid, Bool.false_eq_true, if_false]
      by_cases hz : len = 0
      · rw [if_pos hz, hz]; simp
      · rw [if_neg hz]
        simp only [List.getElem?_cons_zero, Option.bind_some]
        rw [if_pos ⟨hl, hle⟩, if_pos (noidL_take (noidL_drop hes off) len)]
    have h1 := s_resA (F' := Ft F0 μ (H.set id dead0)) hs1 (fun b o hf => .inl (by
      rcases hf with hf | ⟨i, r, bs, g1, g2, g3, g4⟩
      · exact ⟨.inl hf, fun e => hs.sep id r0 b0 bs0 o hr hl hμ (by rw [← e]; exact hf)⟩
      · rw [List.getElem?_set] at g1
        split at g1
        · cases g1; cases g2
        · rename_i hne
          refine ⟨.inr ⟨i, r, bs, g1, g2, g3, g4⟩, fun e => ?_⟩
          subst e
          exact hne (hs.inj id i r0 r b bs0 bs hr hl g1 g2 hμ g3))) (fun i r b bs o g1 g2 g3 _ hf => by
      cases i with
      | succ i => simp at g1
      | zero =>
        simp at g1 g3
        obtain ⟨rfl, rfl⟩ := g3
        rcases hf with hf | ⟨j, r', bs', q1, q2, q3, q4⟩
        · exact hs.sep id r0 b0 bs0 o hr hl hμ hf
        · rw [List.getElem?_set] at q1
          split at q1
          · cases q1; cases q2
          · rename_i hne
            exact hne (hs.inj id j r0 r' b0 bs0 bs' hr hl q1 q2 hμ q3)) h0 hres
    have hnid : (A.sl false ((r0.es.drop off).take len)).noid = true := rfl
    refine (h.2 w F0 μ [v] hk ⟨h1.mono (fun _ _ _ h => h) (List.nil_prefix), trivial⟩).mono ?_
    rintro e w' ⟨v', r, H', rfl, hK, μ', q1, q2, q3, q4⟩
    exact ⟨v', r, H', rfl, hK, μ', q1, hA.trans q2, q3, q4⟩

/-- What is handed back as a fresh slice: nil, or a row of its own. -/
theorem xcall_new0 {α : Type} [Enc α] {P : Program} {f : FuncId} {args : List A} {H : List Row} (ty : TypeId) (l : List α) (h : XCall P f args H fun r H' => (l = [] ∧ r = .sl true [] ∧ H' = H) ∨ (r = .own H.length 0 l.length l.length false ∧ l ≠ [] ∧ H' = H ++ [⟨ty, Enc.sz α, l.map Enc.enc, 0, true⟩])) : XCall P f args H (fun r H' => r = B H.length l ∧ H' = H ++ [RF ty l 0]) := by
  refine ⟨h.1, fun w F0 μ vs hs hl => (h.2 w F0 μ vs hs hl).mono ?_⟩
  rintro e w' ⟨v, r, H', he, hf, hres⟩
  refine ⟨v, B H.length l, H ++ [RF ty l 0], he, ⟨rfl, rfl⟩, ?_⟩
  rcases hf with ⟨rfl, rfl, rfl⟩ | ⟨rfl, hne, rfl⟩
  · exact hres.snocDead.repR fun hr => rep_empty (.inl rfl) hr _
  · have hi : l.isEmpty = false := by cases l <;> simp_all
    rw [RF_ne hne]
    unfold B
    rw [hi]
    exact hres
@[simp] theorem shA_B {α : Type} (n i : Nat) (l : List α) : shA n (B i l) = B (n + i) l := rfl
@[simp] theorem frsh_B {α : Type} (i : Nat) (l : List α) : frsh (B i l) = true := rfl
end Go.AL
