/- An abstract layer over the walk, 9: stores, clear. No program in sight. -/
import Derived.Test.YtnahhdbheeinfaaAlMake
namespace Go.AL

def astore (P : Program) (H : List Row) (t : TypeId) (p x : A) : Option (List Row) :=
  match p with
  | .pto id sz j co => (H[id]?).bind fun r =>
    if r.live = true ∧ r.sz = sz ∧ r.f ≤ j ∧ x.ncells = P.cellsOf t ∧ P.cellsOf t ≠ 0 then
      (r.es[j]?).bind fun e =>
        if co = 0 ∧ shp P r.ty x then some (H.set id { r with es := r.es.set j x })
        else match e with
          | .agg cs => if co + P.cellsOf t ≤ cs.length then some (H.set id { r with es := r.es.set j (.agg (cs.take co ++ x.cells ++ cs.drop (co + P.cellsOf t))) }) else none
          | _ => none
    else none
  | _ => none

theorem run_storeAt {P : Program} {w : World} {t : TypeId} {inf : TypeInfo} (hi : P.info? t = some inf) {v : Value} (hv : v.cells.size = inf.size) {b o : Nat} {cur : Array Value} {cty : TypeId} (hc : w.heap[b]? = some (.cells cur cty (0, 0)))
    (hfit : o + v.cells.size ≤ cur.size) (hone : ∀ u ∈ v.cells.toList, u.oneCell' = true) :
    (Instr.storeAt t (.pointer (some ⟨b, o, none⟩)) v).run P w = .ok () (w.setRow b (cur.toList.take o ++ v.cells.toList ++ cur.toList.drop (o + v.cells.toList.length)).toArray) := by
  have hst := run_storeCells_at P b o cty v.cells.toList 0 cur w hc (by simp; omega) hone
  simp only [Nat.add_zero] at hst
  simp only [Instr.storeAt, Instr.sureAddr, Sem.run_bind, Sem.run_pure, Result.andThen, storeVar, run_sizeOf hi]
  rw [if_neg (by simp [hv])]
  exact hst

/-- One element of a row is written anew. -/
theorem laid_set {P : Program} {w : World} {F : Fz} {μ : Mu} {ty bs j : Nat} {es : List A} {cur cur' : Array Value} {e' : A} {V' : Value} (h : Laid P w F μ ty (P.cellsOf ty) es cur bs) (hz : P.cellsOf ty ≠ 0) (hs : shp P ty e' = true) (hr : Rep P w F μ e' V')
    (g1 : ∀ x, x < bs + j * P.cellsOf ty → cur'[x]? = cur[x]?) (g2 : ∀ (k : Nat) (u : Value), V'.cells[k]? = some u → cur'[bs + j * P.cellsOf ty + k]? = some u) (g3 : ∀ x, bs + (j + 1) * P.cellsOf ty ≤ x → cur'[x]? = cur[x]?) :
    Laid P w F μ ty (P.cellsOf ty) (es.set j e') cur' bs := by
  intro k e he
  rw [List.getElem?_set] at he
  split at he
  · rename_i hk; subst hk
    split at he
    · cases he; exact ⟨hs, V', hr, g2⟩
    · cases he
  · rename_i hk
    obtain ⟨k1, V, k2, k3⟩ := h k e he
    refine ⟨k1, V, k2, fun i u hu => ?_⟩
    have hi : i < P.cellsOf ty := by have := (Array.getElem?_eq_some_iff.1 hu).1; rw [(shp_cells k1 k2 hz).1] at this; exact this
    rcases Nat.lt_or_gt_of_ne hk with hlt | hgt
    · rw [g3 _ ?_]
      · exact k3 i u hu
      · have := Nat.mul_le_mul_right (P.cellsOf ty) (show j + 1 ≤ k by omega)
        omega
    · rw [g1 _ ?_]
      · exact k3 i u hu
      · have := Nat.mul_le_mul_right (P.cellsOf ty) (show k + 1 ≤ j by omega)
        rw [Nat.add_mul] at this
        omega

theorem agg_cells (cs : Array Value) : (Value.agg cs).cells = cs := rfl

theorem s_astore {P : Program} {w : World} {F0 : Fz} {μ : Mu} {H H' : List Row} {t : TypeId} {p x : A} {vp vx : Value} (hs : HS P w F0 μ H) (hp : Rep P w (Ft F0 μ H) μ p vp) (hx : Rep P w (Ft F0 μ H) μ x vx) (h : astore P H t p x = some H') :
    ∃ w', (Instr.storeAt t vp vx).run P w = .ok () w' ∧ HS P w' F0 μ H' ∧ Adv w (Fof μ H) w' (Fof μ H') := by
  unfold astore at h
  split at h
  case h_2 => cases h
  rename_i id sz j co
  obtain ⟨r, hrow, hB⟩ := Option.bind_eq_some_iff.1 h
  clear h
  split at hB
  case isFalse => cases hB
  rename_i hc
  obtain ⟨hl, hrs, hf, hnc, hnz⟩ := hc
  obtain ⟨e, he, hC⟩ := Option.bind_eq_some_iff.1 hB
  clear hB
  obtain ⟨inf, hi, hci⟩ := info_of_cells hnz
  cases hp with | pto _ _ _ _ _ b bs hμ =>
  have hco : CellsOK P w (Ft F0 μ H) μ r b bs := by
    rcases hs.row _ _ _ _ hrow hl hμ with h1 | ⟨hz0, _, _, ms, _, _, hm1, hm2⟩
    · exact h1
    · obtain ⟨m, hm⟩ : ∃ m, ms.toList[j]? = some m := ⟨_, List.getElem?_eq_getElem (by rw [hm1]; exact (List.getElem?_eq_some_iff.1 he).1)⟩
      obtain ⟨ka, va, rfl, _⟩ := hm2 j e m he hm
      split at hC
      · rename_i hsx
        have := hsx.2
        cases x <;> simp_all [shp, A.ncells]
      · cases hC
  obtain ⟨cur, c1, c2, c3, c4, c5⟩ := hco
  obtain ⟨rty, rsz, res, rf, rl⟩ := r
  simp only at hl hrs hf he hC c1 c2 c3 c4 c5
  subst hl hrs
  obtain rfl := c2
  have hpc := PR.cells hx (by omega)
  have hvs : vx.cells.size = P.cellsOf t := by
    have := hpc.1
    rw [A.ncells_eq (by omega), hnc] at this
    simpa using this
  have hjl := (List.getElem?_eq_some_iff.1 he).1
  obtain ⟨k1, V, k2, k3⟩ := c5 j e he
  obtain ⟨hV1, hV2⟩ := shp_cells k1 k2 c3
  have hmul := Nat.mul_le_mul_right (P.cellsOf rty) (show j + 1 ≤ res.length by omega)
  have e1 : (j + 1) * P.cellsOf rty = j * P.cellsOf rty + P.cellsOf rty := by rw [Nat.add_mul, Nat.one_mul]
  have fin : ∀ (e' : A) (V' : Value), shp P rty e' = true → Rep P w (Ft F0 μ H) μ e' V' → co + P.cellsOf t ≤ P.cellsOf rty →
      (∀ (k : Nat) (u : Value), V'.cells[k]? = some u → (if k < co then V.cells[k]? else if k < co + P.cellsOf t then vx.cells[k - co]? else V.cells[k]?) = some u) →
      ∃ w', (Instr.storeAt t (.pointer (some ⟨b, bs + j * P.cellsOf rty + co, none⟩)) vx).run P w = .ok () w' ∧ HS P w' F0 μ (H.set id ⟨rty, P.cellsOf rty, res.set j e', rf, true⟩) ∧ Adv w (Fof μ H) w' (Fof μ (H.set id ⟨rty, P.cellsOf rty, res.set j e', rf, true⟩)) := by
    intro e' V' hse hre hco hcells
    have hll : vx.cells.toList.length = P.cellsOf t := by simpa using hvs
    have hrun := run_storeAt (P := P) hi (v := vx) (by rw [hvs, hci]) (b := b) (o := bs + j * P.cellsOf rty + co) c1 (by omega) hpc.2.1
    refine ⟨_, hrun, ?_⟩
    have hqn : bs + j * P.cellsOf rty + co + vx.cells.toList.length ≤ cur.size := by omega
    have hget := splice_get cur vx.cells.toList (bs + j * P.cellsOf rty + co) hqn
    refine hs.write (es' := res.set j e') hrow rfl hμ c1 rfl (splice_size cur _ _ hqn) ?_ (by simpa using c4) ?_
    · intro o ho
      rw [hget, if_pos]
      have := Nat.mul_le_mul_right (P.cellsOf rty) hf
      simp only at ho; omega
    · show Laid P w (Ft F0 μ H) μ rty (P.cellsOf rty) (res.set j e') _ bs
      refine laid_set c5 c3 hse hre ?_ ?_ ?_
      · intro x hx; rw [hget, if_pos (by omega)]
      · intro k u hu
        have hk : k < P.cellsOf rty := by have := (Array.getElem?_eq_some_iff.1 hu).1; rw [(shp_cells hse hre c3).1] at this; exact this
        have hcu := hcells k u hu
        rw [hget]
        by_cases h1 : k < co
        · rw [if_pos (by omega)]
          rw [if_pos h1] at hcu
          exact k3 k u hcu
        · rw [if_neg (by omega)]
          rw [if_neg h1] at hcu
          by_cases h2 : k < co + P.cellsOf t
          · rw [if_pos h2] at hcu
            rw [if_pos (by omega), show bs + j * P.cellsOf rty + k - (bs + j * P.cellsOf rty + co) = k - co by omega]
            simpa using hcu
          · rw [if_neg h2] at hcu
            rw [if_neg (by omega)]
            exact k3 k u hcu
      · intro x hx; rw [hget, if_neg (by omega), if_neg (by omega)]
  split at hC
  · rename_i hco; cases hC
    obtain ⟨rfl, hsx⟩ := hco
    have hn2 := shp_ncells hsx c3
    refine fin x vx hsx hx (by omega) ?_
    intro k u hu
    have hk := (Array.getElem?_eq_some_iff.1 hu).1
    rw [if_neg (by omega), if_pos (by omega)]
    simpa using hu
  · split at hC
    · rename_i cs
      split at hC
      · rename_i hcl; cases hC
        have hsh := k1
        simp only [shp, Bool.and_eq_true, beq_iff_eq] at hsh
        cases k2 with | agg _ _ vs hl1 h1 hh =>
        have hPR : PR P w (Ft F0 μ H) μ cs vs := ⟨hl1, h1, hh⟩
        have hPR2 := ((hPR.take co).app hpc).app (hPR.drop (co + P.cellsOf t))
        have hxl : x.cells.length = P.cellsOf t := by rw [A.ncells_eq (by omega), hnc]
        have hll : vx.cells.toList.length = P.cellsOf t := by simpa using hvs
        refine fin _ _ ?_ hPR2.agg (by omega) ?_
        · simp only [shp, Bool.and_eq_true, beq_iff_eq]
          refine ⟨hsh.1, ?_⟩
          simp; omega
        · intro k u hu
          simp only [agg_cells, List.getElem?_toArray] at hu ⊢
          have hvl : (vs.take co).length = co := by simp; omega
          by_cases h2 : k < co
          · rw [if_pos h2]
            rw [List.append_assoc, List.getElem?_append_left (by omega), List.getElem?_take, if_pos h2] at hu
            exact hu
          · rw [if_neg h2]
            by_cases h3 : k < co + P.cellsOf t
            · rw [if_pos h3]
              rw [List.getElem?_append_left (by simp; omega), List.getElem?_append_right (by omega), hvl] at hu
              simpa using hu
            · rw [if_neg h3]
              rw [List.getElem?_append_right (by simp; omega)] at hu
              simp only [List.length_append, hvl, hll, List.getElem?_drop] at hu
              rw [show co + P.cellsOf t + (k - (co + P.cellsOf t)) = k by omega] at hu
              exact hu
      · cases hC
    · cases hC

def aclear (P : Program) (H : List Row) (t : TypeId) (x : A) : Option (List Row) :=
  match P.underlying t with
  | some (.slice e) =>
    match zbox P e with
    | some (z, _) =>
        match x with
        | .sl _ [] => some H
        | .own id off len _ _ => if len = 0 then some H else (H[id]?).bind fun r =>
          if P.cellsOf e ≠ 0 ∧ shp P e z ∧ r.live = true ∧ r.ty = e ∧ r.f ≤ off ∧ off + len ≤ r.es.length then
            some (H.set id { r with es := r.es.take off ++ List.replicate len z ++ r.es.drop (off + len) }) else none
        | _ => none
    | none => none
  | _ => none

theorem s_aclear {P : Program} {w : World} {F0 : Fz} {μ : Mu} {H H' : List Row} {t ty : TypeId} {ts : Array TypeId} {x : A} {vx : Value} (hs : HS P w F0 μ H) (h0 : ts[0]? = some t) (hx : Rep P w (Ft F0 μ H) μ x vx) (h : aclear P H t x = some H') :
    ∃ w', (Builtin.clear_ ts ty #[vx]).run P w = .ok (.tuple #[]) w' ∧ HS P w' F0 μ H' ∧ Adv w (Fof μ H) w' (Fof μ H') := by
  unfold aclear at h
  split at h
  case h_2 => cases h
  rename_i e hu
  split at h
  case h_2 => cases h
  rename_i z0 bytes hzb
  obtain ⟨inf, z, hi, hz, hzs, rfl, _⟩ := zbox_some hzb
  split at h
  case h_3 => cases h
  · cases h
    refine ⟨w, ?_, hs, Adv.refl _ _⟩
    cases hx with
    | slnil _ _ a => cases a <;> simp [Builtin.clear_, h0, run_underlying hu]
    | sl _ _ _ b off n cap sz V hn hcap hmax hfull hsz hrep hcell =>
      simp at hn; subst hn
      simp [Builtin.clear_, h0, run_underlying hu]
  · rename_i id off len cb ex
    by_cases hl0 : len = 0
    · subst hl0
      simp at h; subst h
      refine ⟨w, ?_, hs, Adv.refl _ _⟩
      cases hx with
      | own => simp [Builtin.clear_, h0, run_underlying hu]
      | ownn _ _ _ a => cases a <;> simp [Builtin.clear_, h0, run_underlying hu]
    rw [if_neg hl0] at h
    obtain ⟨r, hrow, hB⟩ := Option.bind_eq_some_iff.1 h
    clear h
    split at hB
    case isFalse => cases hB
    rename_i hc
    obtain ⟨hnz, hsh, hl, hty, hf, hle⟩ := hc
    have hci := cellsOf_info hi
    cases hx with | ownn _ _ _ a => exact (hl0 rfl).elim | own _ id off len cb ex b bs cap tyr n hμ hshp hfit hlen hcb hmax hex ao hat =>
    obtain ⟨cur, c1, c2, c3, c4, c5⟩ := hs.cells hrow hl hμ hshp
    have htye : tyr = e := by
      simp only [World.shape?, c1] at hshp
      simp at hshp; rw [← hshp.1, hty]
    subst htye
    obtain ⟨rty, rsz, res, rf, rl⟩ := r
    simp only at hl hty hf hle hB c1 c2 c3 c4 c5
    subst hl hty
    obtain rfl := c2
    · cases hB
      obtain rfl := hat (by omega)
      obtain ⟨news, g1, g2⟩ := flat_of (P := P) (w := w) (F := Ft F0 μ H) (μ := μ) (ty := rty) rfl hnz (fun o => (Builtin.zeroCells z.cells len)[o]?) (List.replicate len (ofV z)) 0 (fun k x hx => by
        have hk : k < len := by have := (List.getElem?_eq_some_iff.1 hx).1; simpa using this
        simp [hk] at hx
        subst hx
        refine ⟨hsh, z, rep_ofV z, fun j u hu' => ?_⟩
        have := zeros_get z.cells len k j u hk hu'
        rw [Nat.zero_add, hci, ← hzs]
        exact this)
      have hnews : news = (Builtin.zeroCells z.cells len).toList := by
        apply List.ext_getElem?
        intro k
        have hl1 := g1.len
        have hl2 : (Builtin.zeroCells z.cells len).toList.length = news.length := by rw [Array.length_toList, size_zeroC, hl1, hci, hzs]; simp
        by_cases hk : k < news.length
        · have := g2 k news[k] (List.getElem?_eq_getElem hk)
          rw [List.getElem?_eq_getElem hk]
          rw [Nat.zero_add] at this
          rw [← this]; simp
        · rw [List.getElem?_eq_none (by omega), List.getElem?_eq_none (by omega)]
      have hnl : news.length = len * P.cellsOf rty := by rw [g1.len]; simp
      have hmul := Nat.mul_le_mul_right (P.cellsOf rty) hle
      rw [Nat.add_mul] at hmul
      have hqn : bs + off * P.cellsOf rty + news.length ≤ cur.size := by omega
      have hst := run_storeCells_at P b (bs + off * P.cellsOf rty) rty news 0 cur w c1 (by omega) g1.one
      simp only [Nat.add_zero] at hst
      have hget := splice_get cur news (bs + off * P.cellsOf rty) hqn
      refine ⟨w.setRow b (cur.toList.take (bs + off * P.cellsOf rty) ++ news ++ cur.toList.drop (bs + off * P.cellsOf rty + news.length)).toArray, ?_, ?_⟩
      · have : (Builtin.clear_ ts ty #[.slice (some ⟨b, bs + off * P.cellsOf rty, none⟩) len cap]).run P w = ((storeCells ⟨b, bs + off * P.cellsOf rty, none⟩ (Builtin.zeroCells z.cells len).toList).run P w).andThen fun _ w' => .ok (.tuple #[]) w' := by
          cases len with
          | zero => exact (hl0 rfl).elim
          | succ m => simp [Builtin.clear_, h0, run_underlying hu, zeroValue, typeInfo, hi, hz]
        rw [this, ← hnews, hst]; rfl
      · refine hs.write (es' := res.take off ++ List.replicate len (ofV z) ++ res.drop (off + len)) hrow rfl hμ c1 rfl (splice_size cur _ _ hqn) ?_ ?_ ?_
        · intro o ho
          rw [hget, if_pos]
          have := Nat.mul_le_mul_right (P.cellsOf rty) hf
          simp only at ho; omega
        · have : (res.take off ++ List.replicate len (ofV z) ++ res.drop (off + len)).length = res.length := by simp; omega
          rw [this]; exact c4
        · have := laid_splice (p := off) (q := bs + off * P.cellsOf rty) (cur' := (cur.toList.take (bs + off * P.cellsOf rty) ++ news ++ cur.toList.drop (bs + off * P.cellsOf rty + news.length)).toArray) c5 g1 hnz (by omega) rfl
            (by intro x hx; rw [hget, if_pos hx])
            (by intro k u hk; rw [hget, if_neg (by omega), if_pos (by have := (List.getElem?_eq_some_iff.1 hk).1; omega), show bs + off * P.cellsOf rty + k - (bs + off * P.cellsOf rty) = k by omega]; exact hk)
            (by intro x hx; rw [List.length_replicate] at hx; rw [hget, if_neg (by omega), if_neg (by omega)])
          simpa using this
end Go.AL
