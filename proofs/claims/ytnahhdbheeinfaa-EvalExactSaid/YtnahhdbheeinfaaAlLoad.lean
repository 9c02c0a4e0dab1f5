/- An abstract layer over the walk, 4: loads, fields' addresses, slices of slices, lengths. No program in sight. -/
import Derived.Test.YtnahhdbheeinfaaAlPure
namespace Go.AL

theorem underlying_of_shp {P : Program} {t : TypeId} (hz : P.cellsOf t ≠ 0) : ∃ i, P.info? t = some i ∧ P.cellsOf t = i.size := info_of_cells hz

/-- The value of an abstract value of the form of type t, read off its cells. -/
theorem run_loadVar_val {P : Program} {t : TypeId} {e : A} {V : Value} {w : World} {F : Fz} {μ : Mu} {b o : Nat} (hs : shp P t e = true) (hz : P.cellsOf t ≠ 0) (hu : (P.underlying t).isSome = true) (hr : Rep P w F μ e V)
    (hc : ∀ (j : Nat) (u : Value), V.cells[j]? = some u → w.cell? ⟨b, o + j, none⟩ = some u) : (loadVar t ⟨b, o, none⟩).run P w = .ok V w := by
  obtain ⟨d, hd⟩ := Option.isSome_iff_exists.1 hu
  obtain ⟨inf, hinf, hsi⟩ := info_of_cells hz
  have hsz := (shp_cells hs hr hz).1
  cases hag : aggT P t with
  | true =>
    cases hr with
    | agg _ cs vs hl h1 hh =>
      have := run_loadCells_list (P := P) w ⟨b, o, none⟩ vs (by intro j v hv; rw [Addr.add_lit]; exact hc j v (by simpa [Value.cells] using hv))
      have hl2 : vs.length = inf.size := by rw [← hsi, ← hsz]; rfl
      rw [hl2] at this
      simp only [loadVar, Sem.run_bind, run_isAgg hd, Result.andThen, hag, if_true, run_sizeOf hinf, this, Sem.run_pure]
    | _ => simp [shp, hag] at hs
  | false =>
    have hV : V.cells = #[V] := by
      cases hr <;> first | rfl | (simp [shp, hag] at hs; done)
    have h0 := hc 0 V (by rw [hV]; rfl)
    simp only [loadVar, Sem.run_bind, run_isAgg hd, Result.andThen, hag, Bool.false_eq_true, if_false, run_load]
    simp only [Nat.add_zero] at h0
    rw [h0]

def aload (P : Program) (H : List Row) (t : TypeId) (x : A) : Option A :=
  if P.cellsOf t ≠ 0 ∧ hasU P t = true then
    match x with
    | .ptr d => if shp P t d then some d else none
    | .pto id sz j co => (H[id]?).bind fun r => if r.live ∧ r.sz = sz then (r.es[j]?).bind fun e =>
        if co = 0 ∧ shp P t e then some e else (match e with | .agg cs => (apart P t cs co).bind fun d => if shp P t d then some d else none | _ => none)
      else none
    | _ => none
  else none

theorem s_aload {P : Program} {H : List Row} {t : TypeId} {x r : A} {vx : Value} {w : World} {F0 : Fz} {μ : Mu} (hs : HS P w F0 μ H) (hx : Rep P w (Ft F0 μ H) μ x vx) (h : aload P H t x = some r) :
    ∃ u, (∀ w', Adv w NoF w' NoF → (Instr.loadAt t vx).run P w' = .ok u w') ∧ Rep P w (Ft F0 μ H) μ r u := by
  unfold aload at h
  split at h
  · rename_i hz
    split at h
    · rename_i d
      split at h
      · rename_i hsh; cases h
        cases hx with | ptr _ _ b off v hrep hnc hcell =>
        refine ⟨v, fun w' hw => ?_, hrep.mono (fun _ _ _ h => h) List.nil_prefix⟩
        simp only [Instr.loadAt, Instr.sureAddr, Sem.run_bind, Sem.run_pure, Result.andThen]
        exact run_loadVar_val hsh hz.1 hz.2 (hrep.adv (hw.ofNo _) (List.prefix_refl _)) (fun j u hu => hw.cell _ _ _ (hcell j u hu).2.1 id)
      · cases h
    · rename_i id sz j co
      obtain ⟨row, hrow, h⟩ := Option.bind_eq_some_iff.1 h
      split at h
      · rename_i hl
        obtain ⟨e, he, h⟩ := Option.bind_eq_some_iff.1 h
        cases hx with | pto _ _ _ _ _ b bs hμ =>
        rcases hs.row _ _ _ _ hrow hl.1 hμ with hco | ⟨_, _, _, ms, _, _, hm1, hm2⟩
        case inr =>
          obtain ⟨m, hm⟩ : ∃ m, ms.toList[j]? = some m := ⟨_, List.getElem?_eq_getElem (by rw [hm1]; exact (List.getElem?_eq_some_iff.1 he).1)⟩
          obtain ⟨ka, va, rfl, _⟩ := hm2 j e m he hm
          simp [shp] at h
        obtain ⟨cur, hc, hrs, hrz, hfit, hel⟩ := hco
        obtain ⟨hshp, V, hV, hcells⟩ := hel j e he
        have hcell : ∀ o u, cur[o]? = some u → w.cell? ⟨b, o, none⟩ = some u := fun o u hu => by rw [cell_of_row w b o cur row.ty (0, 0) hc]; exact hu
        split at h
        · rename_i hco; cases h
          refine ⟨V, fun w' hw => ?_, hV⟩
          simp only [Instr.loadAt, Instr.sureAddr, Sem.run_bind, Sem.run_pure, Result.andThen]
          refine run_loadVar_val hco.2 hz.1 hz.2 (hV.adv (hw.ofNo _) (List.prefix_refl _)) (fun i u hu => hw.cell _ _ _ (hcell _ _ ?_) (fun hf => hf))
          rw [hco.1, Nat.add_zero, ← hl.2]; exact hcells i u hu
        · split at h
          · rename_i cs
            obtain ⟨d, hd, h⟩ := Option.bind_eq_some_iff.1 h
            split at h
            · rename_i hsd; cases h
              cases hV with | agg _ _ vs hlen h1 hh =>
              obtain ⟨u, _, h3, h4⟩ := s_apart hlen h1 hh hd
              have hnc : r.ncells ≠ 0 := by rw [shp_ncells hsd hz.1]; exact hz.1
              refine ⟨u, fun w' hw => ?_, h3⟩
              simp only [Instr.loadAt, Instr.sureAddr, Sem.run_bind, Sem.run_pure, Result.andThen]
              refine run_loadVar_val hsd hz.1 hz.2 (h3.adv (hw.ofNo _) (List.prefix_refl _)) (fun i y hy => hw.cell _ _ _ (hcell _ _ ?_) (fun hf => hf))
              have := hcells (co + i) y (by simpa [Value.cells] using h4 hnc i y hy)
              rw [← hl.2, Nat.add_assoc]; exact this
            · cases h
          · cases h
      · cases h
    · cases h
  · cases h

def afieldAddr (P : Program) (t : TypeId) (x : A) (f : Nat) : Option A :=
  (fld P t f).bind fun fd =>
    if P.cellsOf fd.1 = 0 then none else
    match x with
    | .ptr (.agg cs) => (apart P fd.1 cs fd.2).bind fun d => if d.ncells ≠ 0 then some (.ptr d) else none
    | .pto id sz j co => some (.pto id sz j (co + fd.2))
    | _ => none

theorem run_fieldAt {P : Program} {t : TypeId} {fs : Array Field} (h : P.underlying t = some (.struct fs)) {f : Nat} {fd : Field} (hf : fs[f]? = some fd) (hz : P.cellsOf fd.type ≠ 0) (a : Addr) (w : World) :
    (Instr.fieldAt t (.pointer (some a)) f).run P w = .ok (.pointer (some (a.add fd.offset))) w := by
  obtain ⟨inf, hinf, hsi⟩ := info_of_cells hz
  simp [Instr.fieldAt, run_underlying h, hf, Instr.sureAddr, fieldPlace, run_sizeOf hinf, show inf.size ≠ 0 by omega]

theorem s_afieldAddr {P : Program} {H : List Row} {t : TypeId} {x r : A} {f : Nat} {vx : Value} {w : World} {F0 : Fz} {μ : Mu} (hx : Rep P w (Ft F0 μ H) μ x vx) (h : afieldAddr P t x f = some r) :
    ∃ u, (∀ w', Cn w w' → (Instr.fieldAt t vx f).run P w' = .ok u w') ∧ Rep P w (Ft F0 μ H) μ r u := by
  unfold afieldAddr at h
  · obtain ⟨⟨ft, fo⟩, hf, h⟩ := Option.bind_eq_some_iff.1 h
    obtain ⟨fs, fd, hu, hf2, rfl, rfl⟩ := fld_some hf
    split at h
    · cases h
    · rename_i hz
      split at h
      · rename_i cs
        obtain ⟨d, hd, h⟩ := Option.bind_eq_some_iff.1 h
        split at h
        · rename_i hnc; cases h
          cases hx with | ptr _ _ b off v hrep hnc' hcell =>
          cases hrep with | agg _ _ vs hl h1 hh =>
          obtain ⟨u, _, h3, h4⟩ := s_apart hl h1 hh hd
          refine ⟨_, fun w' _ => run_fieldAt hu hf2 hz _ w', ?_⟩
          rw [Addr.add_lit]
          refine .ptr _ d b _ u h3 hnc ?_
          intro j y hy
          have := hcell (fd.offset + j) y (by simpa [Value.cells] using h4 hnc j y hy)
          rw [Nat.add_assoc]; exact this
        · cases h
      · rename_i id sz j co; cases h
        cases hx with | pto _ _ _ _ _ b bs hμ =>
        refine ⟨_, fun w' _ => run_fieldAt hu hf2 hz _ w', ?_⟩
        rw [Addr.add_lit, Nat.add_assoc]
        exact .pto _ _ _ _ _ _ _ hμ
      · cases h

def anilCheck (x : A) : Option A :=
  match x with
  | .ptr _ | .pto .. | .fn .. => some x
  | _ => none

theorem s_anilCheck {P : Program} {x r : A} {w : World} {F : Fz} {μ : Mu} {a : Act} {X : Operand} (hx : Rep P w F μ x (a.eval X)) (h : anilCheck x = some r) (dst : Option Tmp) (ty : TypeId) (pos : String) (aft : Array Edge) (g : Option (Nat × Bool)) :
    (∀ w', (execOp a.eval ⟨dst, .nilCheck X, ty, pos, aft, g⟩).run P w' = .ok (.value (a.eval X)) w') ∧ r = x := by
  unfold anilCheck at h
  generalize hv : a.eval X = v at hx
  split at h
  · cases h; refine ⟨fun w' => ?_, rfl⟩; cases hx; simp only [execOp, hv]; rfl
  · cases h; refine ⟨fun w' => ?_, rfl⟩; cases hx; simp only [execOp, hv]; rfl
  · cases h; refine ⟨fun w' => ?_, rfl⟩; cases hx; simp only [execOp, hv]; rfl
  · cases h

def alen (P : Program) (t : TypeId) (x : A) : Option A :=
  match P.underlying t, x with
  | some (.slice _), .sl _ es => some (.int .i64 es.length)
  | some (.slice _), .own _ _ len _ _ => some (.int .i64 len)
  | some .string, .str l => some (.int .i64 l.length)
  | some (.array n _), _ => some (.int .i64 n)
  | _, _ => none

theorem s_alen {P : Program} {t : TypeId} {x r : A} {ts : Array TypeId} {ty : TypeId} {v : Value} {w : World} {F : Fz} {μ : Mu} (h0 : ts[0]? = some t) (hx : Rep P w F μ x v) (h : alen P t x = some r) :
    ∃ u, (∀ w', Cn w w' → (Builtin.len_ ts ty #[v]).run P w' = .ok u w') ∧ Rep P w F μ r u := by
  unfold alen at h
  split at h
  · rename_i hu; cases h; cases hx with
    | slnil _ _ _ => exact ⟨.int .i64 0, fun w' _ => by simp [Builtin.len_, h0, run_underlying hu, goInt], .int _ _ _⟩
    | sl _ _ _ _ _ n _ _ _ hn => exact ⟨.int .i64 n, fun w' _ => by simp [Builtin.len_, h0, run_underlying hu, goInt], by rw [hn]; exact .int _ _ _⟩
  · rename_i hu; cases h; cases hx <;> (refine ⟨_, fun w' _ => ?_, .int _ _ _⟩; simp [Builtin.len_, h0, run_underlying hu, goInt])
  · rename_i hu; cases h; cases hx; refine ⟨_, fun w' _ => ?_, .int _ _ _⟩; simp [Builtin.len_, h0, run_underlying hu, goInt]; rfl
  · rename_i hu; cases h; refine ⟨_, fun w' _ => ?_, .int _ _ _⟩; cases v <;> simp [Builtin.len_, h0, run_underlying hu, goInt]
  · cases h

def amax2 (x y : A) : Option A := match x, y with | .int k a, .int _ b => some (.int k (max a b)) | _, _ => none
def amin2 (x y : A) : Option A := match x, y with | .int k a, .int _ b => some (.int k (min a b)) | _, _ => none
def afold (f : A → A → Option A) : A → List A → Option A
  | x, [] => some x
  | x, y :: ys => (f x y).bind fun z => afold f z ys
def amaxmin (f : A → A → Option A) : List A → Option A
  | [] => none
  | x :: xs => afold f x xs

theorem s_amax2 {P : Program} {x y r : A} {vx vy : Value} {w : World} {F : Fz} {μ : Mu} (hx : Rep P w F μ x vx) (hy : Rep P w F μ y vy) (h : amax2 x y = some r) : ∃ u, (∀ w', Cn w w' → (Builtin.max2 vx vy).run P w' = .ok u w') ∧ Rep P w F μ r u := by
  unfold amax2 at h
  split at h
  · cases hx; cases hy; cases h
    rename_i k a k' b
    refine ⟨.int k (max a b), fun w' _ => ?_, .int _ _ _⟩
    simp only [Builtin.max2, Sem.run_pure]; congr 2; split <;> omega
  · cases h
theorem s_amin2 {P : Program} {x y r : A} {vx vy : Value} {w : World} {F : Fz} {μ : Mu} (hx : Rep P w F μ x vx) (hy : Rep P w F μ y vy) (h : amin2 x y = some r) : ∃ u, (∀ w', Cn w w' → (Builtin.min2 vx vy).run P w' = .ok u w') ∧ Rep P w F μ r u := by
  unfold amin2 at h
  split at h
  · cases hx; cases hy; cases h
    rename_i k a k' b
    refine ⟨.int k (min a b), fun w' _ => ?_, .int _ _ _⟩
    simp only [Builtin.min2, Sem.run_pure]; congr 2; split <;> omega
  · cases h

/-- Pointwise. -/
def RepL (P : Program) (w : World) (F : Fz) (μ : Mu) : List A → List Value → Prop
  | [], [] => True
  | x :: xs, v :: vs => Rep P w F μ x v ∧ RepL P w F μ xs vs
  | _, _ => False

theorem s_afold {P : Program} {f : A → A → Option A} {g : Value → Value → Sem Value} {w : World} {F : Fz} {μ : Mu} (hfg : ∀ x y r vx vy, Rep P w F μ x vx → Rep P w F μ y vy → f x y = some r → ∃ u, (∀ w', Cn w w' → (g vx vy).run P w' = .ok u w') ∧ Rep P w F μ r u) :
    ∀ (xs : List A) (vs : List Value) (x r : A) (v : Value), Rep P w F μ x v → RepL P w F μ xs vs → afold f x xs = some r → ∃ u, (∀ w', Cn w w' → (vs.foldlM g v).run P w' = .ok u w') ∧ Rep P w F μ r u
  | [], [], x, r, v, hx, _, h => by cases h; exact ⟨v, fun w' _ => by simp, hx⟩
  | y :: ys, u :: us, x, r, v, hx, hl, h => by
    obtain ⟨z, hz, h⟩ := Option.bind_eq_some_iff.1 h
    obtain ⟨q, hq, hq2⟩ := hfg _ _ _ _ _ hx hl.1 hz
    obtain ⟨q', hq', hq2'⟩ := s_afold hfg ys us z r q hq2 hl.2 h
    exact ⟨q', fun w' hw => by simp only [List.foldlM_cons, Sem.run_bind, hq w' hw, Result.andThen, hq' w' hw], hq2'⟩
  | [], _ :: _, _, _, _, _, h, _ => h.elim
  | _ :: _, [], _, _, _, _, h, _ => h.elim

def aindex (P : Program) (t : TypeId) (x i : A) : Option A :=
  match P.underlying t, x, i with
  | some .string, .str l, .int _ n => if 0 ≤ n then (l[n.toNat]?).map fun c => .int .u8 c.toNat else none
  | some (.array m e), .agg cs, .int _ n => if 0 ≤ n ∧ n < m ∧ P.cellsOf e ≠ 0 then apart P e cs (n.toNat * P.cellsOf e) else none
  | _, _, _ => none

theorem s_aindex {P : Program} {t : TypeId} {x i r : A} {vx vi : Value} {w : World} {F : Fz} {μ : Mu} (hx : Rep P w F μ x vx) (hi : Rep P w F μ i vi) (h : aindex P t x i = some r) :
    ∃ u, (∀ w', Cn w w' → (Instr.index t vx vi).run P w' = .ok u w') ∧ Rep P w F μ r u := by
  unfold aindex at h
  split at h
  · rename_i l k n hu
    cases hx; cases hi
    split at h
    · rename_i h0
      obtain ⟨c, hc, rfl⟩ := Option.map_eq_some_iff.1 h
      refine ⟨.int .u8 c.toNat, fun w' _ => ?_, .int _ _ _⟩
      have hb : (⟨⟨l⟩⟩ : ByteArray)[n.toNat]? = some c := by
        have hlt := (List.getElem?_eq_some_iff.1 hc)
        obtain ⟨hlt, hce⟩ := hlt
        have hs : n.toNat < (⟨⟨l⟩⟩ : ByteArray).size := hlt
        rw [ByteArray.getElem?_lt' _ _ hs]
        exact congrArg some hce
      simp [Instr.index, asIntOf, run_underlying hu, h0, hb]
    · cases h
  · rename_i m e cs k n hu
    cases hi
    cases hx with | agg _ _ vs hl h1 hh =>
    split at h
    · rename_i hb
      obtain ⟨inf, hinf, hsi⟩ := info_of_cells hb.2.2
      obtain ⟨u, h2, h3, _⟩ := s_apart hl h1 hh h
      refine ⟨u, fun w' hw => ?_, h3⟩
      have h2 := h2 w' hw
      rw [hsi] at h2
      simp [Instr.index, asIntOf, run_underlying hu, hb.1, hb.2.1, run_sizeOf hinf, h2]
    · cases h
  · cases h
end Go.AL
