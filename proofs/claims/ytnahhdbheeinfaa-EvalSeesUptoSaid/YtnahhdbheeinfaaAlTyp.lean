/- An abstract layer over the walk, 13c: lists of a type of Lean's as slices. No program in sight. -/
import Derived.Test.YtnahhdbheeinfaaAlRen
namespace Go.AL

/-- How a value of a type lies in memory. -/
class Enc (α : Type) where
  enc : α → A
  sz : Nat
  noid : ∀ x, (enc x).noid = true
  wk : ∀ x, wkA (enc x) = enc x
  nc : ∀ x, (enc x).ncells = sz
  pos : sz ≠ 0

instance : Enc Int := ⟨A.int .i64, 1, fun _ => rfl, fun _ => by simp, fun _ => rfl, by decide⟩
instance : Enc Bool := ⟨A.bool, 1, fun _ => rfl, fun _ => by simp, fun _ => rfl, by decide⟩
instance : Enc (List UInt8) := ⟨A.str, 1, fun _ => rfl, fun _ => by simp, fun _ => rfl, by decide⟩
@[simp] theorem enc_int (n : Int) : Enc.enc n = A.int .i64 n := rfl
@[simp] theorem enc_bool (b : Bool) : Enc.enc b = A.bool b := rfl
@[simp] theorem enc_str (l : List UInt8) : Enc.enc l = A.str l := rfl
@[simp] theorem sz_int : Enc.sz Int = 1 := rfl
@[simp] theorem sz_bool : Enc.sz Bool = 1 := rfl
@[simp] theorem sz_str : Enc.sz (List UInt8) = 1 := rfl

/-- A slice that grows: all of a row. -/
def B {α : Type} (id : Nat) (l : List α) : A := .own id 0 l.length l.length l.isEmpty

section
variable {α : Type}
@[simp] theorem B_noid (id : Nat) (l : List α) : (B id l).noid = false := rfl
@[simp] theorem B_nc (id : Nat) (l : List α) : (B id l).ncells = 1 := rfl
@[simp] theorem B_cells (id : Nat) (l : List α) : (B id l).cells = [B id l] := rfl
@[simp] theorem B_scal (id : Nat) (l : List α) : scal (B id l) = false := rfl
@[simp] theorem B_shp {P : Program} {t : TypeId} (id : Nat) (l : List α) : shp P t (B id l) = (!aggT P t && P.cellsOf t == 1) := rfl
@[simp] theorem B_wk (id : Nat) (l : List α) : wkA (B id l) = B id l := by unfold B; simp only [wkA]
@[simp high] theorem alen_B {P : Program} {t : TypeId} (id : Nat) (l : List α) (h : isSliceT P t = true) : alen P t (B id l) = some (.int .i64 l.length) := by
  unfold alen B
  rw [selem_eq h]
@[simp high] theorem nilB_B (id : Nat) (l : List α) : (B id l).nilB = if l.isEmpty then .ub else .bool false := by
  cases l <;> rfl
@[simp high] theorem leA_B {ids : List Nat} {x : A} (i : Nat) (l : List α) : leA ids x (B i l) = (x = .own (ids.getD i 0) 0 l.length l.length l.isEmpty ∨ (x = .sl true [] ∧ l = [])) := by
  unfold B
  cases l <;> cases x <;> simp [leA]
@[simp 20000] theorem leA_BB {ids : List Nat} (i j : Nat) (l : List α) (h : ids.getD j 0 = i) : leA ids (B i l) (B j l) = True := by
  subst h
  unfold B
  cases l <;> simp [leA]
@[simp high] theorem hasR_B {n : Nat} (i : Nat) (l : List α) : hasR n (B i l) = (i < n ∨ l = []) := by
  unfold B
  cases l <;> simp [hasR]
end

section
variable {α : Type} [Enc α]

/-- A slice that is read. -/
def Ls (f : Bool) (l : List α) : A := .sl f (l.map Enc.enc)
/-- Its row; what lies ahead of f is not written any more. -/
def RF (ty : TypeId) (l : List α) (f : Nat) : Row := if l.isEmpty then dead0 else ⟨ty, Enc.sz α, l.map Enc.enc, f, true⟩
/-- Its row, all of it read only. -/
abbrev RW (ty : TypeId) (l : List α) : Row := RF ty l l.length
theorem RF_ne {ty : TypeId} {l : List α} {f : Nat} (h : l ≠ []) : RF ty l f = ⟨ty, Enc.sz α, l.map Enc.enc, f, true⟩ := by
  unfold RF
  cases l with
  | nil => exact (h rfl).elim
  | cons x l => rfl
@[simp] theorem RF_nil (ty : TypeId) (f : Nat) : RF ty ([] : List α) f = dead0 := rfl
/-- Is this the row of the list? -/
def RowOf (o : Option Row) (ty : TypeId) (l : List α) : Prop := l = [] ∨ ∃ f, o = some ⟨ty, Enc.sz α, l.map Enc.enc, f, true⟩
@[simp] theorem RowOf_RF (ty : TypeId) (l : List α) (f : Nat) : RowOf (some (RF ty l f)) ty l = True := by
  refine eq_true ?_
  by_cases h : l = []
  · exact .inl h
  · exact .inr ⟨f, by rw [RF_ne h]⟩
@[simp] theorem RowOf_mk (ty ty' : TypeId) (sz : Nat) (es : List A) (f : Nat) (l : List α) (h1 : ty = ty') (h2 : sz = Enc.sz α) (h3 : es = l.map Enc.enc) : RowOf (some ⟨ty, sz, es, f, true⟩) ty' l = True := by
  subst h1 h2 h3
  exact eq_true (.inr ⟨f, rfl⟩)
def RowAny (o : Option Row) (l : List α) : Prop := ∃ ty, RowOf o ty l
@[simp] theorem RowAny_RF (ty : TypeId) (l : List α) (f : Nat) : RowAny (some (RF ty l f)) l = True := eq_true ⟨ty, by simp⟩
@[simp] theorem RowAny_mk (ty : TypeId) (sz : Nat) (es : List A) (f : Nat) (l : List α) (h2 : sz = Enc.sz α) (h3 : es = l.map Enc.enc) : RowAny (some ⟨ty, sz, es, f, true⟩) l = True := by
  subst h2 h3
  exact eq_true ⟨ty, .inr ⟨f, rfl⟩⟩
/-- The row of the list, or one that says more. -/
def RowLe (o : Option Row) (ty : TypeId) (l : List α) (f : Nat) : Prop := l = [] ∨ ∃ f', o = some ⟨ty, Enc.sz α, l.map Enc.enc, f', true⟩ ∧ f' ≤ f
@[simp] theorem RowLe_RF (ty : TypeId) (l : List α) (f f' : Nat) (h : f' ≤ f) : RowLe (some (RF ty l f')) ty l f = True := by
  refine eq_true ?_
  by_cases h0 : l = []
  · exact .inl h0
  · exact .inr ⟨f', by rw [RF_ne h0], h⟩
@[simp] theorem RowLe_mk (ty ty' : TypeId) (sz : Nat) (es : List A) (f f' : Nat) (l : List α) (h1 : ty = ty') (h2 : sz = Enc.sz α) (h3 : es = l.map Enc.enc) (h : f' ≤ f) : RowLe (some ⟨ty, sz, es, f', true⟩) ty' l f = True := by
  subst h1 h2 h3
  exact eq_true (.inr ⟨f', rfl, h⟩)
@[simp] theorem RowLe_nil (o : Option Row) (ty : TypeId) (f : Nat) : RowLe o ty ([] : List α) f = True := eq_true (.inl rfl)
@[simp] theorem RowOf_nil (o : Option Row) (ty : TypeId) : RowOf o ty ([] : List α) = True := eq_true (.inl rfl)
@[simp] theorem RowAny_nil (o : Option Row) : RowAny o ([] : List α) = True := eq_true ⟨0, .inl rfl⟩

@[simp] theorem Ls_nil (f : Bool) : Ls f ([] : List α) = .sl f [] := rfl
@[simp] theorem Ls_cons (f : Bool) (x : α) (l : List α) : Ls f (x :: l) = .sl f (Enc.enc x :: l.map Enc.enc) := rfl
@[simp] theorem Ls_noid (f : Bool) (l : List α) : (Ls f l).noid = true := rfl
@[simp] theorem Ls_nc (f : Bool) (l : List α) : (Ls f l).ncells = 1 := rfl
@[simp] theorem Ls_cells (f : Bool) (l : List α) : (Ls f l).cells = [Ls f l] := rfl
@[simp] theorem Ls_scal (f : Bool) (l : List α) : scal (Ls f l) = false := rfl
@[simp] theorem Ls_shp {P : Program} {t : TypeId} (f : Bool) (l : List α) : shp P t (Ls f l) = (!aggT P t && P.cellsOf t == 1) := rfl
@[simp] theorem wkL_enc (l : List α) : wkL (l.map Enc.enc) = l.map Enc.enc := by
  rw [wkL_map, List.map_map]
  exact List.map_congr_left fun x _ => Enc.wk x
@[simp] theorem Ls_wk (f : Bool) (l : List α) : wkA (Ls f l) = Ls false l := by
  show wkA (.sl f (l.map Enc.enc)) = .sl false (l.map Enc.enc)
  simp only [wkA, wkL_enc]
@[simp] theorem wk_map (f : Bool) (l : List α) : wkA (.sl f (l.map Enc.enc)) = Ls false l := Ls_wk f l
@[simp] theorem sl_eq_Ls (f g : Bool) (es : List A) (l : List α) : (A.sl f es = Ls g l) = (f = g ∧ es = l.map Enc.enc) := by
  unfold Ls; simp
@[simp] theorem Ls_eq_sl (f g : Bool) (es : List A) (l : List α) : (Ls g l = A.sl f es) = (g = f ∧ l.map Enc.enc = es) := by
  unfold Ls; simp
@[simp] theorem Ls_inj (f g : Bool) (l m : List α) (hi : Function.Injective (Enc.enc : α → A)) : (Ls f l = Ls g m) = (f = g ∧ l = m) := by
  apply propext
  constructor
  · intro h
    simp only [Ls, A.sl.injEq] at h
    exact ⟨h.1, List.map_inj_right (fun _ _ h => hi h) |>.1 h.2⟩
  · rintro ⟨rfl, rfl⟩; rfl

@[simp] theorem noidL_enc (l : List α) : noidL (l.map Enc.enc) = true := noidL_map _ Enc.noid l

@[simp high] theorem alen_Ls {P : Program} {t : TypeId} (f : Bool) (l : List α) (h : isSliceT P t = true) : alen P t (Ls f l) = some (.int .i64 l.length) := by
  unfold alen Ls
  rw [selem_eq h]
  simp
@[simp high] theorem aidx_Ls {P : Program} {H : List Row} {t : TypeId} (f : Bool) (l : List α) (k : IntKind) (n : Int) (h : isSliceT P t = true) (hc : P.cellsOf (selem P t) = Enc.sz α) :
    aidx P H t (Ls f l) (.int k n) = if 0 ≤ n then (l[n.toNat]?).map fun x => .ptr (Enc.enc x) else none := by
  unfold aidx Ls
  rw [selem_eq h]
  simp only [hc, List.length_map, List.getElem?_map]
  by_cases h0 : 0 ≤ n
  · rw [if_pos h0]
    cases hx : l[n.toNat]? with
    | none => simp
    | some x =>
      have hlt := (List.getElem?_eq_some_iff.1 hx).1
      have h1 : n < l.length := by omega
      rw [if_pos ⟨h0, h1, Enc.pos⟩]
      simp only [Option.map_some, Option.bind_some]
      rw [if_pos (Enc.nc x)]
  · rw [if_neg h0, if_neg (fun h => h0 h.1)]

/-- Is this a row of so many elements? -/
def RowN (o : Option Row) (ty : TypeId) (n sz : Nat) : Prop := n = 0 ∨ ∃ es f, o = some ⟨ty, sz, es, f, true⟩ ∧ es.length = n
@[simp] theorem RowN_RF (ty : TypeId) (l : List α) (f n sz : Nat) (h1 : sz = Enc.sz α) (h2 : l.length = n) : RowN (some (RF ty l f)) ty n sz = True := by
  subst h1 h2
  refine eq_true ?_
  by_cases h : l = []
  · exact .inl (by simp [h])
  · exact .inr ⟨_, f, by rw [RF_ne h], by simp⟩
@[simp] theorem RowN_mk (ty ty' : TypeId) (sz sz' : Nat) (es : List A) (f n : Nat) (h1 : ty = ty') (h2 : sz = sz') (h3 : es.length = n) : RowN (some ⟨ty, sz, es, f, true⟩) ty' n sz' = True := by
  subst h1 h2
  exact eq_true (.inr ⟨es, f, rfl, h3⟩)
@[simp] theorem RowN_zero (o : Option Row) (ty : TypeId) (sz : Nat) : RowN o ty 0 sz = True := eq_true (.inl rfl)
@[simp high] theorem aidx_B {P : Program} {H : List Row} {t : TypeId} (id : Nat) (l : List α) (k : IntKind) (n : Int) (h : isSliceT P t = true) (hr : RowN H[id]? (selem P t) l.length (Enc.sz α)) :
    aidx P H t (B id l) (.int k n) = if 0 ≤ n ∧ n < l.length then some (.pto id (Enc.sz α) n.toNat 0) else none := by
  unfold aidx B
  rw [selem_eq h]
  by_cases hn : 0 ≤ n ∧ n < l.length
  · rcases hr with hr | ⟨es, f, hr, he⟩
    · omega
    · simp [hr, hn, he]
  · rw [if_neg hn]
    cases hq : H[id]? with
    | none => simp only [hq, Option.bind_none]
    | some r =>
      simp only [hq, Option.bind_some]
      rw [if_neg (fun h => hn ⟨h.2.2.1, h.2.2.2⟩)]

@[simp high] theorem asrc_Ls {P : Program} {H : List Row} {e : TypeId} (f : Bool) (l : List α) (hs : ∀ x : α, shp P e (Enc.enc x) = true) : asrc P H e (Ls f l) = some (l.map Enc.enc) := by
  unfold asrc Ls
  simp only
  rw [if_pos]
  rw [List.all_eq_true]
  intro x hx
  obtain ⟨y, _, rfl⟩ := List.mem_map.1 hx
  exact hs y

@[simp high] theorem asrc_B {P : Program} {H : List Row} {e : TypeId} (id : Nat) (l : List α) (hr : RowOf H[id]? e l) : asrc P H e (B id l) = some (l.map Enc.enc) := by
  unfold asrc B
  rcases hr with rfl | ⟨f, hr⟩
  · rfl
  · cases l with
    | nil => rfl
    | cons x l =>
      simp only [hr, Option.bind_some]
      simp [List.take_of_length_le]

@[simp high] theorem agrow_Ls {P : Program} {H : List Row} {e : TypeId} (f : Bool) (l : List α) (olds news : List A) : agrow P H e (Ls f l) olds news =
    if news.length = 0 then some (Ls f l, H) else if f then some (.own H.length 0 (olds.length + news.length) (olds.length + news.length) false, H ++ [⟨e, P.cellsOf e, olds ++ news, 0, true⟩]) else none := rfl

theorem agrow_BF {P : Program} {H : List Row} {e : TypeId} (id : Nat) (l : List α) (f : Nat) (news : List A) (hr : H[id]? = some (RF e l f)) (hf : f ≤ l.length) : agrow P H e (B id l) (l.map Enc.enc) news =
    if news.length = 0 then some (B id l, H) else some (.own H.length 0 (l.length + news.length) (l.length + news.length) false, H.set id dead0 ++ [⟨e, P.cellsOf e, l.map Enc.enc ++ news, f, true⟩]) := by
  unfold agrow B
  by_cases h0 : news.length = 0
  · simp only [h0, if_true]
  · simp only [h0, if_false, List.length_map]
    cases l with
    | nil => simp at hf; subst hf; simp
    | cons x l =>
      have hn : ¬ (news.length = 0) := h0
      rw [RF_ne (by simp)] at hr
      simp only [hr, Option.bind_some]
      have : ¬ (l.length + 1 + news.length ≤ l.length + 1) := by omega
      simp [this]
      simpa using hf
@[simp high] theorem agrow_B {P : Program} {H : List Row} {e : TypeId} (id : Nat) (l : List α) (news : List A) (hr : H[id]? = some (RF e l l.length)) : agrow P H e (B id l) (l.map Enc.enc) news =
    if news.length = 0 then some (B id l, H) else some (.own H.length 0 (l.length + news.length) (l.length + news.length) false, H.set id dead0 ++ [⟨e, P.cellsOf e, l.map Enc.enc ++ news, l.length, true⟩]) := agrow_BF id l _ news hr (Nat.le_refl _)
@[simp high] theorem agrow_B0 {P : Program} {H : List Row} {e : TypeId} (id : Nat) (l : List α) (news : List A) (hr : H[id]? = some (RF e l 0)) : agrow P H e (B id l) (l.map Enc.enc) news =
    if news.length = 0 then some (B id l, H) else some (.own H.length 0 (l.length + news.length) (l.length + news.length) false, H.set id dead0 ++ [⟨e, P.cellsOf e, l.map Enc.enc ++ news, 0, true⟩]) := agrow_BF id l _ news hr (Nat.zero_le _)

/-- What comes may be nothing: one form for all. -/
theorem agrowT_BF {P : Program} {H : List Row} {e : TypeId} (id : Nat) (l m : List α) (f : Nat) (hr : H[id]? = some (RF e l f)) (hf : f ≤ l.length) (hc : P.cellsOf e = Enc.sz α) : agrowT P H e (B id l) (l.map Enc.enc) (m.map Enc.enc) =
    some (B H.length (l ++ m), H.set id dead0 ++ [RF e (l ++ m) f]) := by
  unfold agrowT
  cases m with
  | nil =>
    simp only [List.map_nil, agrow_BF id l f [] hr hf, List.length_nil, if_true, Option.map_some, List.append_nil]
    cases l with
    | nil => simp [B, renum]
    | cons x l =>
      rw [RF_ne (by simp)] at hr ⊢
      simp [B, renum, hr]
  | cons y m =>
    rw [RF_ne (by simp)]
    simp only [List.map_cons]
    rw [agrow_BF id l f _ hr hf]
    simp [B, hc]
@[simp high] theorem agrowT_BL {P : Program} {H : List Row} {e : TypeId} (id : Nat) (l m : List α) (hr : H[id]? = some (RF e l l.length)) (hc : P.cellsOf e = Enc.sz α) : agrowT P H e (B id l) (l.map Enc.enc) (m.map Enc.enc) =
    some (B H.length (l ++ m), H.set id dead0 ++ [RF e (l ++ m) l.length]) := agrowT_BF id l m _ hr (Nat.le_refl _) hc
@[simp high] theorem agrowT_B0 {P : Program} {H : List Row} {e : TypeId} (id : Nat) (l m : List α) (hr : H[id]? = some (RF e l 0)) (hc : P.cellsOf e = Enc.sz α) : agrowT P H e (B id l) (l.map Enc.enc) (m.map Enc.enc) =
    some (B H.length (l ++ m), H.set id dead0 ++ [RF e (l ++ m) 0]) := agrowT_BF id l m _ hr (Nat.zero_le _) hc
@[simp high] theorem agrowT_B2 {P : Program} {H : List Row} {e : TypeId} (id : Nat) (l k m : List α) (hr : H[id]? = some (RF e (l ++ k) l.length)) (hc : P.cellsOf e = Enc.sz α) : agrowT P H e (B id (l ++ k)) ((l ++ k).map Enc.enc) (m.map Enc.enc) =
    some (B H.length (l ++ k ++ m), H.set id dead0 ++ [RF e (l ++ k ++ m) l.length]) := agrowT_BF id (l ++ k) m _ hr (by simp) hc
@[simp high] theorem agrowT_B2' {P : Program} {H : List Row} {e : TypeId} (id : Nat) (l k m : List α) (hr : H[id]? = some (RF e (l ++ k) l.length)) (hc : P.cellsOf e = Enc.sz α) : agrowT P H e (B id (l ++ k)) (l.map Enc.enc ++ k.map Enc.enc) (m.map Enc.enc) =
    some (B H.length (l ++ k ++ m), H.set id dead0 ++ [RF e (l ++ k ++ m) l.length]) := by rw [← List.map_append]; exact agrowT_B2 id l k m hr hc
@[simp high] theorem agrowT_B02 {P : Program} {H : List Row} {e : TypeId} (id : Nat) (l k m : List α) (hr : H[id]? = some (RF e (l ++ k) 0)) (hc : P.cellsOf e = Enc.sz α) : agrowT P H e (B id (l ++ k)) (l.map Enc.enc ++ k.map Enc.enc) (m.map Enc.enc) =
    some (B H.length (l ++ k ++ m), H.set id dead0 ++ [RF e (l ++ k ++ m) 0]) := by rw [← List.map_append]; exact agrowT_BF id (l ++ k) m _ hr (Nat.zero_le _) hc
@[simp high] theorem agrowT_own0 {P : Program} {H : List Row} {e : TypeId} (id : Nat) (m : List α) (hc : P.cellsOf e = Enc.sz α) : agrowT P H e (.own id 0 0 0 true) [] (m.map Enc.enc) =
    some (B H.length m, H.set id dead0 ++ [RF e m 0]) := by
  cases m with
  | nil => simp [agrowT, B, renum, RF]
  | cons y m =>
    rw [RF_ne (by simp)]
    simp [agrowT, B, hc]
@[simp high] theorem agrowT_sl0 {P : Program} {H : List Row} {e : TypeId} (m : List α) (hc : P.cellsOf e = Enc.sz α) : agrowT P H e (.sl true []) [] (m.map Enc.enc) =
    some (B H.length m, H ++ [RF e m 0]) := by
  cases m with
  | nil => simp [agrowT, B, renum, RF]
  | cons y m =>
    rw [RF_ne (by simp)]
    simp [agrowT, B, hc]
@[simp high] theorem agrowT_BLn {P : Program} {H : List Row} {e : TypeId} (id : Nat) (l : List α) (hr : H[id]? = some (RF e l l.length)) (hc : P.cellsOf e = Enc.sz α) : agrowT P H e (B id l) (l.map Enc.enc) [] =
    some (B H.length l, H.set id dead0 ++ [RF e l l.length]) := by have := agrowT_BF (P := P) id l [] _ hr (Nat.le_refl _) hc; simpa using this
@[simp high] theorem agrowT_B0n {P : Program} {H : List Row} {e : TypeId} (id : Nat) (l : List α) (hr : H[id]? = some (RF e l 0)) (hc : P.cellsOf e = Enc.sz α) : agrowT P H e (B id l) (l.map Enc.enc) [] =
    some (B H.length l, H.set id dead0 ++ [RF e l 0]) := by have := agrowT_BF (P := P) id l [] _ hr (Nat.zero_le _) hc; simpa using this
@[simp] theorem renum_sl0 (H : List Row) : renum H (.sl true []) = some (.own H.length 0 0 0 true, H ++ [dead0]) := rfl
@[simp] theorem renum_slf (H : List Row) (es : List A) : renum H (.sl false es) = none := by cases es <;> rfl
@[simp] theorem renum_slc (H : List Row) (f : Bool) (x : A) (es : List A) : renum H (.sl f (x :: es)) = none := by cases f <;> rfl
@[simp] theorem renum_own0 (H : List Row) (id : Nat) : renum H (.own id 0 0 0 true) = some (.own H.length 0 0 0 true, H.set id dead0 ++ [dead0]) := rfl
@[simp] theorem renum_own1 (H : List Row) (id off len cb : Nat) : renum H (.own id off len cb false) = if off = 0 ∧ cb = len then (H[id]?).bind fun r => if r.live = true ∧ r.es.length = len then some (.own H.length 0 len len false, H.set id dead0 ++ [r]) else none else none := by
  unfold renum
  split <;> simp_all
@[simp] theorem renum_owns (H : List Row) (id off len cb : Nat) : renum H (.own id off (len + 1) cb true) = none := by cases off <;> rfl
@[simp] theorem agrowT_nil {P : Program} {H : List Row} {e : TypeId} (s : A) (olds : List A) : agrowT P H e s olds [] = (agrow P H e s olds []).map fun y => (renum y.2 y.1).getD y := rfl
@[simp] theorem agrowT_cons {P : Program} {H : List Row} {e : TypeId} (s : A) (olds : List A) (n : A) (ns : List A) : agrowT P H e s olds (n :: ns) = agrow P H e s olds (n :: ns) := rfl
@[simp] theorem agrowT_ne {P : Program} {H : List Row} {e : TypeId} (s : A) (olds : List A) (ns : List A) (h : ns ≠ []) : agrowT P H e s olds ns = agrow P H e s olds ns := by
  cases ns with
  | nil => exact (h rfl).elim
  | cons n ns => rfl

@[simp high] theorem resA_B {P : Program} {H : List Row} (n : Nat) (id : Nat) (l : List α) (hr : RowAny H[id]? l) : resA P H (n + 1) (B id l) = some (Ls false l) := by
  obtain ⟨e, hr⟩ := hr
  unfold B
  rw [resA_own0]
  cases l with
  | nil => simp
  | cons x l =>
    rcases hr with hr | ⟨f, hr⟩
    · cases hr
    have hn : noidL ((x :: l).map Enc.enc) = true := noidL_enc (x :: l)
    rw [if_neg (by simp), hr]
    simp only [Option.bind_some]
    rw [if_pos ⟨trivial, by simp⟩, cut_all _ _ (by simp), hn]
    simp

@[simp high] theorem resA_Ls {P : Program} {H : List Row} (n : Nat) (f : Bool) (l : List α) : resA P H (n + 1) (Ls f l) = some (Ls f l) := by
  rfl

@[simp high] theorem aslice_Ls {P : Program} {t : TypeId} (f : Bool) (l : List α) (lo hi mx : Option A) (h : isSliceT P t = true) (hc : P.cellsOf (selem P t) = Enc.sz α) :
    aslice P t (Ls f l) lo hi mx = (abnd lo 0).bind fun a => (abnd hi l.length).bind fun b => (abnd mx l.length).bind fun m =>
      if a ≤ b ∧ b ≤ m ∧ m ≤ l.length ∧ (mx.isSome → hi.isSome) then some (Ls (if mx.isSome then m == b else f && b == l.length) ((l.drop a).take (b - a))) else none := by
  unfold aslice Ls
  rw [selem_eq h]
  have hp : (Enc.sz α) ≠ 0 := Enc.pos
  simp only [hc, List.length_map]
  congr 1; funext a; congr 1; funext b; congr 1; funext m
  have hall : (l.map Enc.enc).all (fun x => x.ncells == Enc.sz α) = true := by
    rw [List.all_eq_true]
    intro x hx
    obtain ⟨y, _, rfl⟩ := List.mem_map.1 hx
    exact beq_iff_eq.2 (Enc.nc y)
  simp only [hall, or_true, and_true, ne_eq, hp, not_false_eq_true, true_and]
  by_cases hc : a ≤ b ∧ b ≤ m ∧ m ≤ l.length ∧ (mx.isSome = true → hi.isSome = true)
  · rw [if_pos hc, if_pos hc]
    simp [List.map_take, List.map_drop]
  · rw [if_neg hc, if_neg hc]

@[simp high] theorem ownOK_Ls {P : Program} {H : List Row} {t : TypeId} (f : Bool) (l : List α) : ownOK P H t (Ls f l) = true := rfl

@[simp high] theorem nilB_Ls (f : Bool) (l : List α) : (Ls f l).nilB = if l.isEmpty then .ub else .bool false := by
  cases l <;> rfl
@[simp] theorem noidL_take_enc (l : List α) (n : Nat) : noidL ((l.map Enc.enc).take n) = true := noidL_take (noidL_enc l) n
@[simp] theorem noidL_drop_enc (l : List α) (n : Nat) : noidL ((l.map Enc.enc).drop n) = true := noidL_drop (noidL_enc l) n

/-- Lists in lists. -/
instance instEncList : Enc (List α) := ⟨Ls false, 1, fun _ => rfl, fun l => Ls_wk false l, fun _ => rfl, by decide⟩
@[simp] theorem enc_list (l : List α) : Enc.enc l = Ls false l := rfl
@[simp] theorem sz_list : Enc.sz (List α) = 1 := rfl

/-! At the head of a loop. -/
theorem leA_refl {ids : List Nat} : ∀ {x : A}, x.noid = true → leA ids x x := by
  intro x
  refine A.rec (motive_1 := fun x => x.noid = true → leA ids x x) (motive_2 := fun xs => noidL xs = true → leL ids xs xs) ?_ ?_ ?_ ?_ ?_ ?_ ?_ ?_ ?_ ?_ ?_ ?_ ?_ ?_ ?_ ?_ ?_ x
  all_goals (intros; simp_all [leA, leL, A.noid, noidL])

theorem leL_refl {ids : List Nat} : ∀ {xs : List A}, noidL xs = true → leL ids xs xs
  | [], _ => by simp [leL]
  | x :: xs, h => by simp [noidL] at h; simp [leL, leA_refl h.1, leL_refl h.2]

@[simp high] theorem leA_Ls {ids : List Nat} {x : A} (f : Bool) (l : List α) : leA ids x (Ls f l) = (x = Ls f l ∨ (f = false ∧ x = Ls true l)) := by
  unfold Ls
  cases x <;> simp [leA]

@[simp high] theorem hasR_Ls {n : Nat} (f : Bool) (l : List α) : hasR n (Ls f l) = True := by unfold Ls; simp [hasR]
theorem enc_any (x : α) : Enc.enc x ≠ A.any := by
  intro h
  have := Enc.nc x
  rw [h] at this
  exact Enc.pos this.symm

@[simp] theorem enc_any_iff (x : α) : (Enc.enc x = A.any) = False := eq_false (enc_any x)

@[simp] theorem isAny_enc (x : α) : isAny (Enc.enc x) = false := by
  cases h : Enc.enc x <;> first | rfl | exact (enc_any x h).elim
@[simp] theorem noany_enc (l : List α) : noany (l.map Enc.enc) = true := by
  induction l with
  | nil => rfl
  | cons x l ih => simp only [List.map_cons, noany, isAny_enc, ih]; rfl
@[simp] theorem noany_take (l : List α) (n : Nat) : noany ((l.map Enc.enc).take n) = true := by rw [← List.map_take]; exact noany_enc _
@[simp] theorem noany_drop (l : List α) (n : Nat) : noany ((l.map Enc.enc).drop n) = true := by rw [← List.map_drop]; exact noany_enc _

theorem hasRL_noid : ∀ {n : Nat} {xs : List A}, noidL xs = true → hasRL n xs := by
  intro n xs
  have one : ∀ x : A, x.noid = true → hasR n x := by
    intro x
    refine A.rec (motive_1 := fun x => x.noid = true → hasR n x) (motive_2 := fun xs => noidL xs = true → hasRL n xs) ?_ ?_ ?_ ?_ ?_ ?_ ?_ ?_ ?_ ?_ ?_ ?_ ?_ ?_ ?_ ?_ ?_ x
    all_goals (intros; simp_all [hasR, hasRL, A.noid, noidL])
  induction xs with
  | nil => intro _; simp [hasRL]
  | cons x xs ih => intro h; simp [noidL] at h; simp [hasRL, one x h.1, ih h.2]

/-- A row of a slice that grows, out of an older row. -/
@[simp high] theorem leRow_RF {ids : List Nat} {n : Nat} {H : List Row} {j : Nat} (ty : TypeId) (l : List α) (f : Nat)
    (h : RowLe H[j]? ty l f) : leRow ids n H j (RF ty l f) = True := by
  refine eq_true ?_
  rcases h with rfl | ⟨f', h1, h2⟩
  · exact .inl rfl
  · by_cases h0 : l = []
    · subst h0; exact .inl rfl
    · rw [RF_ne h0]
      exact .inr (.inl ⟨_, h1, rfl, rfl, rfl, h2, leL_refl (noidL_enc l), hasRL_noid (noidL_enc l), noany_enc l, Enc.pos⟩)
end

@[simp high] theorem frzR_RF {α : Type} [Enc α] (ty : TypeId) (l : List α) (f : Nat) : frzR (RF ty l f) = RF ty l (max f l.length) := by
  unfold RF
  cases l with
  | nil => rfl
  | cons x l => simp

attribute [simp] leL hasR hasRL leRows dead0
section
variable {ids : List Nat}
@[simp] theorem leA_any' (x : A) : leA ids x .any = True := by cases x <;> simp [leA]
@[simp] theorem leA_own' (x : A) (i off len cb : Nat) (ex : Bool) : leA ids x (.own i off len cb ex) = (x = .own (ids.getD i 0) off len cb ex ∨ (x = .sl true [] ∧ len = 0 ∧ cb = 0 ∧ ex = true)) := by cases x <;> simp [leA]
@[simp] theorem leA_pto' (x : A) (i sz j co : Nat) : leA ids x (.pto i sz j co) = (x = .pto (ids.getD i 0) sz j co) := by cases x <;> simp [leA]
@[simp] theorem leA_sl' (x : A) (f : Bool) (es : List A) : leA ids x (.sl f es) = (x = .sl f es ∨ (f = false ∧ x = .sl true es)) := by cases x <;> simp [leA]
@[simp] theorem leA_agg' (cs ds : List A) : leA ids (.agg cs) (.agg ds) = leL ids cs ds := by simp [leA]
@[simp] theorem leA_tup' (cs ds : List A) : leA ids (.tup cs) (.tup ds) = leL ids cs ds := by simp [leA]
@[simp] theorem leA_fn' (f g : FuncId) (cs ds : List A) : leA ids (.fn f cs) (.fn g ds) = (f = g ∧ leL ids cs ds) := by simp [leA]
@[simp] theorem leA_ub' : leA ids .ub .ub = True := by simp [leA]
@[simp] theorem leA_bu' (b : Bool) : leA ids (.bool b) .ub = True := by simp [leA]
@[simp] theorem leA_int' (x : A) (k : IntKind) (n : Int) : leA ids x (.int k n) = (x = .int k n) := by cases x <;> simp [leA]
@[simp] theorem leA_bool' (x : A) (b : Bool) : leA ids x (.bool b) = (x = .bool b) := by cases x <;> simp [leA]
@[simp] theorem leA_str' (x : A) (l : List UInt8) : leA ids x (.str l) = (x = .str l) := by cases x <;> simp [leA]
@[simp] theorem leA_ptr' (x d : A) : leA ids x (.ptr d) = (x = .ptr d) := by cases x <;> simp [leA]
@[simp] theorem leA_nptr' (x : A) : leA ids x .nptr = (x = .nptr) := by cases x <;> simp [leA]
@[simp] theorem leA_nfn' (x : A) : leA ids x .nfn = (x = .nfn) := by cases x <;> simp [leA]
end
section
variable {α : Type} [Enc α] {P : Program}
theorem aload_at {H : List Row} (id : Nat) (ty t : TypeId) (l : List α) (f j : Nat) (hr : H[id]? = some (RF ty l f)) (hu : hasU P t = true) (hc : P.cellsOf t = Enc.sz α) (hs : ∀ x : α, shp P t (Enc.enc x) = true) : aload P H t (.pto id (Enc.sz α) j 0) = (l[j]?).map Enc.enc := by
  unfold aload
  rw [if_pos ⟨by rw [hc]; exact Enc.pos, hu⟩]
  by_cases h0 : l = []
  · subst h0
    simp [hr, dead0]
  · rw [RF_ne h0] at hr
    simp only [hr, Option.bind_some]
    rw [if_pos ⟨trivial, trivial⟩]
    simp only [List.getElem?_map]
    cases hx : l[j]? with
    | none => simp
    | some x =>
      simp only [Option.map_some, Option.bind_some]
      rw [if_pos ⟨trivial, hs x⟩]
end
section
variable {α : Type} [Enc α] {P : Program}
@[simp high] theorem aload_RF0 (H : List Row) (ty t : TypeId) (l : List α) (f j sz : Nat) (hz : sz = Enc.sz α) (hu : hasU P t = true) (hc : P.cellsOf t = Enc.sz α) (hs : ∀ x : α, shp P t (Enc.enc x) = true) : aload P (RF ty l f :: H) t (.pto 0 sz j 0) = (l[j]?).map Enc.enc := by subst hz; exact aload_at 0 ty t l f j rfl hu hc hs
@[simp high] theorem aload_RF1 (r0 : Row) (H : List Row) (ty t : TypeId) (l : List α) (f j sz : Nat) (hz : sz = Enc.sz α) (hu : hasU P t = true) (hc : P.cellsOf t = Enc.sz α) (hs : ∀ x : α, shp P t (Enc.enc x) = true) : aload P (r0 :: RF ty l f :: H) t (.pto 1 sz j 0) = (l[j]?).map Enc.enc := by subst hz; exact aload_at 1 ty t l f j rfl hu hc hs
@[simp high] theorem aload_RF2 (r0 r1 : Row) (H : List Row) (ty t : TypeId) (l : List α) (f j sz : Nat) (hz : sz = Enc.sz α) (hu : hasU P t = true) (hc : P.cellsOf t = Enc.sz α) (hs : ∀ x : α, shp P t (Enc.enc x) = true) : aload P (r0 :: r1 :: RF ty l f :: H) t (.pto 2 sz j 0) = (l[j]?).map Enc.enc := by subst hz; exact aload_at 2 ty t l f j rfl hu hc hs
@[simp high] theorem aload_RF3 (r0 r1 r2 : Row) (H : List Row) (ty t : TypeId) (l : List α) (f j sz : Nat) (hz : sz = Enc.sz α) (hu : hasU P t = true) (hc : P.cellsOf t = Enc.sz α) (hs : ∀ x : α, shp P t (Enc.enc x) = true) : aload P (r0 :: r1 :: r2 :: RF ty l f :: H) t (.pto 3 sz j 0) = (l[j]?).map Enc.enc := by subst hz; exact aload_at 3 ty t l f j rfl hu hc hs
@[simp high] theorem aload_RF4 (r0 r1 r2 r3 : Row) (H : List Row) (ty t : TypeId) (l : List α) (f j sz : Nat) (hz : sz = Enc.sz α) (hu : hasU P t = true) (hc : P.cellsOf t = Enc.sz α) (hs : ∀ x : α, shp P t (Enc.enc x) = true) : aload P (r0 :: r1 :: r2 :: r3 :: RF ty l f :: H) t (.pto 4 sz j 0) = (l[j]?).map Enc.enc := by subst hz; exact aload_at 4 ty t l f j rfl hu hc hs
@[simp high] theorem aload_RF5 (r0 r1 r2 r3 r4 : Row) (H : List Row) (ty t : TypeId) (l : List α) (f j sz : Nat) (hz : sz = Enc.sz α) (hu : hasU P t = true) (hc : P.cellsOf t = Enc.sz α) (hs : ∀ x : α, shp P t (Enc.enc x) = true) : aload P (r0 :: r1 :: r2 :: r3 :: r4 :: RF ty l f :: H) t (.pto 5 sz j 0) = (l[j]?).map Enc.enc := by subst hz; exact aload_at 5 ty t l f j rfl hu hc hs
end
@[simp] theorem leRow_mk (ids : List Nat) (n : Nat) (H : List Row) (j : Nat) (ty : TypeId) (sz : Nat) (es : List A) (f : Nat) (l : Bool) : leRow ids n H j ⟨ty, sz, es, f, l⟩ =
    (l = false ∨ (∃ x, H[j]? = some x ∧ x.live = true ∧ x.ty = ty ∧ x.sz = sz ∧ x.f ≤ f ∧ leL ids x.es es ∧ hasRL n es ∧ noany es = true ∧ sz ≠ 0) ∨ (sz = 0 ∧ H[j]? = some ⟨ty, sz, es, f, l⟩)) := rfl
/-- A row that stays as it is. -/
@[simp high] theorem leRow_same {ids : List Nat} {n : Nat} {H : List Row} {j : Nat} (ty : TypeId) (sz : Nat) (es : List A) (f : Nat) (h : ∃ f', H[j]? = some ⟨ty, sz, es, f', true⟩ ∧ f' ≤ f) (hn : noidL es = true) (ha : noany es = true) (hz : sz ≠ 0) : leRow ids n H j ⟨ty, sz, es, f, true⟩ = True := by
  obtain ⟨f', h1, h2⟩ := h
  exact eq_true (.inr (.inl ⟨_, h1, rfl, rfl, rfl, h2, leL_refl hn, hasRL_noid hn, ha, hz⟩))

/-- A made slice, all its room in use. -/
theorem amake2_enc {α : Type} [Enc α] {P : Program} {H : List Row} {t : TypeId} (z : α) (bytes : Nat) (n : Int) (ht : isSliceT P t = true) (hz : zbox P (selem P t) = some (Enc.enc z, bytes)) (hc : P.cellsOf (selem P t) = Enc.sz α) (hs : shp P (selem P t) (Enc.enc z) = true) :
    amake2 P H t (.int .i64 n) (.int .i64 n) = if 0 ≤ n ∧ n ≤ 9223372036854775807 ∧ bytes * n ≤ 281474976710656 then some (B H.length (List.replicate n.toNat z), H ++ [RF (selem P t) (List.replicate n.toNat z) 0]) else none := by
  have hp : Enc.sz α ≠ 0 := Enc.pos
  unfold amake2
  simp only [if_true]
  unfold amake
  rw [selem_eq ht]
  simp only [hz, hc, hs, ne_eq, hp, not_false_eq_true, true_and, Int.le_refl]
  by_cases hn : 0 ≤ n ∧ n ≤ 9223372036854775807 ∧ bytes * n ≤ 281474976710656
  · rw [if_pos ⟨hn.1, hn.2.1, hn.2.2⟩, if_pos hn]
    simp only [Option.bind_some]
    by_cases h0 : n.toNat = 0
    · rw [if_pos h0, h0]
      simp [B]
    · rw [if_neg h0]
      have he : (List.replicate n.toNat z) ≠ [] := by simpa using h0
      rw [RF_ne he]
      have hb : (List.replicate n.toNat z).isEmpty = false := by rw [List.isEmpty_eq_false_iff]; exact he
      unfold B
      simp only [hb, List.length_replicate, List.map_replicate]
  · rw [if_neg hn, if_neg]
    · rfl
    · rintro ⟨h1, h2, h3⟩; exact hn ⟨h1, h2, h3⟩
@[simp] theorem amake2_int {P : Program} {H : List Row} {t : TypeId} (n : Int) (ht : isSliceT P t = true) (hz : zbox P (selem P t) = some (.int .i64 0, 8)) (hc : P.cellsOf (selem P t) = 1) (ha : aggT P (selem P t) = false) :
    amake2 P H t (.int .i64 n) (.int .i64 n) = if 0 ≤ n ∧ n ≤ 9223372036854775807 ∧ 8 * n ≤ 281474976710656 then some (B H.length (List.replicate n.toNat (0 : Int)), H ++ [RF (selem P t) (List.replicate n.toNat (0 : Int)) 0]) else none :=
  amake2_enc (α := Int) 0 8 n ht hz hc (by simp [shp, ha, hc])
end Go.AL
