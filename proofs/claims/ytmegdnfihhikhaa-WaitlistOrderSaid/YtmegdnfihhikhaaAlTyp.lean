/- An abstract layer over the walk, 13c: lists of a type of Lean's as slices. No program in sight. -/
import Derived.Test.YtmegdnfihhikhaaAlRen
namespace Go.AL

/-- How a value of a type lies in memory. -/
class Enc (α : Type) where
  enc : α → A
  sz : Nat
  noid : ∀ x, (enc x).noid = true
  wk : ∀ x, wkA (enc x) = enc x
  nc : ∀ x, (enc x).ncells = sz
  pos : sz ≠ 0

instance : Enc Int := ⟨A.int .i64, 1, fun _ => rfl, fun _ => by simp, fun _ => rfl, by decide⟩
instance : Enc Bool := ⟨A.bool, 1, fun _ => rfl, fun _ => by simp, fun _ => rfl, by decide⟩
instance : Enc (List UInt8) := ⟨A.str, 1, fun _ => rfl, fun _ => by simp, fun _ => rfl, by decide⟩
@[simp] theorem enc_int (n : Int) : Enc.enc n = A.int .i64 n := rfl
@[simp] theorem enc_bool (b : Bool) : Enc.enc b = A.bool b := rfl
@[simp] theorem enc_str (l : List UInt8) : Enc.enc l = A.str l := rfl
@[simp] theorem sz_int : Enc.sz Int = 1 := rfl
@[simp] theorem sz_bool : Enc.sz Bool = 1 := rfl
@[simp] theorem sz_str : Enc.sz (List UInt8) = 1 := rfl

/-- A slice that grows: all of a row. -/
def B {α : Type} (id : Nat) (l : List α) : A := .own id 0 l.length l.length l.isEmpty

section
variable {α : Type}
@[simp] theorem B_noid (id : Nat) (l : List α) : (B id l).noid = false := rfl
@[simp] theorem B_nc (id : Nat) (l : List α) : (B id l).ncells = 1 := rfl
@[simp] theorem B_cells (id : Nat) (l : List α) : (B id l).cells = [B id l] := rfl
@[simp] theorem B_scal (id : Nat) (l : List α) : scal (B id l) = false := rfl
@[simp] theorem B_shp {P : Program} {t : TypeId} (id : Nat) (l : List α) : shp P t (B id l) = (!aggT P t && P.cellsOf t == 1) := rfl
@[simp] theorem B_wk (id : Nat) (l : List α) : wkA (B id l) = B id l := by unfold B; simp only [wkA]
@[simp high] theorem alen_B {P : Program} {t : TypeId} (id : Nat) (l : List α) (h : isSliceT P t = true) : alen P t (B id l) = some (.int .i64 l.length) := by
  unfold alen B
  rw [selem_eq h]
@[simp high] theorem nilB_B (id : Nat) (l : List α) : (B id l).nilB = if l.isEmpty then .ub else .bool false := by
  cases l <;> rfl
@[simp high] theorem leA_B {ids : List Nat} {x : A} (i : Nat) (l : List α) : leA ids x (B i l) = (x = .own (ids.getD i 0) 0 l.length l.length l.isEmpty ∨ (x = .sl true [] ∧ l = [])) := by
  unfold B
  cases l <;> cases x <;> simp [leA]
@[simp high] theorem hasR_B {n : Nat} (i : Nat) (l : List α) : hasR n (B i l) = (i < n ∨ l = []) := by
  unfold B
  cases l <;> simp [hasR]
end

section
variable {α : Type} [Enc α]

/-- A slice that is read. -/
def Ls (f : Bool) (l : List α) : A := .sl f (l.map Enc.enc)
/-- Its row. -/
def RW (ty : TypeId) (l : List α) : Row := if l.isEmpty then dead0 else ⟨ty, Enc.sz α, l.map Enc.enc, l.length, true⟩

@[simp] theorem Ls_nil (f : Bool) : Ls f ([] : List α) = .sl f [] := rfl
@[simp] theorem Ls_cons (f : Bool) (x : α) (l : List α) : Ls f (x :: l) = .sl f (Enc.enc x :: l.map Enc.enc) := rfl
@[simp] theorem Ls_noid (f : Bool) (l : List α) : (Ls f l).noid = true := rfl
@[simp] theorem Ls_nc (f : Bool) (l : List α) : (Ls f l).ncells = 1 := rfl
@[simp] theorem Ls_cells (f : Bool) (l : List α) : (Ls f l).cells = [Ls f l] := rfl
@[simp] theorem Ls_scal (f : Bool) (l : List α) : scal (Ls f l) = false := rfl
@[simp] theorem Ls_shp {P : Program} {t : TypeId} (f : Bool) (l : List α) : shp P t (Ls f l) = (!aggT P t && P.cellsOf t == 1) := rfl
@[simp] theorem wkL_enc (l : List α) : wkL (l.map Enc.enc) = l.map Enc.enc := by
  rw [wkL_map, List.map_map]
  exact List.map_congr_left fun x _ => Enc.wk x
@[simp] theorem Ls_wk (f : Bool) (l : List α) : wkA (Ls f l) = Ls false l := by
  show wkA (.sl f (l.map Enc.enc)) = .sl false (l.map Enc.enc)
  simp only [wkA, wkL_enc]
@[simp] theorem wk_map (f : Bool) (l : List α) : wkA (.sl f (l.map Enc.enc)) = Ls false l := Ls_wk f l
@[simp] theorem sl_eq_Ls (f g : Bool) (es : List A) (l : List α) : (A.sl f es = Ls g l) = (f = g ∧ es = l.map Enc.enc) := by
  unfold Ls; simp
@[simp] theorem Ls_eq_sl (f g : Bool) (es : List A) (l : List α) : (Ls g l = A.sl f es) = (g = f ∧ l.map Enc.enc = es) := by
  unfold Ls; simp
@[simp] theorem Ls_inj (f g : Bool) (l m : List α) (hi : Function.Injective (Enc.enc : α → A)) : (Ls f l = Ls g m) = (f = g ∧ l = m) := by
  apply propext
  constructor
  · intro h
    simp only [Ls, A.sl.injEq] at h
    exact ⟨h.1, List.map_inj_right (fun _ _ h => hi h) |>.1 h.2⟩
  · rintro ⟨rfl, rfl⟩; rfl

@[simp] theorem noidL_enc (l : List α) : noidL (l.map Enc.enc) = true := noidL_map _ Enc.noid l

@[simp high] theorem alen_Ls {P : Program} {t : TypeId} (f : Bool) (l : List α) (h : isSliceT P t = true) : alen P t (Ls f l) = some (.int .i64 l.length) := by
  unfold alen Ls
  rw [selem_eq h]
  simp
@[simp high] theorem aidx_Ls {P : Program} {H : List Row} {t : TypeId} (f : Bool) (l : List α) (k : IntKind) (n : Int) (h : isSliceT P t = true) (hc : P.cellsOf (selem P t) = Enc.sz α) :
    aidx P H t (Ls f l) (.int k n) = if 0 ≤ n then (l[n.toNat]?).map fun x => .ptr (Enc.enc x) else none := by
  unfold aidx Ls
  rw [selem_eq h]
  simp only [hc, List.length_map, List.getElem?_map]
  by_cases h0 : 0 ≤ n
  · rw [if_pos h0]
    cases hx : l[n.toNat]? with
    | none => simp
    | some x =>
      have hlt := (List.getElem?_eq_some_iff.1 hx).1
      have h1 : n < l.length := by omega
      rw [if_pos ⟨h0, h1, Enc.pos⟩]
      simp only [Option.map_some, Option.bind_some]
      rw [if_pos (Enc.nc x)]
  · rw [if_neg h0, if_neg (fun h => h0 h.1)]

@[simp high] theorem aidx_B {P : Program} {H : List Row} {t : TypeId} (id : Nat) (l : List α) (k : IntKind) (n : Int) (h : isSliceT P t = true) (hr : H[id]? = some (RW (selem P t) l)) :
    aidx P H t (B id l) (.int k n) = if 0 ≤ n ∧ n < l.length then some (.pto id (Enc.sz α) n.toNat 0) else none := by
  unfold aidx B
  rw [selem_eq h]
  simp only [hr, Option.bind_some]
  by_cases hn : 0 ≤ n ∧ n < l.length
  · have hne : l.isEmpty = false := by
      cases l with
      | nil => simp at hn; omega
      | cons x l => rfl
    simp [hn, RW, hne]
  · rw [if_neg hn, if_neg (fun h => hn ⟨h.2.2.1, h.2.2.2⟩)]

theorem RW_get {t : TypeId} {l : List α} {j : Nat} {x : α} (hx : l[j]? = some x) : RW t l = ⟨t, Enc.sz α, l.map Enc.enc, l.length, true⟩ := by
  unfold RW
  cases l with
  | nil => simp at hx
  | cons y l => rfl

@[simp high] theorem aload_RW {P : Program} {H : List Row} {t : TypeId} {id j : Nat} {l : List α} {x : α} (hr : H[id]? = some (RW t l)) (hx : l[j]? = some x) (hu : hasU P t = true) (hc : P.cellsOf t = Enc.sz α) (hs : shp P t (Enc.enc x) = true) :
    aload P H t (.pto id (Enc.sz α) j 0) = some (Enc.enc x) := by
  unfold aload
  rw [if_pos ⟨by rw [hc]; exact Enc.pos, hu⟩]
  simp only [hr, RW_get hx, Option.bind_some]
  rw [if_pos ⟨trivial, trivial⟩]
  simp only [List.getElem?_map, hx, Option.map_some, Option.bind_some]
  rw [if_pos ⟨trivial, hs⟩]

@[simp high] theorem asrc_Ls {P : Program} {H : List Row} {e : TypeId} (f : Bool) (l : List α) (hs : ∀ x : α, shp P e (Enc.enc x) = true) : asrc P H e (Ls f l) = some (l.map Enc.enc) := by
  unfold asrc Ls
  simp only
  rw [if_pos]
  rw [List.all_eq_true]
  intro x hx
  obtain ⟨y, _, rfl⟩ := List.mem_map.1 hx
  exact hs y

@[simp high] theorem asrc_B {P : Program} {H : List Row} {e : TypeId} (id : Nat) (l : List α) (hr : H[id]? = some (RW e l)) : asrc P H e (B id l) = some (l.map Enc.enc) := by
  unfold asrc B
  cases l with
  | nil => rfl
  | cons x l =>
    simp only [hr, Option.bind_some, RW]
    simp [List.take_of_length_le]

@[simp high] theorem agrow_Ls {P : Program} {H : List Row} {e : TypeId} (f : Bool) (l : List α) (olds news : List A) : agrow P H e (Ls f l) olds news =
    if news.length = 0 then some (Ls f l, H) else if f then some (.own H.length 0 (olds.length + news.length) (olds.length + news.length) false, H ++ [⟨e, P.cellsOf e, olds ++ news, 0, true⟩]) else none := rfl

@[simp high] theorem agrow_B {P : Program} {H : List Row} {e : TypeId} (id : Nat) (l : List α) (news : List A) (hr : H[id]? = some (RW e l)) : agrow P H e (B id l) (l.map Enc.enc) news =
    if news.length = 0 then some (B id l, H) else some (.own H.length 0 (l.length + news.length) (l.length + news.length) false, H.set id dead0 ++ [⟨e, P.cellsOf e, l.map Enc.enc ++ news, l.length, true⟩]) := by
  unfold agrow B
  by_cases h0 : news.length = 0
  · simp only [h0, if_true]
  · simp only [h0, if_false, List.length_map]
    cases l with
    | nil => simp
    | cons x l =>
      have hn : ¬ (news.length = 0) := h0
      simp only [hr, Option.bind_some, RW]
      have : ¬ (l.length + 1 + news.length ≤ l.length + 1) := by omega
      simp [this]

@[simp high] theorem resA_B {P : Program} {H : List Row} {e : TypeId} (n : Nat) (id : Nat) (l : List α) (hr : H[id]? = some (RW e l)) : resA P H (n + 1) (B id l) = some (Ls false l) := by
  unfold B
  rw [resA_own0]
  cases l with
  | nil => simp
  | cons x l =>
    have hn : noidL ((x :: l).map Enc.enc) = true := noidL_enc (x :: l)
    rw [if_neg (by simp), hr]
    have e : RW e (x :: l) = ⟨e, Enc.sz α, (x :: l).map Enc.enc, (x :: l).length, true⟩ := rfl
    simp only [e, Option.bind_some]
    rw [if_pos ⟨trivial, by simp⟩, cut_all _ _ (by simp), hn]
    simp

@[simp high] theorem resA_Ls {P : Program} {H : List Row} (n : Nat) (f : Bool) (l : List α) : resA P H (n + 1) (Ls f l) = some (Ls f l) := by
  rfl

@[simp high] theorem aslice_Ls {P : Program} {t : TypeId} (f : Bool) (l : List α) (lo hi mx : Option A) (h : isSliceT P t = true) (hc : P.cellsOf (selem P t) = Enc.sz α) :
    aslice P t (Ls f l) lo hi mx = (abnd lo 0).bind fun a => (abnd hi l.length).bind fun b => (abnd mx l.length).bind fun m =>
      if a ≤ b ∧ b ≤ m ∧ m ≤ l.length ∧ (mx.isSome → hi.isSome) then some (Ls (if mx.isSome then m == b else f && b == l.length) ((l.drop a).take (b - a))) else none := by
  unfold aslice Ls
  rw [selem_eq h]
  have hp : (Enc.sz α) ≠ 0 := Enc.pos
  simp only [hc, List.length_map]
  congr 1; funext a; congr 1; funext b; congr 1; funext m
  have hall : (l.map Enc.enc).all (fun x => x.ncells == Enc.sz α) = true := by
    rw [List.all_eq_true]
    intro x hx
    obtain ⟨y, _, rfl⟩ := List.mem_map.1 hx
    exact beq_iff_eq.2 (Enc.nc y)
  simp only [hall, or_true, and_true, ne_eq, hp, not_false_eq_true, true_and]
  by_cases hc : a ≤ b ∧ b ≤ m ∧ m ≤ l.length ∧ (mx.isSome = true → hi.isSome = true)
  · rw [if_pos hc, if_pos hc]
    simp [List.map_take, List.map_drop]
  · rw [if_neg hc, if_neg hc]

@[simp high] theorem ownOK_Ls {P : Program} {H : List Row} {t : TypeId} (f : Bool) (l : List α) : ownOK P H t (Ls f l) = true := rfl

@[simp high] theorem nilB_Ls (f : Bool) (l : List α) : (Ls f l).nilB = if l.isEmpty then .ub else .bool false := by
  cases l <;> rfl
@[simp] theorem noidL_take_enc (l : List α) (n : Nat) : noidL ((l.map Enc.enc).take n) = true := noidL_take (noidL_enc l) n
@[simp] theorem noidL_drop_enc (l : List α) (n : Nat) : noidL ((l.map Enc.enc).drop n) = true := noidL_drop (noidL_enc l) n

/-! At the head of a loop. -/
theorem leA_refl {ids : List Nat} : ∀ {x : A}, x.noid = true → leA ids x x := by
  intro x
  refine A.rec (motive_1 := fun x => x.noid = true → leA ids x x) (motive_2 := fun xs => noidL xs = true → leL ids xs xs) ?_ ?_ ?_ ?_ ?_ ?_ ?_ ?_ ?_ ?_ ?_ ?_ ?_ ?_ ?_ ?_ x
  all_goals (intros; simp_all [leA, leL, A.noid, noidL])

theorem leL_refl {ids : List Nat} : ∀ {xs : List A}, noidL xs = true → leL ids xs xs
  | [], _ => by simp [leL]
  | x :: xs, h => by simp [noidL] at h; simp [leL, leA_refl h.1, leL_refl h.2]

@[simp high] theorem leA_Ls {ids : List Nat} {x : A} (f : Bool) (l : List α) : leA ids x (Ls f l) = (x = Ls f l ∨ (f = false ∧ x = Ls true l)) := by
  unfold Ls
  cases x <;> simp [leA]

@[simp high] theorem hasR_Ls {n : Nat} (f : Bool) (l : List α) : hasR n (Ls f l) = True := by unfold Ls; simp [hasR]
theorem enc_any (x : α) : Enc.enc x ≠ A.any := by
  intro h
  have := Enc.nc x
  rw [h] at this
  exact Enc.pos this.symm

@[simp] theorem enc_any_iff (x : α) : (Enc.enc x = A.any) = False := eq_false (enc_any x)

@[simp] theorem isAny_enc (x : α) : isAny (Enc.enc x) = false := by
  cases h : Enc.enc x <;> first | rfl | exact (enc_any x h).elim
@[simp] theorem noany_enc (l : List α) : noany (l.map Enc.enc) = true := by
  induction l with
  | nil => rfl
  | cons x l ih => simp only [List.map_cons, noany, isAny_enc, ih]; rfl
@[simp] theorem noany_take (l : List α) (n : Nat) : noany ((l.map Enc.enc).take n) = true := by rw [← List.map_take]; exact noany_enc _
@[simp] theorem noany_drop (l : List α) (n : Nat) : noany ((l.map Enc.enc).drop n) = true := by rw [← List.map_drop]; exact noany_enc _

theorem hasRL_noid : ∀ {n : Nat} {xs : List A}, noidL xs = true → hasRL n xs := by
  intro n xs
  have one : ∀ x : A, x.noid = true → hasR n x := by
    intro x
    refine A.rec (motive_1 := fun x => x.noid = true → hasR n x) (motive_2 := fun xs => noidL xs = true → hasRL n xs) ?_ ?_ ?_ ?_ ?_ ?_ ?_ ?_ ?_ ?_ ?_ ?_ ?_ ?_ ?_ ?_ x
    all_goals (intros; simp_all [hasR, hasRL, A.noid, noidL])
  induction xs with
  | nil => intro _; simp [hasRL]
  | cons x xs ih => intro h; simp [noidL] at h; simp [hasRL, one x h.1, ih h.2]

/-- A row of a slice that grows, out of an older row. -/
@[simp high] theorem leRow_RW {ids : List Nat} {n : Nat} {H : List Row} {j : Nat} (ty : TypeId) (l : List α)
    (h : l = [] ∨ H[j]? = some (RW ty l) ∨ ∃ f, H[j]? = some ⟨ty, Enc.sz α, l.map Enc.enc, f, true⟩ ∧ f ≤ l.length) : leRow ids n H j (RW ty l) = True := by
  refine eq_true ?_
  by_cases hl : l = []
  · subst hl; exact .inl rfl
  have hne : l.isEmpty = false := by cases l with | nil => exact (hl rfl).elim | cons => rfl
  have key : ∃ f, H[j]? = some ⟨ty, Enc.sz α, l.map Enc.enc, f, true⟩ ∧ f ≤ l.length := by
    rcases h with h | h | h
    · exact (hl h).elim
    · exact ⟨l.length, by rw [h]; simp [RW, hne], Nat.le_refl _⟩
    · exact h
  obtain ⟨f, h1, h2⟩ := key
  refine .inr ⟨_, h1, rfl, ?_⟩
  simp only [RW, hne, Bool.false_eq_true, if_false]
  exact ⟨trivial, trivial, h2, leL_refl (noidL_enc l), hasRL_noid (noidL_enc l), noany_enc l⟩
end

@[simp high] theorem frzR_RW {α : Type} [Enc α] (ty : TypeId) (l : List α) : frzR (RW ty l) = RW ty l := by
  unfold RW
  cases l with
  | nil => rfl
  | cons x l => simp

attribute [simp] leA leL hasR hasRL leRows dead0
@[simp] theorem leRow_mk (ids : List Nat) (n : Nat) (H : List Row) (j : Nat) (ty : TypeId) (sz : Nat) (es : List A) (f : Nat) (l : Bool) : leRow ids n H j ⟨ty, sz, es, f, l⟩ =
    (l = false ∨ ∃ x, H[j]? = some x ∧ x.live = true ∧ x.ty = ty ∧ x.sz = sz ∧ x.f ≤ f ∧ leL ids x.es es ∧ hasRL n es ∧ noany es = true) := rfl
/-- A row that stays as it is. -/
@[simp high] theorem leRow_same {ids : List Nat} {n : Nat} {H : List Row} {j : Nat} (ty : TypeId) (sz : Nat) (es : List A) (f : Nat) (h : ∃ f', H[j]? = some ⟨ty, sz, es, f', true⟩ ∧ f' ≤ f) (hn : noidL es = true) (ha : noany es = true) : leRow ids n H j ⟨ty, sz, es, f, true⟩ = True := by
  obtain ⟨f', h1, h2⟩ := h
  exact eq_true (.inr ⟨_, h1, rfl, rfl, rfl, h2, leL_refl hn, hasRL_noid hn, ha⟩)
end Go.AL
