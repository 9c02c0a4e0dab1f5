/- An abstract layer over the walk, 9b: structs and arrays held against each other. No program in sight. -/
import Derived.Test.YtnahhdbheeinfaaAlStore
import Derived.Laws.StructEq
import Derived.ChangeKeysEq
namespace Go.AL

/-- Two cells of one kind: 0: numbers, 1: truth values, 2: strings. -/
def eqPair : Nat → A → A → Option Bool
  | 0, .int k a, .int k' b => if k = k' then some (decide (a = b)) else none
  | 1, .bool a, .bool b => some (a == b)
  | 2, .str a, .str b => some (decide (a = b))
  | _, _, _ => none

/-- Cell by cell. -/
def aeqs : List Nat → List A → List A → Option Bool
  | [], [], [] => some true
  | k :: ks, x :: xs, y :: ys => (eqPair k x y).bind fun b => (aeqs ks xs ys).map fun c => b && c
  | _, _, _ => none

def eqPairV : Nat → Value → Value → Option Bool
  | 0, .int k a, .int k' b => if k = k' then some (decide (a = b)) else none
  | 1, .bool a, .bool b => some (a == b)
  | 2, .string a, .string b => some (a.toList == b.toList)
  | _, _, _ => none

def veqs : List Nat → List Value → List Value → Option Bool
  | [], [], [] => some true
  | k :: ks, x :: xs, y :: ys => (eqPairV k x y).bind fun b => (veqs ks xs ys).map fun c => b && c
  | _, _, _ => none

theorem veqs_len : ∀ {ks : List Nat} {vs us : List Value} {b : Bool}, veqs ks vs us = some b → vs.length = ks.length ∧ us.length = ks.length
  | [], [], [], _, _ => ⟨rfl, rfl⟩
  | k :: ks, v :: vs, u :: us, b, h => by
    simp only [veqs] at h
    obtain ⟨c, _, h⟩ := Option.bind_eq_some_iff.1 h
    obtain ⟨d, h, _⟩ := Option.map_eq_some_iff.1 h
    simp [veqs_len h]
  | [], [], _ :: _, _, h => by cases h
  | [], _ :: _, _, _, h => by cases h
  | _ :: _, [], _, _, h => by cases h
  | _ :: _, _ :: _, [], _, h => by cases h

theorem veqs_split : ∀ {ks ks2 : List Nat} {vs us : List Value} {b : Bool}, veqs (ks ++ ks2) vs us = some b → ∃ b1 b2, veqs ks (vs.take ks.length) (us.take ks.length) = some b1 ∧ veqs ks2 (vs.drop ks.length) (us.drop ks.length) = some b2 ∧ b = (b1 && b2)
  | [], ks2, vs, us, b, h => ⟨true, b, by simp [veqs], by simpa using h, by simp⟩
  | k :: ks, ks2, v :: vs, u :: us, b, h => by
    simp only [List.cons_append, veqs] at h
    obtain ⟨c, h1, h⟩ := Option.bind_eq_some_iff.1 h
    obtain ⟨d, h2, h3⟩ := Option.map_eq_some_iff.1 h
    obtain ⟨b1, b2, k1, k2, k3⟩ := veqs_split h2
    refine ⟨c && b1, b2, ?_, by simpa using k2, by rw [← h3, k3, Bool.and_assoc]⟩
    simp [veqs, h1, k1]
  | _ :: _, _, [], _, _, h => by cases h
  | _ :: _, _, _ :: _, [], _, h => by cases h

/-- The fields lie one behind the other, from off to n. -/
def tiles (P : Program) (ok : TypeId → Option (List Nat)) : List Field → Nat → Nat → Option (List Nat)
  | [], off, n => if off = n then some [] else none
  | f :: fs, off, n => if f.name ≠ "_" ∧ f.offset = off then (ok f.type).bind fun k => if k.length = P.cellsOf f.type then (tiles P ok fs (off + P.cellsOf f.type) n).map (k ++ ·) else none else none

/-- The kinds of the cells of a type whose values are held against each other cell by cell. -/
def eqK (P : Program) : Nat → TypeId → Option (List Nat)
  | 0, _ => none
  | d + 1, t =>
    match P.underlying t with
    | some (.int _) => if P.cellsOf t = 1 then some [0] else none
    | some .bool => if P.cellsOf t = 1 then some [1] else none
    | some .string => if P.cellsOf t = 1 then some [2] else none
    | some (.struct fs) => if P.stoodInHeld t = false then (tiles P (eqK P d) fs.toList 0 (P.cellsOf t)).bind fun k => if k.length = P.cellsOf t then some k else none else none
    | some (.array n e) => (eqK P d e).bind fun k => if k.length = P.cellsOf e ∧ P.cellsOf t = n * P.cellsOf e then some (List.replicate n k).flatten else none
    | _ => none

def packV (P : Program) (t : TypeId) (vs : List Value) : Value := if aggT P t then .agg ⟨vs⟩ else vs.headD undef

theorem eqK_hasU {P : Program} {d : Nat} {t : TypeId} {k : List Nat} (h : eqK P d t = some k) : ∃ k, P.underlying t = some k := by
  cases d with
  | zero => cases h
  | succ d =>
    cases hu : P.underlying t with
    | none => simp [eqK, hu] at h
    | some k => exact ⟨k, rfl⟩

theorem info_of_U {P : Program} {t : TypeId} {d : TypeDesc} (h : P.underlying t = some d) : ∃ i, P.info? t = some i := by
  cases hi : P.info? t with
  | some i => exact ⟨i, rfl⟩
  | none => simp [Program.underlying, hi] at h

theorem eqK_one {P : Program} {d : Nat} {t : TypeId} {k : List Nat} (h : eqK P d t = some k) (hn : aggT P t = false) : P.cellsOf t = 1 := by
  cases d with
  | zero => cases h
  | succ d =>
    unfold aggT at hn
    unfold eqK at h
    cases hu : P.underlying t with
    | none => rw [hu] at h; cases h
    | some k =>
      rw [hu] at h hn
      cases k <;> simp at h hn <;> first | exact h.1 | skip

theorem run_part_pack {P : Program} {d : Nat} {t : TypeId} {k : List Nat} (ht : eqK P d t = some k) (vs : List Value) (off : Nat) (hl : off + P.cellsOf t ≤ vs.length) (w : World) :
    (part t ⟨vs⟩ off).run P w = .ok (packV P t ((vs.drop off).take (P.cellsOf t))) w := by
  obtain ⟨k, hu⟩ := eqK_hasU ht
  obtain ⟨i, hi⟩ := info_of_U hu
  unfold packV
  cases hag : aggT P t with
  | true =>
    simp only [part, Sem.run_bind, run_isAgg hu, Result.andThen, hag, if_true, run_sizeOf hi, Sem.run_pure]
    rw [cellsOf_info hi]
    congr 2
    apply Array.ext'; simp
  | false =>
    have h1 := eqK_one ht hag
    have hlt : off < vs.length := by omega
    simp only [part, Sem.run_bind, run_isAgg hu, Result.andThen, hag, if_false, Bool.false_eq_true, List.getElem?_toArray, List.getElem?_eq_getElem hlt, Sem.run_pure]
    rw [h1, List.drop_eq_getElem_cons hlt]
    rfl

theorem run_eqK {P : Program} : ∀ (d m : Nat) (t : TypeId) (ks : List Nat) (vs us : List Value) (b : Bool) (w : World), eqK P m t = some ks → ks.length = P.cellsOf t → veqs ks vs us = some b →
    (Op.equalIn (d + m) t (packV P t vs) (packV P t us)).run P w = .ok b w
  | _, 0, _, _, _, _, _, _, h, _, _ => by cases h
  | d, m + 1, t, ks, vs, us, b, w, h, hks, hv => by
    obtain ⟨hl, hul⟩ := veqs_len hv
    rw [hks] at hl hul
    unfold eqK at h
    cases hu : P.underlying t with
    | none => rw [hu] at h; cases h
    | some k =>
      rw [hu] at h
      have one : ∀ q, ks = [q] → aggT P t = false → ∃ v u, eqPairV q v u = some b ∧ packV P t vs = v ∧ packV P t us = u := by
        intro q hq hag
        subst hq
        simp at hks
        rw [← hks] at hl hul
        match vs, us, hl, hul with
        | [v], [u], _, _ =>
          refine ⟨v, u, ?_, by simp [packV, hag], by simp [packV, hag]⟩
          simp only [veqs] at hv
          obtain ⟨c, h1, h⟩ := Option.bind_eq_some_iff.1 hv
          simp at h
          rw [h1, h]
      have agg : aggT P t = true → packV P t vs = .agg ⟨vs⟩ ∧ packV P t us = .agg ⟨us⟩ := fun hag => by simp [packV, hag]
      cases k with
      | int k =>
        simp only at h
        split at h
        · cases h
          obtain ⟨v, u, he, p1, p2⟩ := one 0 rfl (by simp [aggT, hu])
          rw [p1, p2]
          unfold eqPairV at he
          split at he
          · split at he
            · rename_i hk; subst hk; cases he
              rw [show d + (m + 1) = (d + m) + 1 from rfl, run_equalIn_int w (d + m) t _ _ _ _ hu]
              congr 1
            · cases he
          · rename_i h0; cases h0
          · rename_i h0; cases h0
          · cases he
        · cases h
      | bool =>
        simp only at h
        split at h
        · cases h
          obtain ⟨v, u, he, p1, p2⟩ := one 1 rfl (by simp [aggT, hu])
          rw [p1, p2]
          unfold eqPairV at he
          split at he
          · rename_i h0; cases h0
          · cases he
            rw [show d + (m + 1) = (d + m) + 1 from rfl, run_equalIn_bool' w (d + m) t _ _ hu]
          · rename_i h0; cases h0
          · cases he
        · cases h
      | string =>
        simp only at h
        split at h
        · cases h
          obtain ⟨v, u, he, p1, p2⟩ := one 2 rfl (by simp [aggT, hu])
          rw [p1, p2]
          unfold eqPairV at he
          split at he
          · rename_i h0; cases h0
          · rename_i h0; cases h0
          · cases he
            rw [show d + (m + 1) = (d + m) + 1 from rfl, run_equalIn_string w (d + m) t _ _ hu]
          · cases he
        · cases h
      | struct fs =>
        simp only at h
        split at h
        case isFalse => cases h
        rename_i hst
        obtain ⟨k, hk, h⟩ := Option.bind_eq_some_iff.1 h
        split at h
        case isFalse => cases h
        cases h
        obtain ⟨p1, p2⟩ := agg (by simp [aggT, hu])
        rw [p1, p2]
        have hf : P.fieldsOf t = fs := by simp [Program.fieldsOf, hu]
        rw [show d + (m + 1) = (d + m) + 1 from rfl, run_equalIn_struct w (d + m) t ⟨vs⟩ ⟨us⟩ (by rw [hf]; exact hu) hst, hf]
        have le : ∀ (fs : List Field) (o n : Nat) (k : List Nat), tiles P (eqK P m) fs o n = some k → o ≤ n := by
          intro fs
          induction fs with
          | nil => intro o n k h; simp [tiles] at h; omega
          | cons g gs ih =>
            intro o n k h
            simp only [tiles] at h
            split at h
            · obtain ⟨k1, _, h⟩ := Option.bind_eq_some_iff.1 h
              split at h
              · obtain ⟨k2, h, _⟩ := Option.map_eq_some_iff.1 h
                have := ih _ _ _ h
                omega
              · cases h
            · cases h
        have key : ∀ (fs : List Field) (off : Nat) (b : Bool) (k : List Nat), tiles P (eqK P m) fs off (P.cellsOf t) = some k → veqs k (vs.drop off) (us.drop off) = some b → (Op.eqFields (d + m) ⟨vs⟩ ⟨us⟩ fs).run P w = .ok b w := by
          intro fs
          induction fs with
          | nil =>
            intro off b k ht hb
            simp [tiles] at ht
            obtain ⟨ht, rfl⟩ := ht
            rw [List.drop_eq_nil_of_le (by omega), List.drop_eq_nil_of_le (by omega)] at hb
            cases hb
            simp [Op.eqFields]
          | cons f fs ih =>
            intro off b k ht hb
            simp only [tiles] at ht
            split at ht
            case isFalse => cases ht
            rename_i hc
            obtain ⟨h1, h2⟩ := hc
            obtain ⟨k1, h3, ht⟩ := Option.bind_eq_some_iff.1 ht
            split at ht
            case isFalse => cases ht
            rename_i hkl
            obtain ⟨k2, h4, rfl⟩ := Option.map_eq_some_iff.1 ht
            obtain ⟨b1, b2, g1, g2, rfl⟩ := veqs_split hb
            rw [List.drop_drop, List.drop_drop, hkl] at g2
            rw [hkl] at g1
            have hle := le _ _ _ _ h4
            have r1 := run_part_pack h3 vs off (by omega) w
            have r2 := run_part_pack h3 us off (by omega) w
            have r3 := run_eqK d m f.type k1 _ _ b1 w h3 hkl g1
            simp only [Op.eqFields, h1, ne_eq, not_false_eq_true, if_true, Sem.run_bind, h2, r1, r2, r3, Result.andThen_ok]
            cases b1
            · simp
            · simpa using ih _ _ _ h4 g2
        have := key fs.toList 0 b ks hk (by simpa using hv)
        simpa using this
      | array n e =>
        simp only at h
        obtain ⟨k, hk, h⟩ := Option.bind_eq_some_iff.1 h
        split at h
        case isFalse => cases h
        rename_i hc
        obtain ⟨h2, h3⟩ := hc
        cases h
        obtain ⟨p1, p2⟩ := agg (by simp [aggT, hu])
        rw [p1, p2]
        obtain ⟨ke, hue⟩ := eqK_hasU hk
        obtain ⟨i, hi⟩ := info_of_U hue
        rw [show d + (m + 1) = (d + m) + 1 from rfl, run_equalIn_array w (d + m) ⟨vs⟩ ⟨us⟩ hu hi]
        have key : ∀ (q j : Nat) (b : Bool), j + q = n → veqs (List.replicate q k).flatten (vs.drop (j * P.cellsOf e)) (us.drop (j * P.cellsOf e)) = some b → (Op.eqItems (d + m) e (P.cellsOf e) ⟨vs⟩ ⟨us⟩ (List.range' j q)).run P w = .ok b w := by
          intro q
          induction q with
          | zero =>
            intro j b hj hb
            have : j = n := by omega
            subst this
            rw [List.drop_eq_nil_of_le (by omega), List.drop_eq_nil_of_le (by omega)] at hb
            cases hb
            simp [Op.eqItems]
          | succ q ih =>
            intro j b hj hb
            rw [List.replicate_succ, List.flatten_cons] at hb
            obtain ⟨b1, b2, k1, k2, rfl⟩ := veqs_split hb
            rw [List.drop_drop, List.drop_drop, h2] at k2
            rw [h2] at k1
            have hle : j * P.cellsOf e + P.cellsOf e ≤ P.cellsOf t := by
              rw [h3]
              have := Nat.mul_le_mul_right (P.cellsOf e) (show j + 1 ≤ n by omega)
              rw [Nat.add_mul] at this; omega
            have r1 := run_part_pack hk vs (j * P.cellsOf e) (by omega) w
            have r2 := run_part_pack hk us (j * P.cellsOf e) (by omega) w
            have r3 := run_eqK d m e k _ _ b1 w hk h2 k1
            simp only [List.range'_succ, Op.eqItems, Sem.run_bind, r1, r2, r3, Result.andThen_ok]
            cases b1
            · simp
            · have := ih (j + 1) b2 (by omega) (by rw [Nat.add_mul, Nat.one_mul]; exact k2)
              simpa using this
        have := key n 0 b (by omega) (by simpa using hv)
        rw [List.range_eq_range']
        exact this
      | _ => simp at h

theorem eqPair_V {P : Program} {w : World} {F : Fz} {μ : Mu} {k : Nat} {x y : A} {v u : Value} {b : Bool} (hx : Rep P w F μ x v) (hy : Rep P w F μ y u) (h : eqPair k x y = some b) : eqPairV k v u = some b := by
  unfold eqPair at h
  split at h
  · cases hx; cases hy; exact h
  · cases hx; cases hy; exact h
  · cases hx; cases hy
    cases h
    simp only [eqPairV, Option.some.injEq]
    rename_i a b
    have e1 : ByteArray.toList ⟨⟨a⟩⟩ = a := ByteArray.toList_mk a
    have e2 : ByteArray.toList ⟨⟨b⟩⟩ = b := ByteArray.toList_mk b
    rw [e1, e2, Bool.eq_iff_iff]; simp
  · cases h

theorem aeqs_V {P : Program} {w : World} {F : Fz} {μ : Mu} : ∀ {ks : List Nat} {xs ys : List A} {vs us : List Value} {b : Bool}, vs.length = xs.length → us.length = ys.length →
    (∀ (i : Nat) (c : A) (u : Value), xs[i]? = some c → vs[i]? = some u → Rep P w F μ c u) → (∀ (i : Nat) (c : A) (u : Value), ys[i]? = some c → us[i]? = some u → Rep P w F μ c u) → aeqs ks xs ys = some b → veqs ks vs us = some b
  | [], [], [], [], [], b, _, _, _, _, h => by cases h; rfl
  | k :: ks, x :: xs, y :: ys, v :: vs, u :: us, b, h1, h2, h3, h4, h => by
    simp only [aeqs] at h
    obtain ⟨c, k1, h⟩ := Option.bind_eq_some_iff.1 h
    obtain ⟨d, k2, k3⟩ := Option.map_eq_some_iff.1 h
    have g1 := eqPair_V (h3 0 x v rfl rfl) (h4 0 y u rfl rfl) k1
    have g2 := aeqs_V (by simpa using h1) (by simpa using h2) (fun i c u hc hu => h3 (i + 1) c u (by simpa using hc) (by simpa using hu)) (fun i c u hc hu => h4 (i + 1) c u (by simpa using hc) (by simpa using hu)) k2
    simp [veqs, g1, g2, k3]
  | [], [], _ :: _, _, _, _, _, _, _, _, h => by cases h
  | [], _ :: _, _, _, _, _, _, _, _, _, h => by cases h
  | _ :: _, [], _, _, _, _, _, _, _, _, h => by cases h
  | _ :: _, _ :: _, [], _, _, _, _, _, _, _, h => by cases h
  | _, [], _, _ :: _, _, _, h, _, _, _, _ => by simp at h
  | _, _, [], _, _ :: _, _, _, h, _, _, _ => by simp at h
  | _, _ :: _, _, [], _, _, h, _, _, _, _ => by simp at h
  | _, _, _ :: _, _, [], _, _, h, _, _, _ => by simp at h

/-- The kinds of the cells, where values of the type may be held against each other. -/
def eqT (P : Program) (t : TypeId) : Option (List Nat) :=
  if aggT P t = true ∧ P.eqGuardType P.depth t = false then (eqK P 10 t).bind fun k => if k.length = P.cellsOf t then some k else none else none

def abin2 (P : Program) (op : BinOp) (t : TypeId) (x y : A) : Option A :=
  match x, y with
  | .agg xs, .agg ys =>
    (eqT P t).bind fun ks =>
      match op with
      | .eql => (aeqs ks xs ys).map .bool
      | .neq => (aeqs ks xs ys).map fun b => .bool !b
      | _ => none
  | x, y => abin P op t x y

theorem s_abin2 {P : Program} {op : BinOp} {t : TypeId} {x y r : A} {vx vy : Value} {w : World} {F : Fz} {μ : Mu} (X Y : Operand) (hx : Rep P w F μ x vx) (hy : Rep P w F μ y vy) (h : abin2 P op t x y = some r) :
    ∃ v, (∀ w', Cn w w' → ((do eqGuard op t X Y vx vy; binOp op t vx vy) : Sem Value).run P w' = .ok v w') ∧ Rep P w F μ r v := by
  unfold abin2 at h
  split at h
  · rename_i xs ys
    obtain ⟨ks, hks, h⟩ := Option.bind_eq_some_iff.1 h
    unfold eqT at hks
    split at hks
    case isFalse => cases hks
    rename_i hok
    obtain ⟨k, hk, hks⟩ := Option.bind_eq_some_iff.1 hks
    split at hks
    case isFalse => cases hks
    rename_i hkl
    cases hks
    cases hx with | agg _ _ vs hl h1 hh =>
    cases hy with | agg _ _ us hl' h1' hh' =>
    have key : ∀ b w', aeqs ks xs ys = some b → (Op.equalIn 10000 t (.agg ⟨vs⟩) (.agg ⟨us⟩)).run P w' = .ok b w' := by
      intro b w' hb
      have := run_eqK 9990 10 t ks vs us b w' hk hkl (aeqs_V hl hl' hh hh' hb)
      simpa [packV, hok.1] using this
    split at h
    · obtain ⟨b, hb, rfl⟩ := Option.map_eq_some_iff.1 h
      refine ⟨.bool b, fun w' _ => ?_, .bool _ _⟩
      rw [Sem.run_bind, run_eqGuard_agg w' _ t X Y ⟨vs⟩ ⟨us⟩ hok.2]
      simp only [Result.andThen_ok, run_eql_struct, key b w' hb]
    · obtain ⟨b, hb, rfl⟩ := Option.map_eq_some_iff.1 h
      refine ⟨.bool !b, fun w' _ => ?_, .bool _ _⟩
      rw [Sem.run_bind, run_eqGuard_agg w' _ t X Y ⟨vs⟩ ⟨us⟩ hok.2]
      simp only [Result.andThen_ok, run_neq_struct, key b w' hb]
    · cases h
  · exact s_abin X Y hx hy h
end Go.AL
