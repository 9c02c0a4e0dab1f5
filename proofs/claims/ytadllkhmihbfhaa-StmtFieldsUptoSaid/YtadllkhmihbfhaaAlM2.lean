/- An abstract layer over the walk, part 2 of 4: Eq, App, Mp, Ops, Vc, Call. No program in sight. -/
import Derived.Test.YtadllkhmihbfhaaAlM1
import Derived.Laws.StructEq
import Derived.ChangeKeysEq
import Derived.MapKept
import Derived.Deep.Quiet
import Derived.StillTail
/- An abstract layer over the walk, 9b: structs and arrays held against each other. No program in sight. -/
namespace Go.AL

/-- Two cells of one kind: 0: numbers, 1: truth values, 2: strings. -/
def eqPair : Nat → A → A → Option Bool
  | 0, .int k a, .int k' b => if k = k' then some (decide (a = b)) else none
  | 1, .bool a, .bool b => some (a == b)
  | 2, .str a, .str b => some (decide (a = b))
  | _, _, _ => none

/-- Cell by cell. -/
def aeqs : List Nat → List A → List A → Option Bool
  | [], [], [] => some true
  | k :: ks, x :: xs, y :: ys => (eqPair k x y).bind fun b => (aeqs ks xs ys).map fun c => b && c
  | _, _, _ => none

def eqPairV : Nat → Value → Value → Option Bool
  | 0, .int k a, .int k' b => if k = k' then some (decide (a = b)) else none
  | 1, .bool a, .bool b => some (a == b)
  | 2, .string a, .string b => some (a.toList == b.toList)
  | _, _, _ => none

def veqs : List Nat → List Value → List Value → Option Bool
  | [], [], [] => some true
  | k :: ks, x :: xs, y :: ys => (eqPairV k x y).bind fun b => (veqs ks xs ys).map fun c => b && c
  | _, _, _ => none

theorem veqs_len : ∀ {ks : List Nat} {vs us : List Value} {b : Bool}, veqs ks vs us = some b → vs.length = ks.length ∧ us.length = ks.length
  | [], [], [], _, _ => ⟨rfl, rfl⟩
  | k :: ks, v :: vs, u :: us, b, h => by
    simp only [veqs] at h
    obtain ⟨c, _, h⟩ := Option.bind_eq_some_iff.1 h
    obtain ⟨d, h, _⟩ := Option.map_eq_some_iff.1 h
    simp [veqs_len h]
  | [], [], _ :: _, _, h => by cases h
  | [], _ :: _, _, _, h => by cases h
  | _ :: _, [], _, _, h => by cases h
  | _ :: _, _ :: _, [], _, h => by cases h

theorem veqs_split : ∀ {ks ks2 : List Nat} {vs us : List Value} {b : Bool}, veqs (ks ++ ks2) vs us = some b → ∃ b1 b2, veqs ks (vs.take ks.length) (us.take ks.length) = some b1 ∧ veqs ks2 (vs.drop ks.length) (us.drop ks.length) = some b2 ∧ b = (b1 && b2)
  | [], ks2, vs, us, b, h => ⟨true, b, by simp [veqs], by simpa using h, by simp⟩
  | k :: ks, ks2, v :: vs, u :: us, b, h => by
    simp only [List.cons_append, veqs] at h
    obtain ⟨c, h1, h⟩ := Option.bind_eq_some_iff.1 h
    obtain ⟨d, h2, h3⟩ := Option.map_eq_some_iff.1 h
    obtain ⟨b1, b2, k1, k2, k3⟩ := veqs_split h2
    refine ⟨c && b1, b2, ?_, by simpa using k2, by rw [← h3, k3, Bool.and_assoc]⟩
    simp [veqs, h1, k1]
  | _ :: _, _, [], _, _, h => by cases h
  | _ :: _, _, _ :: _, [], _, h => by cases h

/-- The fields lie one behind the other, from off to n. -/
def tiles (P : Program) (ok : TypeId → Option (List Nat)) : List Field → Nat → Nat → Option (List Nat)
  | [], off, n => if off = n then some [] else none
  | f :: fs, off, n => if f.name ≠ "_" ∧ f.offset = off then (ok f.type).bind fun k => if k.length = P.cellsOf f.type then (tiles P ok fs (off + P.cellsOf f.type) n).map (k ++ ·) else none else none

/-- The kinds of the cells of a type whose values are held against each other cell by cell. -/
def eqK (P : Program) : Nat → TypeId → Option (List Nat)
  | 0, _ => none
  | d + 1, t =>
    match P.underlying t with
    | some (.int _) => if P.cellsOf t = 1 then some [0] else none
    | some .bool => if P.cellsOf t = 1 then some [1] else none
    | some .string => if P.cellsOf t = 1 then some [2] else none
    | some (.struct fs) => if P.stoodInHeld t = false then (tiles P (eqK P d) fs.toList 0 (P.cellsOf t)).bind fun k => if k.length = P.cellsOf t then some k else none else none
    | some (.array n e) => (eqK P d e).bind fun k => if k.length = P.cellsOf e ∧ P.cellsOf t = n * P.cellsOf e then some (List.replicate n k).flatten else none
    | _ => none

def packV (P : Program) (t : TypeId) (vs : List Value) : Value := if aggT P t then .agg ⟨vs⟩ else vs.headD undef

theorem eqK_hasU {P : Program} {d : Nat} {t : TypeId} {k : List Nat} (h : eqK P d t = some k) : ∃ k, P.underlying t = some k := by
  cases d with
  | zero => cases h
  | succ d =>
    cases hu : P.underlying t with
    | none => simp [eqK, hu] at h
    | some k => exact ⟨k, rfl⟩

theorem info_of_U {P : Program} {t : TypeId} {d : TypeDesc} (h : P.underlying t = some d) : ∃ i, P.info? t = some i := by
  cases hi : P.info? t with
  | some i => exact ⟨i, rfl⟩
  | none => simp [Program.underlying, hi] at h

theorem eqK_one {P : Program} {d : Nat} {t : TypeId} {k : List Nat} (h : eqK P d t = some k) (hn : aggT P t = false) : P.cellsOf t = 1 := by
  cases d with
  | zero => cases h
  | succ d =>
    unfold aggT at hn
    unfold eqK at h
    cases hu : P.underlying t with
    | none => rw [hu] at h; cases h
    | some k =>
      rw [hu] at h hn
      cases k <;> simp at h hn <;> first | exact h.1 | skip

theorem run_part_pack {P : Program} {d : Nat} {t : TypeId} {k : List Nat} (ht : eqK P d t = some k) (vs : List Value) (off : Nat) (hl : off + P.cellsOf t ≤ vs.length) (w : World) :
    (part t ⟨vs⟩ off).run P w = .ok (packV P t ((vs.drop off).take (P.cellsOf t))) w := by
  obtain ⟨k, hu⟩ := eqK_hasU ht
  obtain ⟨i, hi⟩ := info_of_U hu
  unfold packV
  cases hag : aggT P t with
  | true =>
    simp only [part, Sem.run_bind, run_isAgg hu, Result.andThen, hag, if_true, run_sizeOf hi, Sem.run_pure]
    rw [cellsOf_info hi]
    congr 2
    apply Array.ext'; simp
  | false =>
    have h1 := eqK_one ht hag
    have hlt : off < vs.length := by omega
    simp only [part, Sem.run_bind, run_isAgg hu, Result.andThen, hag, if_false, Bool.false_eq_true, List.getElem?_toArray, List.getElem?_eq_getElem hlt, Sem.run_pure]
    rw [h1, List.drop_eq_getElem_cons hlt]
    rfl

theorem run_eqK {P : Program} : ∀ (d m : Nat) (t : TypeId) (ks : List Nat) (vs us : List Value) (b : Bool) (w : World), eqK P m t = some ks → ks.length = P.cellsOf t → veqs ks vs us = some b →
    (Op.equalIn (d + m) t (packV P t vs) (packV P t us)).run P w = .ok b w
  | _, 0, _, _, _, _, _, _, h, _, _ => by cases h
  | d, m + 1, t, ks, vs, us, b, w, h, hks, hv => by
    obtain ⟨hl, hul⟩ := veqs_len hv
    rw [hks] at hl hul
    unfold eqK at h
    cases hu : P.underlying t with
    | none => rw [hu] at h; cases h
    | some k =>
      rw [hu] at h
      have one : ∀ q, ks = [q] → aggT P t = false → ∃ v u, eqPairV q v u = some b ∧ packV P t vs = v ∧ packV P t us = u := by
        intro q hq hag
        subst hq
        simp at hks
        rw [← hks] at hl hul
        match vs, us, hl, hul with
        | [v], [u], _, _ =>
          refine ⟨v, u, ?_, by simp [packV, hag], by simp [packV, hag]⟩
          simp only [veqs] at hv
          obtain ⟨c, h1, h⟩ := Option.bind_eq_some_iff.1 hv
          simp at h
          rw [h1, h]
      have agg : aggT P t = true → packV P t vs = .agg ⟨vs⟩ ∧ packV P t us = .agg ⟨us⟩ := fun hag => by simp [packV, hag]
      cases k with
      | int k =>
        simp only at h
        split at h
        · cases h
          obtain ⟨v, u, he, p1, p2⟩ := one 0 rfl (by simp [aggT, hu])
          rw [p1, p2]
          unfold eqPairV at he
          split at he
          · split at he
            · rename_i hk; subst hk; cases he
              rw [show d + (m + 1) = (d + m) + 1 from rfl, run_equalIn_int w (d + m) t _ _ _ _ hu]
              congr 1
            · cases he
          · rename_i h0; cases h0
          · rename_i h0; cases h0
          · cases he
        · cases h
      | bool =>
        simp only at h
        split at h
        · cases h
          obtain ⟨v, u, he, p1, p2⟩ := one 1 rfl (by simp [aggT, hu])
          rw [p1, p2]
          unfold eqPairV at he
          split at he
          · rename_i h0; cases h0
          · cases he
            rw [show d + (m + 1) = (d + m) + 1 from rfl, run_equalIn_bool' w (d + m) t _ _ hu]
          · rename_i h0; cases h0
          · cases he
        · cases h
      | string =>
        simp only at h
        split at h
        · cases h
          obtain ⟨v, u, he, p1, p2⟩ := one 2 rfl (by simp [aggT, hu])
          rw [p1, p2]
          unfold eqPairV at he
          split at he
          · rename_i h0; cases h0
          · rename_i h0; cases h0
          · cases he
            rw [show d + (m + 1) = (d + m) + 1 from rfl, run_equalIn_string w (d + m) t _ _ hu]
          · cases he
        · cases h
      | struct fs =>
        simp only at h
        split at h
        case isFalse => cases h
        rename_i hst
        obtain ⟨k, hk, h⟩ := Option.bind_eq_some_iff.1 h
        split at h
        case isFalse => cases h
        cases h
        obtain ⟨p1, p2⟩ := agg (by simp [aggT, hu])
        rw [p1, p2]
        have hf : P.fieldsOf t = fs := by simp [Program.fieldsOf, hu]
        rw [show d + (m + 1) = (d + m) + 1 from rfl, run_equalIn_struct w (d + m) t ⟨vs⟩ ⟨us⟩ (by rw [hf]; exact hu) hst, hf]
        have le : ∀ (fs : List Field) (o n : Nat) (k : List Nat), tiles P (eqK P m) fs o n = some k → o ≤ n := by
          intro fs
          induction fs with
          | nil => intro o n k h; simp [tiles] at h; omega
          | cons g gs ih =>
            intro o n k h
            simp only [tiles] at h
            split at h
            · obtain ⟨k1, _, h⟩ := Option.bind_eq_some_iff.1 h
              split at h
              · obtain ⟨k2, h, _⟩ := Option.map_eq_some_iff.1 h
                have := ih _ _ _ h
                omega
              · cases h
            · cases h
        have key : ∀ (fs : List Field) (off : Nat) (b : Bool) (k : List Nat), tiles P (eqK P m) fs off (P.cellsOf t) = some k → veqs k (vs.drop off) (us.drop off) = some b → (Op.eqFields (d + m) ⟨vs⟩ ⟨us⟩ fs).run P w = .ok b w := by
          intro fs
          induction fs with
          | nil =>
            intro off b k ht hb
            simp [tiles] at ht
            obtain ⟨ht, rfl⟩ := ht
            rw [List.drop_eq_nil_of_le (by omega), List.drop_eq_nil_of_le (by omega)] at hb
            cases hb
            simp [Op.eqFields]
          | cons f fs ih =>
            intro off b k ht hb
            simp only [tiles] at ht
            split at ht
            case isFalse => cases ht
            rename_i hc
            obtain ⟨h1, h2⟩ := hc
            obtain ⟨k1, h3, ht⟩ := Option.bind_eq_some_iff.1 ht
            split at ht
            case isFalse => cases ht
            rename_i hkl
            obtain ⟨k2, h4, rfl⟩ := Option.map_eq_some_iff.1 ht
            obtain ⟨b1, b2, g1, g2, rfl⟩ := veqs_split hb
            rw [List.drop_drop, List.drop_drop, hkl] at g2
            rw [hkl] at g1
            have hle := le _ _ _ _ h4
            have r1 := run_part_pack h3 vs off (by omega) w
            have r2 := run_part_pack h3 us off (by omega) w
            have r3 := run_eqK d m f.type k1 _ _ b1 w h3 hkl g1
            simp only [Op.eqFields, h1, ne_eq, not_false_eq_true, if_true, Sem.run_bind, h2, r1, r2, r3, Result.andThen_ok]
            cases b1
            · simp
            · simpa using ih _ _ _ h4 g2
        have := key fs.toList 0 b ks hk (by simpa using hv)
        simpa using this
      | array n e =>
        simp only at h
        obtain ⟨k, hk, h⟩ := Option.bind_eq_some_iff.1 h
        split at h
        case isFalse => cases h
        rename_i hc
        obtain ⟨h2, h3⟩ := hc
        cases h
        obtain ⟨p1, p2⟩ := agg (by simp [aggT, hu])
        rw [p1, p2]
        obtain ⟨ke, hue⟩ := eqK_hasU hk
        obtain ⟨i, hi⟩ := info_of_U hue
        rw [show d + (m + 1) = (d + m) + 1 from rfl, run_equalIn_array w (d + m) ⟨vs⟩ ⟨us⟩ hu hi]
        have key : ∀ (q j : Nat) (b : Bool), j + q = n → veqs (List.replicate q k).flatten (vs.drop (j * P.cellsOf e)) (us.drop (j * P.cellsOf e)) = some b → (Op.eqItems (d + m) e (P.cellsOf e) ⟨vs⟩ ⟨us⟩ (List.range' j q)).run P w = .ok b w := by
          intro q
          induction q with
          | zero =>
            intro j b hj hb
            have : j = n := by omega
            subst this
            rw [List.drop_eq_nil_of_le (by omega), List.drop_eq_nil_of_le (by omega)] at hb
            cases hb
            simp [Op.eqItems]
          | succ q ih =>
            intro j b hj hb
            rw [List.replicate_succ, List.flatten_cons] at hb
            obtain ⟨b1, b2, k1, k2, rfl⟩ := veqs_split hb
            rw [List.drop_drop, List.drop_drop, h2] at k2
            rw [h2] at k1
            have hle : j * P.cellsOf e + P.cellsOf e ≤ P.cellsOf t := by
              rw [h3]
              have := Nat.mul_le_mul_right (P.cellsOf e) (show j + 1 ≤ n by omega)
              rw [Nat.add_mul] at this; omega
            have r1 := run_part_pack hk vs (j * P.cellsOf e) (by omega) w
            have r2 := run_part_pack hk us (j * P.cellsOf e) (by omega) w
            have r3 := run_eqK d m e k _ _ b1 w hk h2 k1
            simp only [List.range'_succ, Op.eqItems, Sem.run_bind, r1, r2, r3, Result.andThen_ok]
            cases b1
            · simp
            · have := ih (j + 1) b2 (by omega) (by rw [Nat.add_mul, Nat.one_mul]; exact k2)
              simpa using this
        have := key n 0 b (by omega) (by simpa using hv)
        rw [List.range_eq_range']
        exact this
      | _ => simp at h

theorem eqPair_V {P : Program} {w : World} {F : Fz} {μ : Mu} {k : Nat} {x y : A} {v u : Value} {b : Bool} (hx : Rep P w F μ x v) (hy : Rep P w F μ y u) (h : eqPair k x y = some b) : eqPairV k v u = some b := by
  unfold eqPair at h
  split at h
  · cases hx; cases hy; exact h
  · cases hx; cases hy; exact h
  · cases hx; cases hy
    cases h
    simp only [eqPairV, Option.some.injEq]
    rename_i a b
    have e1 : ByteArray.toList ⟨⟨a⟩⟩ = a := ByteArray.toList_mk a
    have e2 : ByteArray.toList ⟨⟨b⟩⟩ = b := ByteArray.toList_mk b
    rw [e1, e2, Bool.eq_iff_iff]; simp
  · cases h

theorem aeqs_V {P : Program} {w : World} {F : Fz} {μ : Mu} : ∀ {ks : List Nat} {xs ys : List A} {vs us : List Value} {b : Bool}, vs.length = xs.length → us.length = ys.length →
    (∀ (i : Nat) (c : A) (u : Value), xs[i]? = some c → vs[i]? = some u → Rep P w F μ c u) → (∀ (i : Nat) (c : A) (u : Value), ys[i]? = some c → us[i]? = some u → Rep P w F μ c u) → aeqs ks xs ys = some b → veqs ks vs us = some b
  | [], [], [], [], [], b, _, _, _, _, h => by cases h; rfl
  | k :: ks, x :: xs, y :: ys, v :: vs, u :: us, b, h1, h2, h3, h4, h => by
    simp only [aeqs] at h
    obtain ⟨c, k1, h⟩ := Option.bind_eq_some_iff.1 h
    obtain ⟨d, k2, k3⟩ := Option.map_eq_some_iff.1 h
    have g1 := eqPair_V (h3 0 x v rfl rfl) (h4 0 y u rfl rfl) k1
    have g2 := aeqs_V (by simpa using h1) (by simpa using h2) (fun i c u hc hu => h3 (i + 1) c u (by simpa using hc) (by simpa using hu)) (fun i c u hc hu => h4 (i + 1) c u (by simpa using hc) (by simpa using hu)) k2
    simp [veqs, g1, g2, k3]
  | [], [], _ :: _, _, _, _, _, _, _, _, h => by cases h
  | [], _ :: _, _, _, _, _, _, _, _, _, h => by cases h
  | _ :: _, [], _, _, _, _, _, _, _, _, h => by cases h
  | _ :: _, _ :: _, [], _, _, _, _, _, _, _, h => by cases h
  | _, [], _, _ :: _, _, _, h, _, _, _, _ => by simp at h
  | _, _, [], _, _ :: _, _, _, h, _, _, _ => by simp at h
  | _, _ :: _, _, [], _, _, h, _, _, _, _ => by simp at h
  | _, _, _ :: _, _, [], _, _, h, _, _, _ => by simp at h

/-- The kinds of the cells, where values of the type may be held against each other. -/
def eqT (P : Program) (t : TypeId) : Option (List Nat) :=
  if aggT P t = true ∧ P.eqGuardType P.depth t = false then (eqK P 10 t).bind fun k => if k.length = P.cellsOf t then some k else none else none

def abin2 (P : Program) (op : BinOp) (t : TypeId) (x y : A) : Option A :=
  match x, y with
  | .agg xs, .agg ys =>
    (eqT P t).bind fun ks =>
      match op with
      | .eql => (aeqs ks xs ys).map .bool
      | .neq => (aeqs ks xs ys).map fun b => .bool !b
      | _ => none
  | x, y => abin P op t x y

theorem s_abin2 {P : Program} {op : BinOp} {t : TypeId} {x y r : A} {vx vy : Value} {w : World} {F : Fz} {μ : Mu} (X Y : Operand) (hx : Rep P w F μ x vx) (hy : Rep P w F μ y vy) (h : abin2 P op t x y = some r) :
    ∃ v, (∀ w', Cn w w' → ((do eqGuard op t X Y vx vy; binOp op t vx vy) : Sem Value).run P w' = .ok v w') ∧ Rep P w F μ r v := by
  unfold abin2 at h
  split at h
  · rename_i xs ys
    obtain ⟨ks, hks, h⟩ := Option.bind_eq_some_iff.1 h
    unfold eqT at hks
    split at hks
    case isFalse => cases hks
    rename_i hok
    obtain ⟨k, hk, hks⟩ := Option.bind_eq_some_iff.1 hks
    split at hks
    case isFalse => cases hks
    rename_i hkl
    cases hks
    cases hx with | agg _ _ vs hl h1 hh =>
    cases hy with | agg _ _ us hl' h1' hh' =>
    have key : ∀ b w', aeqs ks xs ys = some b → (Op.equalIn 10000 t (.agg ⟨vs⟩) (.agg ⟨us⟩)).run P w' = .ok b w' := by
      intro b w' hb
      have := run_eqK 9990 10 t ks vs us b w' hk hkl (aeqs_V hl hl' hh hh' hb)
      simpa [packV, hok.1] using this
    split at h
    · obtain ⟨b, hb, rfl⟩ := Option.map_eq_some_iff.1 h
      refine ⟨.bool b, fun w' _ => ?_, .bool _ _⟩
      rw [Sem.run_bind, run_eqGuard_agg w' _ t X Y ⟨vs⟩ ⟨us⟩ hok.2]
      simp only [Result.andThen_ok, run_eql_struct, key b w' hb]
    · obtain ⟨b, hb, rfl⟩ := Option.map_eq_some_iff.1 h
      refine ⟨.bool !b, fun w' _ => ?_, .bool _ _⟩
      rw [Sem.run_bind, run_eqGuard_agg w' _ t X Y ⟨vs⟩ ⟨us⟩ hok.2]
      simp only [Result.andThen_ok, run_neq_struct, key b w' hb]
    · cases h
  · exact s_abin X Y hx hy h
end Go.AL
/- An abstract layer over the walk, 9b: append, where nothing may come: the row goes on under a new number all the same, so that one form serves for all. No program in sight. -/
namespace Go.AL

theorem HS.snocDead {P : Program} {w : World} {F0 : Fz} {μ : Mu} {H : List Row} (hs : HS P w F0 μ H) (x : Nat × Nat) {d : Row} (hd : d.live = false) :
    HS P w F0 (μ ++ [x]) (H ++ [d]) ∧ Adv w (Fof μ H) w (Fof (μ ++ [x]) (H ++ [d])) := by
  have get : ∀ (i : Nat) (r : Row), (H ++ [d])[i]? = some r → r.live = true → i < H.length ∧ H[i]? = some r := by
    intro i r hr hl
    rcases Nat.lt_or_ge i H.length with h | h
    · rw [List.getElem?_append_left h] at hr; exact ⟨h, hr⟩
    · rw [List.getElem?_append_right h] at hr
      have := List.mem_of_getElem? hr
      simp at this
      subst this; rw [hd] at hl; cases hl
  have getμ : ∀ i, i < H.length → (μ ++ [x])[i]? = μ[i]? := fun i h => List.getElem?_append_left (by rw [hs.len]; exact h)
  have hm : ∀ b o, Fof (μ ++ [x]) (H ++ [d]) b o → Fof μ H b o := by
    rintro b o ⟨i, r, bs, h1, h2, h3, h4⟩
    obtain ⟨g1, g2⟩ := get i r h1 h2
    exact ⟨i, r, bs, g2, h2, by rw [← getμ i g1]; exact h3, h4⟩
  have hA : Adv w (Fof μ H) w (Fof (μ ++ [x]) (H ++ [d])) := ⟨rfl, rfl, rfl, Nat.le_refl _, fun _ _ _ h _ => h, fun b o _ h => hm b o h, fun _ _ _ h => h, fun _ _ _ => rfl⟩
  refine ⟨⟨by simp [hs.len], hs.bound, ?_, ?_, ?_⟩, hA⟩
  · intro i r b bs hr hl hb
    obtain ⟨g1, g2⟩ := get i r hr hl
    rcases hs.row i r b bs g2 hl (by rw [← getμ i g1]; exact hb) with h1 | h1
    · exact .inl (h1.adv (hA.join F0) (List.prefix_append _ _) rfl)
    · exact .inr (h1.adv (hA.join F0) rfl)
  · intro i j r r' b bs bs' hr hl hr' hl' hb hb'
    obtain ⟨g1, g2⟩ := get i r hr hl
    obtain ⟨g1', g2'⟩ := get j r' hr' hl'
    exact hs.inj i j r r' b bs bs' g2 hl g2' hl' (by rw [← getμ i g1]; exact hb) (by rw [← getμ j g1']; exact hb')
  · intro i r b bs o hr hl hb
    obtain ⟨g1, g2⟩ := get i r hr hl
    exact hs.sep i r b bs o g2 hl (by rw [← getμ i g1]; exact hb)

theorem Res.snocDead {P : Program} {w : World} {F0 : Fz} {μ : Mu} {H : List Row} {v : Value} {w' : World} {r : A} {H' : List Row} (h : Res P w F0 μ H v w' r H') : Res P w F0 μ H v w' r (H' ++ [dead0]) := by
  obtain ⟨μ', h1, h2, h3, h4⟩ := h
  obtain ⟨g1, g2⟩ := h1.snocDead (0, 0) (d := dead0) rfl
  exact ⟨_, g1, h2.trans g2, h3.trans (List.prefix_append _ _), h4.adv (g2.join F0) (List.prefix_append _ _)⟩

theorem Res.kill {P : Program} {w : World} {F0 : Fz} {μ : Mu} {H : List Row} {v : Value} {w' : World} {r : A} {H' : List Row} (id : Nat) (h : Res P w F0 μ H v w' r H') : Res P w F0 μ H v w' r (H'.set id dead0) := by
  obtain ⟨μ', h1, h2, h3, h4⟩ := h
  obtain ⟨g1, g2⟩ := h1.kill (id := id) (d := dead0) rfl
  exact ⟨_, g1, h2.trans g2, h3, h4.adv (g2.join F0) (List.prefix_refl _)⟩

theorem rep_empty {P : Program} {w : World} {F : Fz} {μ : Mu} {v : Value} {r : A} (hr : r = .sl true [] ∨ ∃ id, r = .own id 0 0 0 true) (h : Rep P w F μ r v) (id : Nat) : Rep P w F μ (.own id 0 0 0 true) v := by
  rcases hr with rfl | ⟨id', rfl⟩
  · cases h with
    | slnil _ _ a => exact .ownn _ _ _ _
    | sl _ _ _ b off n cap sz V hn hcap hmax hfull hsz hrep hcell =>
      have h1 : n = 0 := hn
      have h2 : cap = n := hfull rfl
      subst h2; subst h1
      exact .ownn _ _ _ _
  · cases h with
    | own _ _ _ _ _ _ b bs cap ty n hμ hs hfit hlen hcb hmax hex ao hat =>
      have : cap = 0 := hex rfl
      subst this
      exact .ownn _ _ _ _
    | ownn _ _ _ a => exact .ownn _ _ _ _

/-- The same slice, its row under a new number. -/
def renum (H : List Row) (s : A) : Option (A × List Row) :=
  match s with
  | .sl true [] => some (.own H.length 0 0 0 true, H ++ [dead0])
  | .own id 0 0 0 true => some (.own H.length 0 0 0 true, H.set id dead0 ++ [dead0])
  | .own id off len cb false => if off = 0 ∧ cb = len then (H[id]?).bind fun r => if r.live = true ∧ r.es.length = len then some (.own H.length 0 len len false, H.set id dead0 ++ [r]) else none else none
  | _ => none

theorem Res.repR {P : Program} {w : World} {F0 : Fz} {μ : Mu} {H : List Row} {v : Value} {w' : World} {r r' : A} {H' : List Row} (h : Res P w F0 μ H v w' r H') (hr : ∀ {F : Fz} {μ : Mu}, Rep P w' F μ r v → Rep P w' F μ r' v) : Res P w F0 μ H v w' r' H' := by
  obtain ⟨μ', h1, h2, h3, h4⟩ := h
  exact ⟨μ', h1, h2, h3, hr h4⟩

theorem Res.renum {P : Program} {w : World} {F0 : Fz} {μ : Mu} {H : List Row} {v : Value} {w' : World} {s r2 : A} {H1 H2 : List Row} (h : Res P w F0 μ H v w' s H1) (hn : AL.renum H1 s = some (r2, H2)) : Res P w F0 μ H v w' r2 H2 := by
  unfold AL.renum at hn
  split at hn
  · cases hn
    exact h.snocDead.repR fun hr => rep_empty (.inl rfl) hr _
  · cases hn
    exact ((h.kill _).snocDead).repR fun hr => rep_empty (.inr ⟨_, rfl⟩) hr _
  · rename_i id off len cb
    split at hn
    case isFalse => cases hn
    rename_i hc
    obtain ⟨rfl, rfl⟩ := hc
    obtain ⟨row, hrow, hn⟩ := Option.bind_eq_some_iff.1 hn
    split at hn
    case isFalse => cases hn
    rename_i hl
    obtain ⟨hlive, hlen⟩ := hl
    cases hn
    obtain ⟨μ', h1, h2, h3, h4⟩ := h
    cases h4 with | own _ id off len cb ex b bs cap ty n hμ hsh hfit hlen2 hcb hmax hex ao hat =>
    obtain ⟨cur, c1, c2, c3, c4, c5⟩ := h1.cells hrow hlive hμ hsh
    obtain ⟨hs2, hA2⟩ := h1.rebase (d := dead0) (off := 0) (f' := row.f) rfl hrow hlive hμ (by omega) (by omega) hsh
    have hrr : (⟨row.ty, row.sz, row.es.drop 0, row.f, true⟩ : Row) = row := by
      obtain ⟨a1, a2, a3, a4, a5⟩ := row
      simp only at hlive
      subst hlive
      simp
    rw [hrr, Nat.zero_mul, Nat.add_zero] at hs2 hA2
    have hid : id < μ'.length := (List.getElem?_eq_some_iff.1 hμ).1
    refine ⟨_, hs2, h2.trans hA2, h3.trans (List.prefix_append _ _), ?_⟩
    refine .own _ _ _ _ _ _ b bs cap ty n ?_ (hA2.shape b ty n hsh) hfit hlen2 hcb hmax hex ao hat
    rw [List.getElem?_append_right (by rw [h1.len]; exact Nat.le_refl _), h1.len]; simp
  · cases hn

def agrowT (P : Program) (H : List Row) (e : TypeId) (s : A) (olds news : List A) : Option (A × List Row) :=
  match news with
  | [] => (agrow P H e s olds []).map fun y => (renum y.2 y.1).getD y
  | n :: ns => agrow P H e s olds (n :: ns)

def aappend2 (P : Program) (H : List Row) (ts : Array TypeId) (s x : A) : Option (A × List Row) :=
  match ts[0]?, ts[1]? with
  | some t, some t' =>
    match P.underlying t with
    | some (.slice e) =>
      match zbox P e with
      | some (_, bytes) =>
        if isSliceT P t' ∧ P.cellsOf e ≠ 0 then
          (asrc P H e s).bind fun olds => (asrc P H e x).bind fun news =>
            if olds.length + news.length ≤ 9223372036854775807 ∧ (olds.length + news.length) * bytes ≤ 140737488355328 then agrowT P H e s olds news
            else none
        else none
      | none => none
    | _ => none
  | _, _ => none

theorem aappend2_of {P : Program} {H : List Row} {ts : Array TypeId} {s x r : A} {H' : List Row} (h : aappend2 P H ts s x = some (r, H')) :
    aappend P H ts s x = some (r, H') ∨ ∃ y, aappend P H ts s x = some y ∧ renum y.2 y.1 = some (r, H') := by
  unfold aappend2 at h
  unfold aappend
  split at h
  · rename_i t t' h1 h2
    simp only [h1, h2]
    split at h
    · rename_i e h3
      simp only [h3]
      split at h
      · rename_i z bytes h4
        simp only [h4]
        split at h
        · rename_i h5
          rw [if_pos h5]
          obtain ⟨olds, h6, h⟩ := Option.bind_eq_some_iff.1 h
          obtain ⟨news, h7, h⟩ := Option.bind_eq_some_iff.1 h
          split at h
          · rename_i h8
            simp only [h6, h7, Option.bind_some]
            rw [if_pos h8]
            unfold agrowT at h
            split at h
            · obtain ⟨y, hy, h⟩ := Option.map_eq_some_iff.1 h
              rw [hy]
              cases hr : renum y.2 y.1 with
              | none => rw [hr] at h; exact .inl (by rw [← h]; rfl)
              | some q => rw [hr] at h; exact .inr ⟨y, rfl, by rw [hr, ← h]; rfl⟩
            · exact .inl h
          · cases h
        · cases h
      · cases h
    · cases h
  · cases h

theorem s_aappend2 {P : Program} {w : World} {F0 : Fz} {μ : Mu} {H H' : List Row} {ts : Array TypeId} {ty : TypeId} {s x r : A} {vs vx : Value} (hs : HS P w F0 μ H)
    (hS : Rep P w (Ft F0 μ H) μ s vs) (hX : Rep P w (Ft F0 μ H) μ x vx) (h : aappend2 P H ts s x = some (r, H')) :
    ∃ v' w', (Builtin.append_ ts ty #[vs, vx]).run P w = .ok v' w' ∧ Res P w F0 μ H v' w' r H' := by
  rcases aappend2_of h with h | ⟨y, h1, h2⟩
  · exact s_aappend hs hS hX h
  · obtain ⟨v', w', k1, k2⟩ := s_aappend (ty := ty) (r := y.1) (H' := y.2) hs hS hX h1
    exact ⟨v', w', k1, k2.renum h2⟩

/-! A slice that is made with all its room in use. -/
theorem rep_loose {P : Program} {w : World} {F : Fz} {μ : Mu} {v : Value} {id off len cb : Nat} (h0 : cb ≠ 0) (h : Rep P w F μ (.own id off len cb true) v) : Rep P w F μ (.own id off len cb false) v := by
  cases h with
  | own _ _ _ _ _ _ b bs cap ty n hμ hs hfit hlen hcb hmax hex ao hat => exact .own _ _ _ _ _ _ b bs cap ty n hμ hs hfit hlen hcb hmax (by simp) ao hat
  | ownn _ _ _ a => exact (h0 rfl).elim

def amake2 (P : Program) (H : List Row) (t : TypeId) (l c : A) : Option (A × List Row) :=
  match l, c with
  | .int .i64 n, .int .i64 m =>
    if n = m then (amake P H t (.int .i64 n) (.int .i64 n)).bind fun y => if n.toNat = 0 then some (.own H.length 0 0 0 true, y.2.set H.length dead0) else some (.own H.length 0 n.toNat n.toNat false, y.2)
    else amake P H t l c
  | _, _ => amake P H t l c

theorem amake_own {P : Program} {H : List Row} {t : TypeId} {n : Int} {y : A × List Row} (h : amake P H t (.int .i64 n) (.int .i64 n) = some y) : y.1 = .own H.length 0 n.toNat n.toNat true := by
  unfold amake at h
  split at h
  · rename_i e l c hu hl hc
    cases hl; cases hc
    split at h
    · split at h
      · cases h; rfl
      · cases h
    · cases h
  · cases h

theorem s_amake2 {P : Program} {w : World} {F0 : Fz} {μ : Mu} {H H' : List Row} {t : TypeId} {l c r : A} {vl vc : Value} (hs : HS P w F0 μ H) (hl : Rep P w (Ft F0 μ H) μ l vl) (hc : Rep P w (Ft F0 μ H) μ c vc) (h : amake2 P H t l c = some (r, H')) :
    ∃ v' w', (Instr.makeSlice t vl vc).run P w = .ok v' w' ∧ Res P w F0 μ H v' w' r H' ∧ Adv w NoF w' NoF := by
  unfold amake2 at h
  split at h
  · rename_i n m
    split at h
    · rename_i he
      subst he
      obtain ⟨y, hy, h⟩ := Option.bind_eq_some_iff.1 h
      obtain ⟨v', w', h1, h2, h3⟩ := s_amake hs hl hc hy
      refine ⟨v', w', h1, ?_, h3⟩
      split at h
      · rename_i h0
        cases h
        refine (h2.kill _).repR fun hr => ?_
        rw [amake_own hy, h0] at hr
        exact rep_empty (.inr ⟨_, rfl⟩) hr _
      · rename_i h0
        cases h
        rw [amake_own hy] at h2
        exact h2.repR fun hr => rep_loose h0 hr
    · exact s_amake hs hl hc h
  · exact s_amake hs hl hc h
end Go.AL
/- An abstract layer over the walk, 9c: maps, whose keys are numbers, texts, or pairs of numbers. No program in sight. -/
namespace Go.AL

/-! Values without live rows in them. -/
mutual
def A.noid : A → Bool
  | .own .. => false
  | .pto .. => false
  | .mp _ => false
  | .agg cs => noidL cs
  | .tup cs => noidL cs
  | .fn _ cs => noidL cs
  | _ => true
def noidL : List A → Bool
  | [] => true
  | x :: xs => x.noid && noidL xs
end

theorem noidL_get : ∀ {xs : List A}, noidL xs = true → ∀ (i : Nat) (x : A), xs[i]? = some x → x.noid = true
  | [], _, i, x, h => by simp at h
  | y :: ys, hn, 0, x, h => by simp at h; subst h; simp [noidL] at hn; exact hn.1
  | y :: ys, hn, i + 1, x, h => by simp at h; simp [noidL] at hn; exact noidL_get hn.2 i x h

theorem Rep.noid {P : Program} {w : World} {F : Fz} {μ : Mu} {a : A} {v : Value} (h : Rep P w F μ a v) (hn : a.noid = true) : Rep P w F [] a v := by
  induction h with
  | int μ k n => exact .int _ k n
  | bool μ b => exact .bool _ b
  | ub μ b => exact .ub _ b
  | str μ l => exact .str _ l
  | slnil μ full a => exact .slnil _ full a
  | sl μ full es b off n cap sz V hl hcap hmax hfull hsz hrep hcell ih => exact .sl _ full es b off n cap sz V hl hcap hmax hfull hsz hrep hcell
  | own => simp [A.noid] at hn
  | ownn => simp [A.noid] at hn
  | ptr μ d b off v hrep hnc hcell ih => exact .ptr _ d b off v hrep hnc hcell
  | pto => simp [A.noid] at hn
  | mp => simp [A.noid] at hn
  | nptr μ => exact .nptr _
  | agg μ cs vs hl h1 h ih => exact .agg _ cs vs hl h1 (fun i c u hc hu => ih i c u hc hu (noidL_get (by simpa [A.noid] using hn) i c hc))
  | tup μ cs vs hl h ih => exact .tup _ cs vs hl (fun i c u hc hu => ih i c u hc hu (noidL_get (by simpa [A.noid] using hn) i c hc))
  | fn μ f cs vs hl h ih => exact .fn _ f cs vs hl (fun i c u hc hu => ih i c u hc hu (noidL_get (by simpa [A.noid] using hn) i c hc))
  | nfn μ => exact .nfn _
  | any μ v => exact .any _ v

/-- A map's row: its entries, pairs of a key and a value. -/
def RMp (es : List A) : Row := ⟨4294967295, 0, es, 0, true⟩

def isIntD (P : Program) (t : TypeId) : Bool := match P.underlying t with | some (.int _) => true | _ => false
/-- What kind of keys? 1: numbers, 3: texts, 2: pairs of numbers. -/
def keyT (P : Program) (t : TypeId) : Nat :=
  match P.underlying t with
  | some (.int _) => 1
  | some .string => 3
  | some (.struct fs) =>
    match fs.toList with
    | [f0, f1] => if (f0.name ≠ "_" ∧ f1.name ≠ "_" ∧ f0.offset = 0 ∧ f1.offset = 1) ∧ (isIntD P f0.type = true ∧ isIntD P f1.type = true ∧ P.cellsOf f0.type = 1 ∧ P.cellsOf f1.type = 1) ∧ eqT P t = some [0, 0] then 2 else 0
    | _ => 0
  | _ => 0

def keq (P : Program) (t : TypeId) (x y : A) : Option Bool :=
  match x, y with
  | .int k a, .int k' b => if keyT P t = 1 ∧ k = k' then some (decide (a = b)) else none
  | .str a, .str b => if keyT P t = 3 then some (decide (a = b)) else none
  | .agg [.int k a, .int l b], .agg [.int k' a', .int l' b'] => if keyT P t = 2 ∧ k = k' ∧ l = l' then some (decide (a = a') && decide (b = b')) else none
  | _, _ => none
/-- Can it be a key? -/
def keyOK (P : Program) (t : TypeId) (x : A) : Bool :=
  match x with
  | .int _ _ => keyT P t == 1
  | .str _ => keyT P t == 3
  | .agg [.int _ _, .int _ _] => keyT P t == 2
  | _ => false

def afind (eq : A → Option Bool) : List A → Option (Option (Nat × A))
  | [] => some none
  | .tup [ka, va] :: es =>
    match eq ka with
    | some true => some (some (0, va))
    | some false => (afind eq es).map (Option.map fun p => (p.1 + 1, p.2))
    | none => none
  | _ => none

section
variable {P : Program} {w : World} {F : Fz}

theorem MEnt.cons {e : A} {es : List A} {m : MapEntry} {ms : List MapEntry} (h : MEnt P w F (e :: es) (m :: ms)) : (∃ ka va, e = .tup [ka, va] ∧ Rep P w F [] ka m.key ∧ Rep P w F [] va m.val) ∧ MEnt P w F es ms :=
  ⟨h.2 0 e m rfl rfl, by simpa using h.1, fun k e' m' he hm => h.2 (k + 1) e' m' (by simpa using he) (by simpa using hm)⟩

/-- What was found, and what stands there. -/
def FR (P : Program) (w : World) (F : Fz) (vk : Value) (r : Option (Nat × A)) (r' : Option (Nat × Value)) (i : Nat) (ms : List MapEntry) : Prop :=
  (r = none ∧ r' = none) ∨ ∃ j va m, r = some (j, va) ∧ r' = some (i + j, m.val) ∧ ms[j]? = some m ∧ m.key = vk ∧ Rep P w F [] va m.val

theorem FR.succ {vk : Value} {r : Option (Nat × A)} {r' : Option (Nat × Value)} {i : Nat} {m : MapEntry} {ms : List MapEntry} (h : FR P w F vk r r' (i + 1) ms) : FR P w F vk (r.map fun p => (p.1 + 1, p.2)) r' i (m :: ms) := by
  rcases h with ⟨rfl, rfl⟩ | ⟨j, va, m', rfl, rfl, h1, h2, h3⟩
  · exact .inl ⟨rfl, rfl⟩
  · exact .inr ⟨j + 1, va, m', rfl, by rw [show i + 1 + j = i + (j + 1) by omega], by simpa using h1, h2, h3⟩

theorem findNow_of {d : TypeDesc} {kt : TypeId} {k : A} {vk : Value} (step : ∀ ka vka b, Rep P w F [] ka vka → keq P kt k ka = some b → Instr.sameNow d vk vka = some b ∧ (b = true → vka = vk)) :
    ∀ (es : List A) (ms : List MapEntry) (i : Nat) (r : Option (Nat × A)), MEnt P w F es ms → afind (keq P kt k) es = some r → ∃ r', Instr.findNow d vk ms i = some r' ∧ FR P w F vk r r' i ms
  | [], [], i, r, _, h => by simp [afind] at h; subst h; exact ⟨none, rfl, .inl ⟨rfl, rfl⟩⟩
  | [], _ :: _, _, _, hm, _ => by have := hm.1; simp at this
  | _ :: _, [], _, _, hm, _ => by have := hm.1; simp at this
  | e :: es, m :: ms, i, r, hm, h => by
    obtain ⟨⟨ka, va, rfl, h1, h2⟩, h3⟩ := hm.cons
    simp only [afind] at h
    split at h
    · rename_i hq
      cases h
      obtain ⟨s1, s2⟩ := step ka m.key true h1 hq
      exact ⟨some (i, m.val), by simp [Instr.findNow, s1], .inr ⟨0, va, m, rfl, rfl, rfl, s2 rfl, h2⟩⟩
    · rename_i hq
      obtain ⟨r0, hr0, rfl⟩ := Option.map_eq_some_iff.1 h
      obtain ⟨s1, _⟩ := step ka m.key false h1 hq
      obtain ⟨r', hr', hf⟩ := findNow_of step es ms (i + 1) r0 h3 hr0
      exact ⟨r', by simp [Instr.findNow, s1, hr'], hf.succ⟩
    · cases h

theorem findAsking_of {kt : TypeId} {k : A} {vk : Value} (step : ∀ ka vka b, Rep P w F [] ka vka → keq P kt k ka = some b → (Op.equal kt vk vka).run P w = .ok b w ∧ (b = true → vka = vk)) :
    ∀ (es : List A) (ms : List MapEntry) (i : Nat) (r : Option (Nat × A)), MEnt P w F es ms → afind (keq P kt k) es = some r → ∃ r', (Instr.findAsking kt vk ms i).run P w = .ok r' w ∧ FR P w F vk r r' i ms
  | [], [], i, r, _, h => by simp [afind] at h; subst h; exact ⟨none, by simp [Instr.findAsking], .inl ⟨rfl, rfl⟩⟩
  | [], _ :: _, _, _, hm, _ => by have := hm.1; simp at this
  | _ :: _, [], _, _, hm, _ => by have := hm.1; simp at this
  | e :: es, m :: ms, i, r, hm, h => by
    obtain ⟨⟨ka, va, rfl, h1, h2⟩, h3⟩ := hm.cons
    simp only [afind] at h
    split at h
    · rename_i hq
      cases h
      obtain ⟨s1, s2⟩ := step ka m.key true h1 hq
      exact ⟨some (i, m.val), by simp [Instr.findAsking, s1], .inr ⟨0, va, m, rfl, rfl, rfl, s2 rfl, h2⟩⟩
    · rename_i hq
      obtain ⟨r0, hr0, rfl⟩ := Option.map_eq_some_iff.1 h
      obtain ⟨s1, _⟩ := step ka m.key false h1 hq
      obtain ⟨r', hr', hf⟩ := findAsking_of step es ms (i + 1) r0 h3 hr0
      exact ⟨r', by simp [Instr.findAsking, s1, hr'], hf.succ⟩
    · cases h

theorem keyT_pair {t : TypeId} (h : keyT P t = 2) : ∃ fs f0 f1, P.underlying t = some (.struct fs) ∧ fs.toList = [f0, f1] ∧ (f0.name ≠ "_" ∧ f1.name ≠ "_" ∧ f0.offset = 0 ∧ f1.offset = 1) ∧ (isIntD P f0.type = true ∧ isIntD P f1.type = true ∧ P.cellsOf f0.type = 1 ∧ P.cellsOf f1.type = 1) ∧ eqT P t = some [0, 0] := by
  unfold keyT at h
  split at h
  · cases h
  · cases h
  · rename_i fs hu
    split at h
    · rename_i f0 f1 hl
      split at h
      · rename_i hc; exact ⟨fs, f0, f1, hu, hl, hc.1, hc.2.1, hc.2.2⟩
      · cases h
    · cases h
  · cases h
theorem keyT_int {t : TypeId} (h : keyT P t = 1) : ∃ k, P.underlying t = some (.int k) := by
  unfold keyT at h
  split at h
  · rename_i k hu; exact ⟨k, hu⟩
  · cases h
  · split at h
    · split at h <;> cases h
    · cases h
  · cases h
theorem keyT_str {t : TypeId} (h : keyT P t = 3) : P.underlying t = some .string := by
  unfold keyT at h
  split at h
  · cases h
  · rename_i hu; exact hu
  · split at h
    · split at h <;> cases h
    · cases h
  · cases h

theorem s_findKey {kt : TypeId} {k : A} {vk : Value} {es : List A} {ms : List MapEntry} {r : Option (Nat × A)} (hok : keyOK P kt k = true) (hk : Rep P w F [] k vk) (hm : MEnt P w F es ms) (h : afind (keq P kt k) es = some r) :
    ∃ r', (Instr.findKey kt vk ms).run P w = .ok r' w ∧ FR P w F vk r r' 0 ms := by
  unfold keyOK at hok
  split at hok
  · rename_i kk a
    have hT : keyT P kt = 1 := by simpa using hok
    obtain ⟨k0, hu⟩ := keyT_int hT
    cases hk
    obtain ⟨r', h1, h2⟩ := findNow_of (d := .int k0) (vk := .int kk a) (fun ka vka b hr hq => by
      unfold keq at hq
      split at hq
      · rename_i heq; cases heq; cases hr
        split at hq
        · rename_i hc
          obtain ⟨_, rfl⟩ := hc
          cases hq
          simp [Instr.sameNow]
          refine ⟨by rw [Bool.eq_iff_iff]; simp, fun e => e.symm⟩
        · cases hq
      · rename_i heq; cases heq
      · rename_i heq; cases heq
      · cases hq) es ms 0 r hm h
    exact ⟨r', by simp [Instr.findKey, run_underlying hu, Result.andThen, h1], h2⟩
  · rename_i a
    have hT : keyT P kt = 3 := by simpa using hok
    have hu := keyT_str hT
    cases hk
    obtain ⟨r', h1, h2⟩ := findNow_of (d := .string) (vk := .string ⟨⟨a⟩⟩) (fun ka vka b hr hq => by
      unfold keq at hq
      split at hq
      · rename_i heq; cases heq
      · rename_i heq; cases heq; cases hr
        rename_i c
        rw [if_pos hT] at hq
        cases hq
        simp only [Instr.sameNow, Option.some.injEq]
        refine ⟨?_, ?_⟩
        · rw [Bool.eq_iff_iff, MapKept.bytes_beq]
          simp
        · intro e; simp at e; rw [e]
      · rename_i heq; cases heq
      · cases hq) es ms 0 r hm h
    exact ⟨r', by simp [Instr.findKey, run_underlying hu, Result.andThen, h1], h2⟩
  · rename_i kk a ll b
    have hT : keyT P kt = 2 := by simpa using hok
    obtain ⟨fs, f0, f1, hu, _, _, _, hE⟩ := keyT_pair hT
    have hk0 := hk
    have hE0 := hE
    unfold eqT at hE
    split at hE
    case isFalse => cases hE
    rename_i hag
    obtain ⟨ks, hks, hE⟩ := Option.bind_eq_some_iff.1 hE
    split at hE
    case isFalse => cases hE
    rename_i hkl
    cases hE
    cases hk with | agg _ _ vs hl h1 hh =>
    have step : ∀ ka vka b', Rep P w F [] ka vka → keq P kt (.agg [.int kk a, .int ll b]) ka = some b' → (Op.equal kt (.agg ⟨vs⟩) vka).run P w = .ok b' w ∧ (b' = true → vka = .agg ⟨vs⟩) := by
      intro ka vka b' hr hq
      unfold keq at hq
      split at hq
      · rename_i heq; cases heq
      · rename_i heq; cases heq
      · rename_i heq
        cases heq
        rename_i k' a' l' b''
        split at hq
        case isFalse => cases hq
        rename_i hc
        obtain ⟨_, rfl, rfl⟩ := hc
        cases hq
        cases hr with | agg _ _ us hl' h1' hh' =>
        have hv : aeqs [0, 0] [.int kk a, .int ll b] [.int kk a', .int ll b''] = some (decide (a = a') && decide (b = b'')) := by
          simp [aeqs, eqPair]
        have := run_eqK 9990 10 kt [0, 0] vs us _ w hks hkl (aeqs_V hl hl' hh hh' hv)
        refine ⟨by simpa [packV, hag.1, Op.equal, Op.maxDepth] using this, ?_⟩
        intro e
        simp only [Bool.and_eq_true, decide_eq_true_eq] at e
        obtain ⟨rfl, rfl⟩ := e
        match vs, us, hl, hl', hh, hh' with
        | [v0, v1], [u0, u1], _, _, hh, hh' =>
          have e0 := (hh 0 _ v0 rfl rfl).int_inv
          have e1 := (hh 1 _ v1 rfl rfl).int_inv
          have e2 := (hh' 0 _ u0 rfl rfl).int_inv
          have e3 := (hh' 1 _ u1 rfl rfl).int_inv
          subst e0 e1 e2 e3
          rfl
      · cases hq
    have hfn : ∀ m ms', Instr.findNow (.struct fs) (.agg ⟨vs⟩) (m :: ms') 0 = none := by
      intro m ms'
      simp [Instr.findNow, Instr.sameNow]
    cases ms with
    | nil =>
      have hes : es = [] := List.eq_nil_of_length_eq_zero (by have := hm.1; simpa using this.symm)
      subst hes
      simp [afind] at h
      subst h
      exact ⟨none, by simp [Instr.findKey, run_underlying hu, Result.andThen, Instr.findNow], .inl ⟨rfl, rfl⟩⟩
    | cons m ms =>
      obtain ⟨r', g1, g2⟩ := findAsking_of step es (m :: ms) 0 r hm h
      exact ⟨r', by simp only [Instr.findKey, Sem.run_bind, run_underlying hu, Result.andThen, hfn]; exact g1, g2⟩
  · cases hok

theorem run_checkKeyN {kt : TypeId} {k : A} {vk : Value} (hok : keyOK P kt k = true) (hk : Rep P w F [] k vk) (e : Bool) (n : Nat) : (Instr.checkKey e (n + 2) kt vk).run P w = .ok () w := by
  have one : ∀ (t : TypeId) (k0 : IntKind) (v : Value), P.underlying t = some (.int k0) → (Instr.checkKey e (n + 1) t v).run P w = .ok () w := by
    intro t k0 v hu
    unfold Instr.checkKey
    simp only [Sem.run_bind, run_underlying hu, Result.andThen]
    cases v <;> rfl
  unfold keyOK at hok
  split at hok
  · obtain ⟨k0, hu⟩ := keyT_int (by simpa using hok)
    cases hk
    unfold Instr.checkKey
    simp only [Sem.run_bind, run_underlying hu, Result.andThen]
    rfl
  · have hu := keyT_str (by simpa using hok)
    cases hk
    unfold Instr.checkKey
    simp only [Sem.run_bind, run_underlying hu, Result.andThen]
    rfl
  · obtain ⟨fs, f0, f1, hu, hl, ⟨n0, n1, o0, o1⟩, ⟨i0, i1, c0, c1⟩, _⟩ := keyT_pair (by simpa using hok)
    cases hk with | agg _ _ vs hlen h1 hh =>
    have hfs : fs = #[f0, f1] := by cases fs; simpa using hl
    subst hfs
    unfold isIntD at i0 i1
    split at i0
    case h_2 => cases i0
    rename_i k0 hu0
    split at i1
    case h_2 => cases i1
    rename_i k1 hu1
    have p0 := run_part_pack (P := P) (d := 1) (t := f0.type) (k := [0]) (by simp [eqK, hu0, c0]) vs 0 (by rw [c0, hlen]; simp) w
    have p1 := run_part_pack (P := P) (d := 1) (t := f1.type) (k := [0]) (by simp [eqK, hu1, c1]) vs 1 (by rw [c1, hlen]; simp) w
    have q0 := fun v => one f0.type k0 v hu0
    have q1 := fun v => one f1.type k1 v hu1
    unfold Instr.checkKey
    simp only [Sem.run_bind, run_underlying hu, Result.andThen]
    simp [n0, n1, o0, o1, p0, p1, q0, q1, Result.andThen]
  · cases hok
theorem run_checkKeyA {kt : TypeId} {k : A} {vk : Value} (hok : keyOK P kt k = true) (hk : Rep P w F [] k vk) (e : Bool) : (Instr.checkKey e 10000 kt vk).run P w = .ok () w := run_checkKeyN hok hk e 9998
end

/-! The operations. -/
def amkmap (P : Program) (H : List Row) (_t : TypeId) : Option (A × List Row) := if P.cellsOf 4294967295 = 0 then some (.mp H.length, H ++ [RMp []]) else none

def alookup (P : Program) (H : List Row) (t : TypeId) (x k : A) (ok : Bool) : Option A :=
  match P.underlying t, x with
  | some (.map kt et), .mp id => (H[id]?).bind fun r =>
    if r.live = true ∧ r.sz = 0 ∧ keyOK P kt k = true ∧ k.noid = true then
      (afind (keq P kt k) r.es).bind fun f =>
        match f with
        | some p => some (if ok then .tup [p.2, .bool true] else p.2)
        | none => (zbox P et).map fun z => if ok then .tup [z.1, .bool false] else z.1
    else none
  | _, _ => none

def amapset (P : Program) (H : List Row) (t : TypeId) (x k v : A) : Option (List Row) :=
  match P.underlying t, x with
  | some (.map kt _), .mp id => (H[id]?).bind fun r =>
    if r.live = true ∧ r.sz = 0 ∧ keyOK P kt k = true ∧ k.noid = true ∧ v.noid = true then
      (afind (keq P kt k) r.es).map fun f =>
        match f with
        | some p => H.set id { r with es := r.es.set p.1 (.tup [k, v]) }
        | none => H.set id { r with es := r.es ++ [.tup [k, v]] }
    else none
  | _, _ => none

section
variable {P : Program} {w : World} {F0 : Fz} {μ : Mu} {H : List Row}

theorem HS.mapOK (hs : HS P w F0 μ H) {i : Nat} {r : Row} {b bs : Nat} (hr : H[i]? = some r) (hl : r.live = true) (hb : μ[i]? = some (b, bs)) (hz : r.sz = 0) : MapOK P w (Ft F0 μ H) r b bs := by
  rcases hs.row i r b bs hr hl hb with ⟨_, _, _, h, _⟩ | h
  · exact (h hz).elim
  · exact h

theorem HS.newMap {w' : World} (hs : HS P w F0 μ H) (hp : Pushed w w' (.map #[] 0)) (hc : P.cellsOf 4294967295 = 0) :
    HS P w' F0 (μ ++ [(w.heap.size, 0)]) (H ++ [RMp []]) ∧ Adv w (Fof μ H) w' (Fof (μ ++ [(w.heap.size, 0)]) (H ++ [RMp []])) := by
  have hmono : ∀ b x, b < w.heap.size → Fof (μ ++ [(w.heap.size, 0)]) (H ++ [RMp []]) b x → Fof μ H b x := by
    intro b x hb hf
    rcases Fof_app hs.len hf with h | ⟨rfl, _, _⟩
    · exact h
    · omega
  have hA := hp.adv (Fof μ H) hmono
  have hpre : μ <+: μ ++ [(w.heap.size, 0)] := List.prefix_append _ _
  have old : ∀ (i : Nat) (r : Row) (b bs : Nat), (H ++ [RMp []])[i]? = some r → r.live = true → (μ ++ [(w.heap.size, 0)])[i]? = some (b, bs) → (i < H.length ∧ H[i]? = some r ∧ μ[i]? = some (b, bs) ∧ b < w.heap.size) ∨ (i = H.length ∧ r = RMp [] ∧ b = w.heap.size ∧ bs = 0) := by
    intro i r b bs hr hlive hb
    by_cases hi : i < H.length
    · rw [List.getElem?_append_left hi] at hr
      rw [List.getElem?_append_left (by rw [hs.len]; exact hi)] at hb
      exact .inl ⟨hi, hr, hb, hs.lt (o := bs + r.f * r.sz) (.inr ⟨i, r, bs, hr, hlive, hb, Nat.le_refl _⟩)⟩
    · rw [List.getElem?_append_right (by omega)] at hr
      rw [List.getElem?_append_right (by rw [hs.len]; omega), hs.len] at hb
      have : i - H.length = 0 := by
        rcases Nat.eq_zero_or_pos (i - H.length) with h0 | h0
        · exact h0
        · rw [List.getElem?_eq_none (by simp; omega)] at hr; cases hr
      rw [this] at hr hb
      simp at hr hb
      exact .inr ⟨by omega, hr.symm, hb.1.symm, hb.2.symm⟩
  refine ⟨⟨by simp [hs.len], fun b o h => by rw [hp.size]; have := hs.bound b o h; omega, ?_, ?_, ?_⟩, hA⟩
  · intro i r b bs hr hl hb
    rcases old i r b bs hr hl hb with ⟨_, h2, h3, h4⟩ | ⟨_, rfl, rfl, rfl⟩
    · rcases hs.row i r b bs h2 hl h3 with k | k
      · exact .inl (k.adv (hA.join F0) hpre (hp.old h4))
      · exact .inr (k.adv (hA.join F0) (hp.old h4))
    · exact .inr ⟨hc, rfl, rfl, #[], 0, hp.new, rfl, by intro k e m he; simp [RMp] at he⟩
  · intro i j r r' b bs bs' hr hlr hr' hlr' hb hb'
    rcases old i r b bs hr hlr hb with ⟨h1, h2, h3, h4⟩ | ⟨h1, _, h2, _⟩ <;> rcases old j r' b bs' hr' hlr' hb' with ⟨k1, k2, k3, k4⟩ | ⟨k1, _, k2, _⟩
    · exact hs.inj i j r r' b bs bs' h2 hlr k2 hlr' h3 k3
    · omega
    · omega
    · omega
  · intro i r b bs o hr hlive hb hf
    have hlt := hs.bound b o hf
    rcases old i r b bs hr hlive hb with ⟨h1, h2, h3, h4⟩ | ⟨h1, _, h2, _⟩
    · exact hs.sep i r b bs o h2 hlive h3 hf
    · omega

theorem s_amkmap {H' : List Row} {t : TypeId} {r : A} (hs : HS P w F0 μ H) (h : amkmap P H t = some (r, H')) :
    ∃ v' w', (Instr.makeMap t none).run P w = .ok v' w' ∧ Res P w F0 μ H v' w' r H' ∧ Adv w NoF w' NoF := by
  unfold amkmap at h
  split at h
  · rename_i hc; cases h
    have hp : Pushed w (w.alloc (.map #[] 0)) (.map #[] 0) := pushed_alloc w _
    obtain ⟨h1, h2⟩ := hs.newMap hp hc
    refine ⟨.map (some w.heap.size), w.alloc (.map #[] 0), by simp [Instr.makeMap, Result.andThen], ⟨_, h1, h2, List.prefix_append _ _, ?_⟩, hp.adv NoF fun _ _ _ h => h⟩
    exact .mp _ _ _ (by rw [List.getElem?_append_right (by rw [hs.len]; exact Nat.le_refl _), hs.len]; simp)
  · cases h

theorem s_alookup {t : TypeId} {x k r : A} {ok : Bool} {vx vk : Value} (hs : HS P w F0 μ H) (hx : Rep P w (Ft F0 μ H) μ x vx) (hk : Rep P w (Ft F0 μ H) μ k vk) (h : alookup P H t x k ok = some r) :
    ∃ v, (∀ w', Adv w NoF w' NoF → (Instr.lookup t vx vk ok).run P w' = .ok v w') ∧ Rep P w (Ft F0 μ H) μ r v := by
  unfold alookup at h
  split at h
  · rename_i kt et id hu
    obtain ⟨row, hrow, h⟩ := Option.bind_eq_some_iff.1 h
    split at h
    case isFalse => cases h
    rename_i hc
    obtain ⟨hl, hz, hok, hn⟩ := hc
    obtain ⟨f, hf, h⟩ := Option.bind_eq_some_iff.1 h
    cases hx with | mp _ _ b hμ =>
    obtain ⟨_, _, _, ms, clock, hb, hm⟩ := hs.mapOK hrow hl hμ hz
    have hk0 := hk.noid hn
    obtain ⟨r', _, h2⟩ := s_findKey hok hk0 hm hf
    have hgetQ : ∀ w', Adv w NoF w' NoF → (getObj b).run P w' = .ok (.map ms clock) w' := fun w' hA =>
      MapKept.run_getObj_map (P := P) (by rw [hA.block b (Array.getElem?_eq_some_iff.1 hb).1 (fun _ hf => hf)]; exact hb)
    have hckQ : ∀ w', Adv w NoF w' NoF → (Instr.checkKey ms.isEmpty 10000 kt vk).run P w' = .ok () w' := fun w' hA => run_checkKeyA hok (hk0.adv (hA.ofNo _) (List.prefix_refl _)) ms.isEmpty
    have hfkQ : ∀ w', Adv w NoF w' NoF → (Instr.findKey kt vk ms.toList).run P w' = .ok r' w' := fun w' hA => by
      obtain ⟨r2, g1, g2⟩ := s_findKey hok (hk0.adv (hA.ofNo _) (List.prefix_refl _)) (hm.adv (hA.ofNo _)) hf
      rw [g1]
      rcases h2 with ⟨rfl, rfl⟩ | ⟨j, va, m, rfl, rfl, h3, _⟩ <;> rcases g2 with ⟨k1, rfl⟩ | ⟨j2, va2, m2, k1, rfl, k3, _⟩
      · rfl
      · cases k1
      · cases k1
      · cases k1
        rw [h3] at k3
        cases k3
        rfl
    rcases h2 with ⟨rfl, rfl⟩ | ⟨j, va, m, rfl, rfl, h3, h4, h5⟩
    · obtain ⟨z, hzb, h⟩ := Option.map_eq_some_iff.1 h
      obtain ⟨inf, zv, hi, hzz, _, hz1, _⟩ := zbox_some hzb
      have hzr : ∀ w', (zeroValue et).run P w' = .ok zv w' := fun w' => by simp [zeroValue, typeInfo, hi, hzz]
      have hzrep : Rep P w (Ft F0 μ H) μ z.1 zv := by rw [hz1]; exact rep_ofV zv
      cases ok
      · simp at h; subst h
        exact ⟨zv, fun w' hA => by simp [Instr.lookup, run_underlying hu, hgetQ w' hA, hckQ w' hA, hfkQ w' hA, hzr, Result.andThen], hzrep⟩
      · simp at h; subst h
        refine ⟨.tuple #[zv, .bool false], fun w' hA => by simp [Instr.lookup, run_underlying hu, hgetQ w' hA, hckQ w' hA, hfkQ w' hA, hzr, Result.andThen], ?_⟩
        refine .tup _ _ [zv, .bool false] rfl ?_
        intro i c u hc hu'
        match i with
        | 0 => simp at hc hu'; subst hc hu'; exact hzrep
        | 1 => simp at hc hu'; subst hc hu'; exact .bool _ _
        | n + 2 => simp at hc
    · have hva : Rep P w (Ft F0 μ H) μ va m.val := h5.mono (fun _ _ _ h => h) List.nil_prefix
      cases ok
      · simp at h; subst h
        exact ⟨m.val, fun w' hA => by simp [Instr.lookup, run_underlying hu, hgetQ w' hA, hckQ w' hA, hfkQ w' hA, Result.andThen], hva⟩
      · simp at h; subst h
        refine ⟨.tuple #[m.val, .bool true], fun w' hA => by simp [Instr.lookup, run_underlying hu, hgetQ w' hA, hckQ w' hA, hfkQ w' hA, Result.andThen], ?_⟩
        refine .tup _ _ [m.val, .bool true] rfl ?_
        intro i c u hc hu'
        match i with
        | 0 => simp at hc hu'; subst hc hu'; exact hva
        | 1 => simp at hc hu'; subst hc hu'; exact .bool _ _
        | n + 2 => simp at hc
  · cases h

theorem HS.mwrite (hs : HS P w F0 μ H) {id b bs : Nat} {r : Row} {ms ms' : Array MapEntry} {clock clock' : Nat} {es' : List A} (hr : H[id]? = some r) (hl : r.live = true) (hb : μ[id]? = some (b, bs)) (hz : r.sz = 0) (hc : w.heap[b]? = some (.map ms clock))
    (hm : MEnt P w (Ft F0 μ H) es' ms'.toList) :
    HS P { w with heap := w.heap.setIfInBounds b (.map ms' clock') } F0 μ (H.set id { r with es := es' }) ∧ Adv w (Fof μ H) { w with heap := w.heap.setIfInBounds b (.map ms' clock') } (Fof μ (H.set id { r with es := es' })) := by
  obtain ⟨hw1, hw2⟩ := MapKept.heap_set (o' := .map ms' clock') hc
  have hmo : ∀ b o, Fof μ (H.set id { r with es := es' }) b o → Fof μ H b o := fun b o h => Fof_set (r' := { r with es := es' }) hr ⟨hl, Nat.le_refl _⟩ h
  have hA : Adv w (Fof μ H) { w with heap := w.heap.setIfInBounds b (.map ms' clock') } (Fof μ (H.set id { r with es := es' })) := by
    refine ⟨rfl, rfl, rfl, by simp, ?_, fun b o _ h => hmo b o h, ?_, ?_⟩
    · intro b' o u hu _
      by_cases hbb : b' = b
      · subst hbb; simp [World.cell?, hc] at hu
      · rw [← hu]; exact cell_eq (hw2 b' hbb) o
    · intro b' t n hsh
      by_cases hbb : b' = b
      · subst hbb; simp [World.shape?, hc] at hsh
      · rw [← hsh]; exact shape_eq (hw2 b' hbb)
    · intro b' _ hf
      refine hw2 b' ?_
      rintro rfl
      exact hf _ ⟨id, r, bs, hr, hl, hb, Nat.le_refl _⟩
  have get : ∀ (i : Nat) (x : Row), (H.set id { r with es := es' })[i]? = some x → (i = id ∧ x = { r with es := es' }) ∨ (i ≠ id ∧ H[i]? = some x) := by
    intro i x hx
    rw [List.getElem?_set] at hx
    split at hx
    · rename_i hi
      split at hx
      · cases hx; exact .inl ⟨hi.symm, rfl⟩
      · cases hx
    · rename_i hi; exact .inr ⟨fun h => hi h.symm, hx⟩
  have get2 : ∀ (i : Nat) (x : Row), (H.set id { r with es := es' })[i]? = some x → x.live = true → ∃ y, H[i]? = some y ∧ y.live = true := by
    intro i x hx hlx
    rcases get i x hx with ⟨rfl, rfl⟩ | ⟨_, h⟩
    · exact ⟨r, hr, hl⟩
    · exact ⟨x, h, hlx⟩
  refine ⟨⟨by simp [hs.len], fun b o h => by simpa using hs.bound b o h, ?_, ?_, ?_⟩, hA⟩
  · intro i x b1 bs1 hx hlx hb1
    rcases get i x hx with ⟨rfl, rfl⟩ | ⟨hne, h⟩
    · rw [hb] at hb1; cases hb1
      obtain ⟨g1, _, g3, _⟩ := hs.mapOK hr hl hb hz
      exact .inr ⟨g1, hz, g3, ms', clock', hw1, hm.adv (hA.join F0)⟩
    · have hbne : b1 ≠ b := by
        rintro rfl
        exact hne (hs.inj i id x r b1 bs1 bs h hlx hr hl hb1 hb)
      rcases hs.row i x b1 bs1 h hlx hb1 with k | k
      · exact .inl (k.adv (hA.join F0) (List.prefix_refl _) (hw2 b1 hbne))
      · exact .inr (k.adv (hA.join F0) (hw2 b1 hbne))
  · intro i j x x' b1 bs1 bs2 hx hl1 hx' hl2 hb1 hb2
    obtain ⟨y, hy, hyl⟩ := get2 i x hx hl1
    obtain ⟨y', hy', hyl'⟩ := get2 j x' hx' hl2
    exact hs.inj i j y y' b1 bs1 bs2 hy hyl hy' hyl' hb1 hb2
  · intro i x b1 bs1 o hx hl1 hb1
    obtain ⟨y, hy, hyl⟩ := get2 i x hx hl1
    exact hs.sep i y b1 bs1 o hy hyl hb1

theorem sameBits_key {kt : TypeId} {F : Fz} {k : A} {vk : Value} (hok : keyOK P kt k = true) (hk : Rep P w F [] k vk) : Instr.sameBits 10000 vk vk = true := by
  unfold keyOK at hok
  split at hok
  · cases hk; simp [Instr.sameBits]
  · cases hk; unfold Instr.sameBits; exact (MapKept.bytes_beq _ _).2 rfl
  · cases hk with | agg _ _ vs hlen h1 hh =>
    match vs, hlen, hh with
    | [v0, v1], _, hh =>
      have e0 := (hh 0 _ v0 rfl rfl).int_inv
      have e1 := (hh 1 _ v1 rfl rfl).int_inv
      subst e0 e1
      show Instr.sameBits (9999 + 1) _ _ = true
      unfold Instr.sameBits
      simp [Instr.sameBits]
  · cases hok

theorem s_amapset {H' : List Row} {t : TypeId} {x k v : A} {vx vk vv : Value} (hs : HS P w F0 μ H) (hx : Rep P w (Ft F0 μ H) μ x vx) (hk : Rep P w (Ft F0 μ H) μ k vk) (hv : Rep P w (Ft F0 μ H) μ v vv) (h : amapset P H t x k v = some H') :
    ∃ w', (Instr.mapUpdate t vx vk vv).run P w = .ok () w' ∧ HS P w' F0 μ H' ∧ Adv w (Fof μ H) w' (Fof μ H') := by
  unfold amapset at h
  split at h
  · rename_i kt et id hu
    obtain ⟨row, hrow, h⟩ := Option.bind_eq_some_iff.1 h
    split at h
    case isFalse => cases h
    rename_i hc
    obtain ⟨hl, hz, hok, hnk, hnv⟩ := hc
    obtain ⟨f, hf, h⟩ := Option.map_eq_some_iff.1 h
    cases hx with | mp _ _ b hμ =>
    obtain ⟨_, _, _, ms, clock, hb, hm⟩ := hs.mapOK hrow hl hμ hz
    have hk0 := hk.noid hnk
    have hv0 := hv.noid hnv
    obtain ⟨r', h1, h2⟩ := s_findKey hok hk0 hm hf
    have hck := run_checkKeyA hok hk0 false
    have hget := MapKept.run_getObj_map (P := P) hb
    rcases h2 with ⟨rfl, rfl⟩ | ⟨j, va, m, rfl, rfl, h3, h4, h5⟩
    · simp only at h
      subst h
      obtain ⟨g1, g2⟩ := hs.mwrite (ms' := ms.push { key := vk, val := vv, born := clock }) (clock' := clock + 1) (es' := row.es ++ [.tup [k, v]]) hrow hl hμ hz hb (by
        refine ⟨by simp [hm.1], ?_⟩
        intro i e m he hm'
        rw [Array.toList_push] at hm'
        rcases Nat.lt_or_ge i row.es.length with hi | hi
        · rw [List.getElem?_append_left hi] at he
          rw [List.getElem?_append_left (by rw [hm.1]; exact hi)] at hm'
          exact hm.2 i e m he hm'
        · rw [List.getElem?_append_right hi] at he
          rw [List.getElem?_append_right (by rw [hm.1]; exact hi), hm.1] at hm'
          have : i - row.es.length = 0 := by
            rcases Nat.eq_zero_or_pos (i - row.es.length) with h0 | h0
            · exact h0
            · rw [List.getElem?_eq_none (by simp; omega)] at he; cases he
          rw [this] at he hm'
          simp at he hm'
          subst he hm'
          exact ⟨k, v, rfl, hk0, hv0⟩)
      refine ⟨_, ?_, g1, g2⟩
      simp [Instr.mapUpdate, run_underlying hu, hget, hck, h1, MapKept.run_setObj_map _ hb, Result.andThen]
    · simp only [Nat.zero_add] at h h1
      subst h
      have hms : ms[j]? = some m := by simpa using h3
      have hstay : (Instr.keyThatStays m.key vk).run P w = .ok vk w := by
        rw [h4]; simp [Instr.keyThatStays, sameBits_key hok hk0]
      obtain ⟨g1, g2⟩ := hs.mwrite (ms' := ms.modify j fun e => { e with key := vk, val := vv }) (clock' := clock) (es' := row.es.set j (.tup [k, v])) hrow hl hμ hz hb (by
        refine ⟨by simpa using hm.1, ?_⟩
        intro i e m' he hm'
        rw [Array.getElem?_toList, Array.getElem?_modify] at hm'
        rw [List.getElem?_set] at he
        by_cases hij : j = i
        · subst hij
          rw [if_pos rfl] at he hm'
          split at he
          · cases he
            rw [hms] at hm'
            simp at hm'
            subst hm'
            exact ⟨k, v, rfl, hk0, hv0⟩
          · cases he
        · rw [if_neg hij] at he hm'
          exact hm.2 i e m' he (by simpa using hm'))
      refine ⟨_, ?_, g1, g2⟩
      simp [Instr.mapUpdate, run_underlying hu, hget, hck, h1, hms, hstay, MapKept.run_setObj_map _ hb, Result.andThen]
  · cases h
end
end Go.AL
/- An abstract layer over the walk, 10: all operations but calls of Go functions. No program in sight. -/
namespace Go.AL

def abuiltin (P : Program) (H : List Row) (b : Builtin) (ts : Array TypeId) (args : List A) : Option (A × List Row) :=
  match b with
  | .len => match args with
    | [x] => (ts[0]?).bind fun t => (alen P t x).map (·, H)
    | _ => none
  | .append => match args with
    | [s, x] => aappend2 P H ts s x
    | _ => none
  | .max => (amaxmin amax2 args).map (·, H)
  | .min => (amaxmin amin2 args).map (·, H)
  | .clear => match args with
    | [x] => (ts[0]?).bind fun t => (aclear P H t x).map (A.tup [], ·)
    | _ => none
  | _ => none

def ownOK (P : Program) (H : List Row) (t : TypeId) (x : A) : Bool :=
  match x with
  | .own id _ _ cb ex => (cb == 0 && ex) || match P.underlying t, H[id]? with
    | some (.slice e), some r => r.live && r.ty == e
    | _, _ => false
  | _ => true

def aop (P : Program) (H : List Row) (ρ : Operand → A) (op : Op) : Option (A × List Row) :=
  match op with
  | .move x => some (ρ x, H)
  | .assign x => some (ρ x, H)
  | .pick c a b => match ρ c with
    | .bool t => some (if t then ρ a else ρ b, H)
    | _ => none
  | .binOp op t x y _ => if nilOp y then (acmpNil P op t (ρ x)).map (·, H) else (abin2 P op t (ρ x) (ρ y)).map (·, H)
  | .unOp op _ x => (aun op (ρ x)).map (·, H)
  | .convert s d x => (aconv P s d (ρ x)).map (·, H)
  | .indexAddr t x i => (aidx P H t (ρ x) (ρ i)).map (·, H)
  | .index t x i => (aindex P t (ρ x) (ρ i)).map (·, H)
  | .load t x => (aload P H t (ρ x)).map (·, H)
  | .store t p x => (astore P H t (ρ p) (ρ x)).map (A.any, ·)
  | .fieldAddr t x f => (afieldAddr P t (ρ x) f).map (·, H)
  | .field t x f => (afield P t (ρ x) f).map (·, H)
  | .extract x i => (aextract (ρ x) i).map (·, H)
  | .slice t x lo hi mx => if ownOK P H t (ρ x) then (aslice P t (ρ x) (lo.map ρ) (hi.map ρ) (mx.map ρ)).map (·, H) else none
  | .nilCheck x => (anilCheck (ρ x)).map (·, H)
  | .build t parts => (abuilt P t (parts.toList.map fun p => (p.1, ρ p.2))).map (·, H)
  | .buildSlice t n parts => abuildSlice P H t n (parts.toList.map fun p => (p.1, ρ p.2))
  | .box t x => abox P H t (ρ x)
  | .alloc t => aalloc P H t
  | .makeSlice t l c => amake2 P H t (ρ l) (ρ c)
  | .makeMap t none => amkmap P H t
  | .lookup t x k ok => (alookup P H t (ρ x) (ρ k) ok).map (·, H)
  | .mapUpdate t m k v => (amapset P H t (ρ m) (ρ k) (ρ v)).map (A.any, ·)
  | .makeFunc (.func f) first caps => if first.size = 0 then some (.fn f (caps.toList.map ρ), H) else none
  | .call c => match c.callee with
    | .builtin b => abuiltin P H b c.argTypes (c.args.toList.map ρ)
    | _ => none
  | _ => none

theorem ownOK_some {P : Program} {H : List Row} {t : TypeId} {y : A} (hok : ownOK P H t y = true) : ∀ e, P.underlying t = some (.slice e) → ∀ id off len cb ex, y = .own id off len cb ex → ¬ (cb = 0 ∧ ex = true) → ∃ r, H[id]? = some r ∧ r.live = true ∧ r.ty = e := by
  intro e hu id off len cb ex hx hroom
  simp only [ownOK, hx, hu, Bool.or_eq_true, Bool.and_eq_true, beq_iff_eq] at hok
  rcases hok with hok | hok
  · exact (hroom hok).elim
  · split at hok
    · rename_i e' r he' hr
      simp only [Option.some.injEq, TypeDesc.slice.injEq] at he'
      subst he'
      simp at hok
      exact ⟨r, hr, hok.1, hok.2⟩
    · cases hok

theorem nilOp_some {y : Operand} (h : nilOp y = true) : y = .const (.slice none 0 0) := by
  unfold nilOp at h
  split at h
  · rfl
  · cases h

theorem repL_map {P : Program} {w : World} {F : Fz} {μ : Mu} {ρ : Operand → A} {e : Operand → Value} (h : ∀ x, Rep P w F μ (ρ x) (e x)) : ∀ (l : List Operand), RepL P w F μ (l.map ρ) (l.map e)
  | [] => trivial
  | x :: xs => ⟨h x, repL_map h xs⟩

theorem repPs_map {P : Program} {w : World} {F : Fz} {μ : Mu} {ρ : Operand → A} {e : Operand → Value} (h : ∀ x, Rep P w F μ (ρ x) (e x)) : ∀ (l : List (Nat × Operand)), RepPs P w F μ (l.map fun p => (p.1, ρ p.2)) (l.map fun p => (p.1, e p.2))
  | [] => trivial
  | x :: xs => ⟨rfl, h x.2, repPs_map h xs⟩

theorem repO_map {P : Program} {w : World} {F : Fz} {μ : Mu} {ρ : Operand → A} {e : Operand → Value} (h : ∀ x, Rep P w F μ (ρ x) (e x)) (o : Option Operand) : RepO P w F μ (o.map ρ) (o.map e) := by
  cases o with
  | none => trivial
  | some x => exact h x

theorem RepL.get {P : Program} {w : World} {F : Fz} {μ : Mu} : ∀ {xs : List A} {vs : List Value}, RepL P w F μ xs vs → vs.length = xs.length ∧ ∀ (i : Nat) (c : A) (u : Value), xs[i]? = some c → vs[i]? = some u → Rep P w F μ c u
  | [], [], _ => ⟨rfl, by simp⟩
  | x :: xs, v :: vs, h => by
    obtain ⟨h1, h2⟩ := RepL.get h.2
    refine ⟨by simp [h1], ?_⟩
    intro i c u hc hu
    cases i with
    | zero => simp at hc hu; subst hc hu; exact h.1
    | succ i => simp at hc hu; exact h2 i c u hc hu
  | [], _ :: _, h => h.elim
  | _ :: _, [], h => h.elim

theorem s_abuiltin {P : Program} {w : World} {F0 : Fz} {μ : Mu} {H H' : List Row} {b : Builtin} {ts : Array TypeId} {ty : TypeId} {cs : Array Bool} {args : List A} {vs : Array Value} {r : A} (hs : HS P w F0 μ H) (hl : RepL P w (Ft F0 μ H) μ args vs.toList) (h : abuiltin P H b ts args = some (r, H')) :
    ∃ v w', (builtin b ts ty cs vs).run P w = .ok (.value v) w' ∧ Res P w F0 μ H v w' r H' := by
  obtain ⟨vs⟩ := vs
  simp only at hl
  unfold abuiltin at h
  split at h
  · split at h
    · rename_i x
      match vs, hl with
      | [v], hl =>
        obtain ⟨t, ht, h⟩ := Option.bind_eq_some_iff.1 h
        obtain ⟨q, hq, h⟩ := Option.map_eq_some_iff.1 h
        cases h
        obtain ⟨u, h1, h2⟩ := s_alen (ty := ty) ht hl.1 hq
        exact ⟨u, w, by simp [builtin, h1 w trivial], Res.same hs h2⟩
      | _ :: _ :: _, hl => exact hl.2.elim
      | [], hl => exact hl.elim
    · cases h
  · split at h
    · rename_i s x
      match vs, hl with
      | [v1, v2], hl =>
        obtain ⟨v', w', h1, h2⟩ := s_aappend2 (ty := ty) hs hl.1 hl.2.1 h
        exact ⟨v', w', by simp [builtin, h1], h2⟩
      | [_], hl => exact hl.2.elim
      | _ :: _ :: _ :: _, hl => exact hl.2.2.elim
      | [], hl => exact hl.elim
    · cases h
  · obtain ⟨q, hq, h⟩ := Option.map_eq_some_iff.1 h
    cases h
    match args, vs, hl, hq with
    | x :: xs, v :: vs, hl, hq =>
      obtain ⟨u, h1, h2⟩ := s_afold (g := Builtin.max2) (fun _ _ _ _ _ hx hy h => s_amax2 hx hy h) xs vs x _ v hl.1 hl.2 hq
      exact ⟨u, w, by simp [builtin, Builtin.max_, h1 w trivial], Res.same hs h2⟩
    | [], _, _, hq => cases hq
    | _ :: _, [], hl, _ => exact hl.elim
  · obtain ⟨q, hq, h⟩ := Option.map_eq_some_iff.1 h
    cases h
    match args, vs, hl, hq with
    | x :: xs, v :: vs, hl, hq =>
      obtain ⟨u, h1, h2⟩ := s_afold (g := Builtin.min2) (fun _ _ _ _ _ hx hy h => s_amin2 hx hy h) xs vs x _ v hl.1 hl.2 hq
      exact ⟨u, w, by simp [builtin, Builtin.min_, h1 w trivial], Res.same hs h2⟩
    | [], _, _, hq => cases hq
    | _ :: _, [], hl, _ => exact hl.elim
  · split at h
    · rename_i x
      match vs, hl with
      | [v], hl =>
        obtain ⟨t, ht, h⟩ := Option.bind_eq_some_iff.1 h
        obtain ⟨q, hq, h⟩ := Option.map_eq_some_iff.1 h
        cases h
        obtain ⟨w', h1, h2, h3⟩ := s_aclear (ty := ty) hs ht hl.1 hq
        exact ⟨_, w', by simp [builtin, h1], μ, h2, h3, List.prefix_refl _, .tup _ [] [] rfl (by simp)⟩
      | _ :: _ :: _, hl => exact hl.2.elim
      | [], hl => exact hl.elim
    · cases h
  · cases h

/-- What an operation yields. -/
def OpRes (P : Program) (w : World) (F0 : Fz) (μ : Mu) (H : List Row) (s : Sem Next) (r : A) (H' : List Row) : Prop :=
  ∃ nx v w', s.run P w = .ok nx w' ∧ (nx = .value v ∨ (nx = .skip ∧ v = undef)) ∧ Res P w F0 μ H v w' r H'

theorem OpRes.ofLoad {P : Program} {w : World} {F0 : Fz} {μ : Mu} {H : List Row} {s : Sem Value} {r : A} (hs : HS P w F0 μ H) (h : ∃ u, (∀ w', Adv w NoF w' NoF → s.run P w' = .ok u w') ∧ Rep P w (Ft F0 μ H) μ r u) :
    OpRes P w F0 μ H (do pure (.value (← s))) r H := by
  obtain ⟨u, h1, h2⟩ := h
  exact ⟨_, u, w, by simp [h1 w (Adv.refl _ _)], .inl rfl, Res.same hs h2⟩

theorem OpRes.ofPure {P : Program} {w : World} {F0 : Fz} {μ : Mu} {H : List Row} {s : Sem Value} {r : A} (hs : HS P w F0 μ H) (h : ∃ u, (∀ w', Cn w w' → s.run P w' = .ok u w') ∧ Rep P w (Ft F0 μ H) μ r u) :
    OpRes P w F0 μ H (do pure (.value (← s))) r H := by
  obtain ⟨u, h1, h2⟩ := h
  exact ⟨_, u, w, by simp [h1 w trivial], .inl rfl, Res.same hs h2⟩

theorem OpRes.ofRes {P : Program} {w : World} {F0 : Fz} {μ : Mu} {H H' : List Row} {s : Sem Value} {r : A} (h : ∃ v' w', s.run P w = .ok v' w' ∧ Res P w F0 μ H v' w' r H' ∧ Adv w NoF w' NoF) :
    OpRes P w F0 μ H (do pure (.value (← s))) r H' := by
  obtain ⟨u, w', h1, h2, _⟩ := h
  exact ⟨_, u, w', by simp [h1], .inl rfl, h2⟩

theorem s_aop {P : Program} {w : World} {F0 : Fz} {μ : Mu} {H H' : List Row} {ρ : Operand → A} {a : Act} {r : A} (o : Oper) (hs : HS P w F0 μ H) (hev : ∀ x, Rep P w (Ft F0 μ H) μ (ρ x) (a.eval x)) (h : aop P H ρ o.op = some (r, H')) :
    OpRes P w F0 μ H (execOp a.eval o) r H' := by
  obtain ⟨dst, op, type, pos, aft, g⟩ := o
  simp only at h
  cases op with
  | move x => cases h; exact ⟨_, a.eval x, w, rfl, .inl rfl, Res.same hs (hev x)⟩
  | assign x => cases h; exact ⟨_, a.eval x, w, rfl, .inl rfl, Res.same hs (hev x)⟩
  | pick c x y =>
    simp only [aop] at h
    split at h
    · rename_i t hc; cases h
      have hb := hev c
      rw [hc] at hb
      have hb := hb.bool_inv
      refine ⟨_, if t then a.eval x else a.eval y, w, by simp [execOp, hb, asBool], .inl rfl, Res.same hs ?_⟩
      cases t
      · exact hev y
      · exact hev x
    · cases h
  | binOp op t x y u =>
    simp only [aop] at h
    split at h
    · rename_i hn
      obtain ⟨q, hq, h⟩ := Option.map_eq_some_iff.1 h
      cases h
      rw [nilOp_some hn]
      exact OpRes.ofPure hs (s_acmpNil x (.const (.slice none 0 0)) (hev x) hq)
    · obtain ⟨q, hq, h⟩ := Option.map_eq_some_iff.1 h
      cases h
      exact OpRes.ofPure hs (s_abin2 x y (hev x) (hev y) hq)
  | unOp op t x =>
    obtain ⟨q, hq, h⟩ := Option.map_eq_some_iff.1 h
    cases h
    exact OpRes.ofPure hs (s_aun (hev x) hq)
  | convert s d x =>
    obtain ⟨q, hq, h⟩ := Option.map_eq_some_iff.1 h
    cases h
    exact OpRes.ofPure hs (s_aconv (hev x) hq)
  | indexAddr t x i =>
    obtain ⟨q, hq, h⟩ := Option.map_eq_some_iff.1 h
    cases h
    exact OpRes.ofPure hs (s_aidx hs (hev x) (hev i) hq)
  | index t x i =>
    obtain ⟨q, hq, h⟩ := Option.map_eq_some_iff.1 h
    cases h
    exact OpRes.ofPure hs (s_aindex (hev x) (hev i) hq)
  | load t x =>
    obtain ⟨q, hq, h⟩ := Option.map_eq_some_iff.1 h
    cases h
    exact OpRes.ofLoad hs (s_aload hs (hev x) hq)
  | store t p x =>
    obtain ⟨q, hq, h⟩ := Option.map_eq_some_iff.1 h
    cases h
    obtain ⟨w', h1, h2, h3⟩ := s_astore hs (hev p) (hev x) hq
    exact ⟨.skip, undef, w', by simp [execOp, h1], .inr ⟨rfl, rfl⟩, μ, h2, h3, List.prefix_refl _, .any _ _⟩
  | fieldAddr t x f =>
    obtain ⟨q, hq, h⟩ := Option.map_eq_some_iff.1 h
    cases h
    exact OpRes.ofPure hs (s_afieldAddr (hev x) hq)
  | field t x f =>
    obtain ⟨q, hq, h⟩ := Option.map_eq_some_iff.1 h
    cases h
    exact OpRes.ofPure hs (s_afield (hev x) hq)
  | extract x i =>
    obtain ⟨q, hq, h⟩ := Option.map_eq_some_iff.1 h
    cases h
    exact OpRes.ofPure hs (s_aextract (hev x) hq)
  | slice t x lo hi mx =>
    simp only [aop] at h
    split at h
    · rename_i hok
      obtain ⟨q, hq, h⟩ := Option.map_eq_some_iff.1 h
      cases h
      refine OpRes.ofPure hs (s_aslice hs ?_ (hev x) (repO_map hev lo) (repO_map hev hi) (repO_map hev mx) hq)
      exact ownOK_some hok
    · cases h
  | nilCheck x =>
    obtain ⟨q, hq, h⟩ := Option.map_eq_some_iff.1 h
    cases h
    obtain ⟨h1, h2⟩ := s_anilCheck (hev x) hq dst type pos aft g
    subst h2
    exact ⟨_, a.eval x, w, h1 w, .inl rfl, Res.same hs (hev x)⟩
  | build t parts =>
    obtain ⟨q, hq, h⟩ := Option.map_eq_some_iff.1 h
    cases h
    exact OpRes.ofPure hs (s_abuilt (by simpa using repPs_map hev parts.toList) hq)
  | buildSlice t n parts => exact OpRes.ofRes (s_abuildSlice hs (by simpa using repPs_map hev parts.toList) h)
  | box t x => exact OpRes.ofRes (s_newVar hs (hev x) h)
  | alloc t => exact OpRes.ofRes (s_aalloc hs h)
  | makeSlice t l c => exact OpRes.ofRes (s_amake2 hs (hev l) (hev c) h)
  | makeMap t reserve =>
    cases reserve with
    | none => exact OpRes.ofRes (s_amkmap hs h)
    | some x => cases h
  | lookup t x k ok =>
    obtain ⟨q, hq, h⟩ := Option.map_eq_some_iff.1 h
    cases h
    exact OpRes.ofLoad hs (s_alookup hs (hev x) (hev k) hq)
  | mapUpdate t m k v =>
    obtain ⟨q, hq, h⟩ := Option.map_eq_some_iff.1 h
    cases h
    obtain ⟨w', h1, h2, h3⟩ := s_amapset hs (hev m) (hev k) (hev v) hq
    exact ⟨.skip, undef, w', by simp [execOp, h1], .inr ⟨rfl, rfl⟩, μ, h2, h3, List.prefix_refl _, .any _ _⟩
  | makeFunc fn first caps =>
    cases fn with
    | func f =>
      simp only [aop] at h
      split at h
      · rename_i h0; cases h
        have hf : first = #[] := Array.eq_empty_of_size_eq_zero h0
        subst hf
        have hl := RepL.get (repL_map hev caps.toList)
        refine ⟨_, .func (.func f) #[] ⟨caps.toList.map a.eval⟩, w, ?_, .inl rfl, Res.same hs (.fn _ _ _ _ hl.1 hl.2)⟩
        simp [execOp, Instr.makeFunc]
        apply Array.ext'; simp
      · cases h
    | _ => cases h
  | call c =>
    simp only [aop] at h
    split at h
    · rename_i b hb
      have hl : RepL P w (Ft F0 μ H) μ (c.args.toList.map ρ) (c.args.map a.eval).toList := by simpa using repL_map hev c.args.toList
      obtain ⟨v, w', h1, h2⟩ := s_abuiltin (ty := type) (cs := c.args.map fun | .const _ => true | _ => false) hs hl h
      refine ⟨_, v, w', ?_, .inl rfl, h2⟩
      simp only [execOp, Sem.run_bind, resolve, hb, Sem.run_pure, Result.andThen, invoke]
      exact h1
    · cases h
  | _ => cases h
/-- Operations that make memory, and write nothing that was there. -/
def allocOp : Op → Bool
  | .box .. | .alloc _ | .buildSlice .. | .makeSlice .. | .makeMap .. => true
  | _ => false

theorem s_alloc {P : Program} {w : World} {F0 : Fz} {μ : Mu} {H H' : List Row} {ρ : Operand → A} {a : Act} {r : A} (o : Oper) (ho : allocOp o.op = true) (hs : HS P w F0 μ H) (hev : ∀ x, Rep P w (Ft F0 μ H) μ (ρ x) (a.eval x)) (h : aop P H ρ o.op = some (r, H')) :
    ∃ v w', (execOp a.eval o).run P w = .ok (.value v) w' ∧ Res P w F0 μ H v w' r H' ∧ Adv w NoF w' NoF := by
  obtain ⟨dst, op, type, pos, aft, g⟩ := o
  simp only at h ho
  have of : ∀ {s : Sem Value} {r : A} {H' : List Row}, (∃ v' w', s.run P w = .ok v' w' ∧ Res P w F0 μ H v' w' r H' ∧ Adv w NoF w' NoF) → ∃ v w', ((do pure (.value (← s))) : Sem Next).run P w = .ok (.value v) w' ∧ Res P w F0 μ H v w' r H' ∧ Adv w NoF w' NoF := by
    rintro s r H' ⟨u, w', h1, h2, h3⟩
    exact ⟨u, w', by simp [h1], h2, h3⟩
  cases op with
  | buildSlice t n parts => exact of (s_abuildSlice hs (by simpa using repPs_map hev parts.toList) h)
  | box t x => exact of (s_newVar hs (hev x) h)
  | alloc t => exact of (s_aalloc hs h)
  | makeSlice t l c => exact of (s_amake2 hs (hev l) (hev c) h)
  | makeMap t reserve =>
    cases reserve with
    | none => exact of (s_amkmap hs h)
    | some x => cases h
  | _ => cases ho
end Go.AL
/- An abstract layer over the walk, 11: calls, and the code as one condition. No program in sight. -/
namespace Go.AL

/-- A value with its rows read off: what it is when nobody writes any more. -/
def resA (P : Program) (H : List Row) : Nat → A → Option A
  | 0, a => if a.noid then some a else none
  | n + 1, a =>
    if a.noid then some a else
    match a with
    | .own id off len _ _ => if len = 0 then some (.sl false []) else (H[id]?).bind fun r =>
      if r.live = true ∧ off + len ≤ r.es.length then
        if noidL ((r.es.drop off).take len) then some (.sl false ((r.es.drop off).take len))
        else (((r.es.drop off).take len).mapM (resA P H n)).map (.sl false)
      else none
    | .pto id sz j co => (H[id]?).bind fun r => if r.live = true ∧ co = 0 ∧ r.sz = sz ∧ r.sz ≠ 0 then (r.es[j]?).bind fun e => (resA P H n e).map .ptr else none
    | .agg cs => (cs.mapM (resA P H n)).map .agg
    | .tup cs => (cs.mapM (resA P H n)).map .tup
    | .fn f cs => (cs.mapM (resA P H n)).map (.fn f)
    | _ => none

theorem mapM_get {α β : Type} {f : α → Option β} : ∀ {l : List α} {r : List β}, l.mapM f = some r → r.length = l.length ∧ ∀ (i : Nat) (y : β), r[i]? = some y → ∃ x, l[i]? = some x ∧ f x = some y
  | [], r, h => by simp at h; subst h; simp
  | a :: l, r, h => by
    simp only [List.mapM_cons, Option.bind_eq_bind, Option.pure_def] at h
    obtain ⟨b, hb, h⟩ := Option.bind_eq_some_iff.1 h
    obtain ⟨bs, hbs, h⟩ := Option.bind_eq_some_iff.1 h
    cases h
    obtain ⟨h1, h2⟩ := mapM_get hbs
    refine ⟨by simp [h1], ?_⟩
    intro i y hy
    cases i with
    | zero => simp at hy; subst hy; exact ⟨a, by simp, hb⟩
    | succ i => simp at hy; obtain ⟨x, hx, hf⟩ := h2 i y hy; exact ⟨x, by simpa using hx, hf⟩

theorem resA_ncells {P : Program} {H : List Row} : ∀ {n : Nat} {a a' : A}, resA P H n a = some a' → a'.ncells = a.ncells := by
  intro n
  induction n with
  | zero => intro a a' h; simp only [resA] at h; split at h <;> cases h; rfl
  | succ n ih =>
    intro a a' h
    simp only [resA] at h
    split at h
    · cases h; rfl
    · split at h
      · split at h
        · cases h; rfl
        obtain ⟨r, _, h⟩ := Option.bind_eq_some_iff.1 h
        split at h
        · split at h
          · cases h; rfl
          · obtain ⟨q, _, h⟩ := Option.map_eq_some_iff.1 h; subst h; rfl
        · cases h
      · obtain ⟨r, _, h⟩ := Option.bind_eq_some_iff.1 h
        split at h
        · obtain ⟨e, _, h⟩ := Option.bind_eq_some_iff.1 h
          obtain ⟨q, _, h⟩ := Option.map_eq_some_iff.1 h; subst h; rfl
        · cases h
      · obtain ⟨q, hq, h⟩ := Option.map_eq_some_iff.1 h; subst h
        exact (mapM_get hq).1
      · obtain ⟨q, _, h⟩ := Option.map_eq_some_iff.1 h; subst h; rfl
      · obtain ⟨q, _, h⟩ := Option.map_eq_some_iff.1 h; subst h; rfl
      · cases h

theorem s_resA {P : Program} {w : World} {F0 F' : Fz} {μ : Mu} {H : List Row} (hs : HS P w F0 μ H) (hF : ∀ b o, F' b o → Ft F0 μ H b o) (hrow : ∀ (i : Nat) (r : Row) (b bs o : Nat), H[i]? = some r → r.live = true → μ[i]? = some (b, bs) → o < bs + r.es.length * r.sz → ¬ F' b o) :
    ∀ {n : Nat} {a a' : A} {v : Value}, Rep P w (Ft F0 μ H) μ a v → resA P H n a = some a' → Rep P w F' [] a' v := by
  intro n
  induction n with
  | zero =>
    intro a a' v hr h
    simp only [resA] at h
    split at h
    · rename_i hn; cases h; exact (hr.noid hn).mono (fun b o _ hf => hF b o hf) (List.prefix_refl _)
    · cases h
  | succ n ih =>
    intro a a' v hr h
    have hmono : ∀ {a : A} {v : Value}, Rep P w (Ft F0 μ H) μ a v → a.noid = true → Rep P w F' [] a v := fun hr hn => (hr.noid hn).mono (fun b o _ hf => hF b o hf) (List.prefix_refl _)
    simp only [resA] at h
    split at h
    · rename_i hn; cases h; exact hmono hr hn
    · split at h
      · rename_i id off len cb ex _
        by_cases hl0 : len = 0
        · subst hl0
          simp at h; subst h
          cases hr with
          | own _ id off len cb ex b bs cap tyr m hμ hsh hfit hlen hcb hmax hex ao hat => exact .sl _ _ [] b ao 0 cap 0 (fun _ => undef) rfl (by omega) hmax (by simp) (by simp) (by simp) (by simp)
          | ownn _ _ _ a => exact .slnil _ _ _
        rw [if_neg hl0] at h
        obtain ⟨r, hrow', h⟩ := Option.bind_eq_some_iff.1 h
        split at h
        case isFalse => cases h
        rename_i hc
        obtain ⟨hl, hle⟩ := hc
        cases hr with | ownn _ _ _ a => exact (hl0 rfl).elim | own _ id off len cb ex b bs cap tyr m hμ hsh hfit hlen hcb hmax hex ao hat =>
        obtain ⟨cur, c1, c2, c3, c4, c5⟩ := hs.cells hrow' hl hμ hsh
        have hty : tyr = r.ty := by
          simp only [World.shape?, c1] at hsh
          simp at hsh; exact hsh.1.symm
        have hfin : ∀ es' : List A, es'.length = len → (∀ (k : Nat) (x : A), es'[k]? = some x → x.ncells = r.sz ∧ ∃ V, Rep P w F' [] x V ∧ V.cells.size = r.sz ∧ (∀ u ∈ V.cells.toList, u.oneCell' = true) ∧ ∀ (j : Nat) (u : Value), V.cells[j]? = some u → cur[bs + (off + k) * r.sz + j]? = some u) →
            Rep P w F' [] (.sl false es') (.slice (some ⟨b, ao, none⟩) len cap) := by
          intro es' hlen' hh
          obtain rfl := hat (by omega)
          have hV : ∀ k : Nat, ∃ V, ∀ x, es'[k]? = some x → Rep P w F' [] x V ∧ V.cells.size = r.sz ∧ (∀ u ∈ V.cells.toList, u.oneCell' = true) ∧ ∀ (j : Nat) (u : Value), V.cells[j]? = some u → cur[bs + (off + k) * r.sz + j]? = some u := by
            intro k
            cases hk : es'[k]? with
            | none => exact ⟨undef, fun x hx => by cases hx⟩
            | some x => obtain ⟨_, V, h1⟩ := hh k x hk; exact ⟨V, fun y hy => by cases hy; exact h1⟩
          have hV' := fun k => Classical.choose_spec (hV k)
          refine .sl _ _ es' b _ len cap r.sz (fun k => Classical.choose (hV k)) hlen'.symm (by omega) hmax ?_ (fun k x hx => (hh k x hx).1) (fun k x hx => (hV' k x hx).1) ?_
          · intro h
            cases h
          · intro k x hx j u hu
            obtain ⟨g1, g2, g3, g4⟩ := hV' k x hx
            have hj : j < r.sz := by have := (Array.getElem?_eq_some_iff.1 hu).1; omega
            have hk : k < len := by have := (List.getElem?_eq_some_iff.1 hx).1; omega
            have e1 : bs + off * P.cellsOf tyr + k * r.sz + j = bs + (off + k) * r.sz + j := by rw [hty, ← c2, Nat.add_mul]; omega
            refine ⟨g3 u (List.mem_of_getElem? (by simpa using hu)), ?_, ?_⟩
            · rw [cell_of_row w b _ cur r.ty (0, 0) c1, e1]; exact g4 j u hu
            · refine hrow id r b bs _ hrow' hl hμ ?_
              rw [e1]
              have := Nat.mul_le_mul_right r.sz (show off + k + 1 ≤ r.es.length by omega)
              rw [Nat.add_mul _ 1] at this
              omega
        have hget : ∀ (k : Nat) (x : A), ((r.es.drop off).take len)[k]? = some x → r.es[off + k]? = some x := by
          intro k x hx
          simp only [List.getElem?_take, List.getElem?_drop] at hx
          split at hx
          · exact hx
          · cases hx
        split at h
        · rename_i hnl; cases h
          refine hfin _ (by simp; omega) ?_
          intro k x hx
          obtain ⟨k1, V, k2, k3⟩ := c5 _ x (hget k x hx)
          have hz := shp_cells k1 k2 (by rw [← c2]; exact c3)
          refine ⟨by rw [shp_ncells k1 (by rw [← c2]; exact c3), c2], V, hmono k2 (noidL_get hnl k x hx), by rw [hz.1, c2], hz.2, k3⟩
        · obtain ⟨q, hq, h⟩ := Option.map_eq_some_iff.1 h
          subst h
          obtain ⟨hql, hqg⟩ := mapM_get hq
          refine hfin q (by rw [hql]; simp; omega) ?_
          intro k y hy
          obtain ⟨x, hx, hxy⟩ := hqg k y hy
          obtain ⟨k1, V, k2, k3⟩ := c5 _ x (hget k x hx)
          have hz := shp_cells k1 k2 (by rw [← c2]; exact c3)
          refine ⟨by rw [resA_ncells hxy, shp_ncells k1 (by rw [← c2]; exact c3), c2], V, ih k2 hxy, by rw [hz.1, c2], hz.2, k3⟩
      · rename_i id sz j co _
        obtain ⟨r, hrow', hB⟩ := Option.bind_eq_some_iff.1 h
        clear h
        split at hB
        case isFalse => cases hB
        rename_i hc
        obtain ⟨hl, hco, hsz, hnz⟩ := hc
        subst hco
        obtain ⟨e, he, hC⟩ := Option.bind_eq_some_iff.1 hB
        obtain ⟨q, hq, hD⟩ := Option.map_eq_some_iff.1 hC
        subst hD
        cases hr with | pto _ _ _ _ _ b bs hμ =>
        obtain ⟨cur, c1, c2, c3, c4, c5⟩ := hs.cellsZ hrow' hl hμ hnz
        obtain ⟨k1, V, k2, k3⟩ := c5 j e he
        have hz := shp_cells k1 k2 (by rw [← c2]; exact c3)
        refine .ptr _ q b _ V (ih k2 hq) (by rw [resA_ncells hq, shp_ncells k1 (by rw [← c2]; exact c3), ← c2]; exact c3) ?_
        intro i u hu
        have hi : i < r.sz := by have := (Array.getElem?_eq_some_iff.1 hu).1; rw [hz.1, ← c2] at this; exact this
        have hj := (List.getElem?_eq_some_iff.1 he).1
        refine ⟨hz.2 u (List.mem_of_getElem? (by simpa using hu)), ?_, ?_⟩
        · rw [cell_of_row w b _ cur r.ty (0, 0) c1, ← hsz]; simpa using k3 i u hu
        · refine hrow id r b bs _ hrow' hl hμ ?_
          rw [← hsz]
          have := Nat.mul_le_mul_right r.sz (show j + 1 ≤ r.es.length by omega)
          rw [Nat.add_mul] at this
          omega
      · obtain ⟨q, hq, h⟩ := Option.map_eq_some_iff.1 h
        subst h
        obtain ⟨hql, hqg⟩ := mapM_get hq
        cases hr with | agg _ cs vs hl h1 hh =>
        refine .agg _ q vs (by rw [hql, hl]) h1 ?_
        intro i c u hc hu
        obtain ⟨x, hx, hxc⟩ := hqg i c hc
        exact ih (hh i x u hx hu) hxc
      · obtain ⟨q, hq, h⟩ := Option.map_eq_some_iff.1 h
        subst h
        obtain ⟨hql, hqg⟩ := mapM_get hq
        cases hr with | tup _ cs vs hl hh =>
        refine .tup _ q vs (by rw [hql, hl]) ?_
        intro i c u hc hu
        obtain ⟨x, hx, hxc⟩ := hqg i c hc
        exact ih (hh i x u hx hu) hxc
      · obtain ⟨q, hq, h⟩ := Option.map_eq_some_iff.1 h
        subst h
        obtain ⟨hql, hqg⟩ := mapM_get hq
        cases hr with | fn _ f cs vs hl hh =>
        refine .fn _ _ q vs (by rw [hql, hl]) ?_
        intro i c u hc hu
        obtain ⟨x, hx, hxc⟩ := hqg i c hc
        exact ih (hh i x u hx hu) hxc
      · cases h

/-! Less is said of the room behind a slice. -/
mutual
def wkA : A → A
  | .sl _ es => .sl false (wkL es)
  | .agg cs => .agg (wkL cs)
  | .tup cs => .tup (wkL cs)
  | .fn f cs => .fn f (wkL cs)
  | .ptr d => .ptr (wkA d)
  | a => a
def wkL : List A → List A
  | [] => []
  | x :: xs => wkA x :: wkL xs
end

theorem wkL_map : ∀ xs : List A, wkL xs = xs.map wkA
  | [] => by simp [wkL]
  | x :: xs => by simp [wkL, wkL_map xs]

theorem wkL_get {xs : List A} {i : Nat} {y : A} (h : (wkL xs)[i]? = some y) : ∃ x, xs[i]? = some x ∧ y = wkA x := by
  rw [wkL_map, List.getElem?_map] at h
  obtain ⟨x, h1, h2⟩ := Option.map_eq_some_iff.1 h
  exact ⟨x, h1, h2.symm⟩

theorem wkL_length (xs : List A) : (wkL xs).length = xs.length := by rw [wkL_map]; simp

theorem wkA_ncells (a : A) : (wkA a).ncells = a.ncells := by
  cases a <;> simp [wkA, A.ncells, wkL_length]

theorem Rep.wk {P : Program} {w : World} {F : Fz} {μ : Mu} {a : A} {v : Value} (h : Rep P w F μ a v) : Rep P w F μ (wkA a) v := by
  induction h with
  | int μ k n => exact .int _ k n
  | bool μ b => exact .bool _ b
  | ub μ b => exact .ub _ b
  | str μ l => exact .str _ l
  | slnil μ full a => exact .slnil _ _ _
  | sl μ full es b off n cap sz V hn hcap hmax hfull hsz hrep hcell ih =>
    refine .sl _ _ (wkL es) b off n cap sz V (by rw [wkL_length]; exact hn) hcap hmax (by simp) ?_ ?_ ?_
    · intro i e he
      obtain ⟨x, hx, rfl⟩ := wkL_get he
      rw [wkA_ncells]; exact hsz i x hx
    · intro i e he
      obtain ⟨x, hx, rfl⟩ := wkL_get he
      exact ih i x hx
    · intro i e he
      obtain ⟨x, hx, rfl⟩ := wkL_get he
      exact hcell i x hx
  | own μ id off len cb ex b bs cap ty n hμ hs hfit hlen hcb hmax hex ao hat => exact .own _ id off len cb ex b bs cap ty n hμ hs hfit hlen hcb hmax hex ao hat
  | ownn μ id off a => exact .ownn _ id off a
  | ptr μ d b off v hrep hnc hcell ih => exact .ptr _ _ b off v ih (by rw [wkA_ncells]; exact hnc) hcell
  | pto μ id sz i co b bs hμ => exact .pto _ id sz i co b bs hμ
  | nptr μ => exact .nptr _
  | agg μ cs vs hl h1 h ih =>
    refine .agg _ (wkL cs) vs (by rw [wkL_length]; exact hl) h1 fun i c u hc hu => ?_
    obtain ⟨x, hx, rfl⟩ := wkL_get hc
    exact ih i x u hx hu
  | tup μ cs vs hl h ih =>
    refine .tup _ (wkL cs) vs (by rw [wkL_length]; exact hl) fun i c u hc hu => ?_
    obtain ⟨x, hx, rfl⟩ := wkL_get hc
    exact ih i x u hx hu
  | fn μ f cs vs hl h ih =>
    refine .fn _ f (wkL cs) vs (by rw [wkL_length]; exact hl) fun i c u hc hu => ?_
    obtain ⟨x, hx, rfl⟩ := wkL_get hc
    exact ih i x u hx hu
  | nfn μ => exact .nfn _
  | mp μ id b hμ => exact .mp _ id b hμ
  | any μ v => exact .any _ v
end Go.AL
/- An abstract layer over the walk, 12: contracts, calls, and the code as one condition. No program in sight. -/
namespace Go.AL

/-- Can the function be called: it has a body, and is none that the model holds apart. -/
def callable (P : Program) (f : FuncId) : Bool :=
  match P.funcs[f]? with
  | some fn => fn.body.isSome && !(fn.name == "runtime.NumGoroutine")
  | none => false

/-- A CONTRACT: called with what args stand for, the function returns what some r with R r stands for, and nothing that was there turns. -/
def FCall (P : Program) (f : FuncId) (args : List A) (R : A → Prop) : Prop :=
  callable P f = true ∧ ∀ w F0 vs, (∀ b o, F0 b o → b < w.heap.size) → RepL P w F0 [] args vs →
    Calls P f ⟨vs⟩ w fun e w' => ∃ v r, e = .returned v ∧ R r ∧ Rep P w' F0 [] r v ∧ Adv w NoF w' NoF

/-- The same where live rows are handed over: it may write to them. -/
def XCall (P : Program) (f : FuncId) (args : List A) (H : List Row) (R : A → List Row → Prop) : Prop :=
  callable P f = true ∧ ∀ w F0 μ vs, HS P w F0 μ H → RepL P w (Ft F0 μ H) μ args vs →
    Calls P f ⟨vs⟩ w fun e w' => ∃ v r H', e = .returned v ∧ R r H' ∧ Res P w F0 μ H v w' r H'

theorem FCall.mono {P : Program} {f : FuncId} {args : List A} {R R' : A → Prop} (h : FCall P f args R) (hR : ∀ r, R r → R' r) : FCall P f args R' :=
  ⟨h.1, fun w F0 vs hb hl => (h.2 w F0 vs hb hl).mono fun _ _ ⟨v, r, h1, h2, h3⟩ => ⟨v, r, h1, hR r h2, h3⟩⟩

theorem XCall.mono {P : Program} {f : FuncId} {args : List A} {H : List Row} {R R' : A → List Row → Prop} (h : XCall P f args H R) (hR : ∀ r H, R r H → R' r H) : XCall P f args H R' :=
  ⟨h.1, fun w F0 μ vs hs hl => (h.2 w F0 μ vs hs hl).mono fun _ _ ⟨v, r, H', h1, h2, h3⟩ => ⟨v, r, H', h1, hR r H' h2, h3⟩⟩

theorem xcall_mono {P : Program} {f : FuncId} {args : List A} {H : List Row} {R K : A → List Row → Prop} (hx : XCall P f args H R) (hK : ∀ r H', R r H' → K r H') : XCall P f args H K := hx.mono hK

/-! Handing over what is read. -/
def frzR (r : Row) : Row := { r with f := max r.f r.es.length }
def frz (H : List Row) : List Row := H.map frzR

theorem frz_get {H : List Row} {i : Nat} {r : Row} (h : (frz H)[i]? = some r) : ∃ r', H[i]? = some r' ∧ r = { r' with f := max r'.f r'.es.length } := by
  simp only [frz, List.getElem?_map] at h
  obtain ⟨r', h1, h2⟩ := Option.map_eq_some_iff.1 h
  exact ⟨r', h1, h2.symm⟩

theorem Fof_frz {μ : Mu} {H : List Row} {b o : Nat} (h : Fof μ (frz H) b o) : Fof μ H b o := by
  obtain ⟨i, r, bs, h1, h2, h3, h4⟩ := h
  obtain ⟨r', h5, rfl⟩ := frz_get h1
  refine ⟨i, r', bs, h5, h2, h3, ?_⟩
  have := Nat.mul_le_mul_right r'.sz (Nat.le_max_left r'.f r'.es.length)
  simp only at h4
  omega

theorem HS.frz {P : Program} {w : World} {F0 : Fz} {μ : Mu} {H : List Row} (hs : HS P w F0 μ H) : HS P w F0 μ (frz H) ∧ Adv w (Fof μ H) w (Fof μ (AL.frz H)) := by
  have hA : Adv w (Fof μ H) w (Fof μ (AL.frz H)) := ⟨rfl, rfl, rfl, Nat.le_refl _, fun _ _ _ h _ => h, fun b o _ h => Fof_frz h, fun _ _ _ h => h, fun _ _ _ => rfl⟩
  refine ⟨⟨by rw [hs.len]; simp [AL.frz], hs.bound, ?_, ?_, ?_⟩, hA⟩
  · intro i x b bs hx hl hb
    obtain ⟨r', h5, rfl⟩ := frz_get hx
    rcases hs.row i r' b bs h5 hl hb with h1 | h1
    · exact .inl (h1.adv (hA.join F0) (List.prefix_refl _) rfl)
    · exact .inr (h1.adv (hA.join F0) rfl)
  · intro i j x x' b bs bs' hx hl hx' hl' hb hb'
    obtain ⟨r1, h1, rfl⟩ := frz_get hx
    obtain ⟨r2, h2, rfl⟩ := frz_get hx'
    exact hs.inj i j r1 r2 b bs bs' h1 hl h2 hl' hb hb'
  · intro i x b bs o hx hl hb
    obtain ⟨r1, h1, rfl⟩ := frz_get hx
    exact hs.sep i r1 b bs o h1 hl hb

def resL (P : Program) (H : List Row) (xs : List A) : Option (List A) := if noidL xs then some xs else xs.mapM (resA P H 4)

theorem s_resL {P : Program} {w : World} {F0 F' : Fz} {μ : Mu} {H : List Row} (hs : HS P w F0 μ H) (hF : ∀ b o, F' b o → Ft F0 μ H b o) (hrow : ∀ (i : Nat) (r : Row) (b bs o : Nat), H[i]? = some r → r.live = true → μ[i]? = some (b, bs) → o < bs + r.es.length * r.sz → ¬ F' b o)
    {xs ys : List A} {vs : List Value} (hr : RepL P w (Ft F0 μ H) μ xs vs) (h : resL P H xs = some ys) : RepL P w F' [] ys vs := by
  have key : ∀ (xs ys : List A) (vs : List Value), RepL P w (Ft F0 μ H) μ xs vs → xs.mapM (resA P H 4) = some ys → RepL P w F' [] ys vs := by
    intro xs
    induction xs with
    | nil => intro ys vs hr h; simp at h; subst h; cases vs with | nil => trivial | cons v vs => exact hr.elim
    | cons x xs ih =>
      intro ys vs hr h
      cases vs with
      | nil => exact hr.elim
      | cons v vs =>
        simp only [List.mapM_cons, Option.bind_eq_bind, Option.pure_def] at h
        obtain ⟨b, hb, h⟩ := Option.bind_eq_some_iff.1 h
        obtain ⟨bs, hbs, h⟩ := Option.bind_eq_some_iff.1 h
        cases h
        exact ⟨s_resA hs hF hrow hr.1 hb, ih bs vs hr.2 hbs⟩
  unfold resL at h
  split at h
  · rename_i hn
    cases h
    have key2 : ∀ (xs : List A) (vs : List Value), noidL xs = true → RepL P w (Ft F0 μ H) μ xs vs → RepL P w F' [] xs vs := by
      intro xs
      induction xs with
      | nil => intro vs _ hr; cases vs with | nil => trivial | cons v vs => exact hr.elim
      | cons x xs ih =>
        intro vs hn hr
        simp [noidL] at hn
        cases vs with
        | nil => exact hr.elim
        | cons v vs => exact ⟨(hr.1.noid hn.1).mono (fun b o _ hf => hF b o hf) (List.prefix_refl _), ih vs hn.2 hr.2⟩
    exact key2 xs vs hn hr
  · exact key xs ys vs hr h

/-- Nothing but numbers, truth values and strings. -/
def scal : A → Bool
  | .int .. | .bool _ | .str _ => true
  | .tup cs => cs.all fun c => match c with | .int .. | .bool _ | .str _ => true | _ => false
  | .agg cs => cs.all fun c => match c with | .int .. | .bool _ | .str _ => true | _ => false
  | _ => false

theorem Rep.scal {P : Program} {w : World} {F F' : Fz} {μ μ' : Mu} {a : A} {v : Value} (h : Rep P w F μ a v) (hs : AL.scal a = true) : Rep P w F' μ' a v := by
  have one : ∀ {c : A} {u : Value}, (match c with | .int .. | .bool _ | .str _ => true | _ => false) = true → Rep P w F μ c u → Rep P w F' μ' c u := by
    intro c u hc hr
    cases hr <;> first | exact .int _ _ _ | exact .bool _ _ | exact .str _ _ | (simp at hc)
  cases h <;> first | exact .int _ _ _ | exact .bool _ _ | exact .str _ _ | skip
  all_goals try (simp [AL.scal] at hs; done)
  case agg cs vs hl h1 hh =>
    refine .agg _ cs vs hl h1 fun i c u hc hu => one ?_ (hh i c u hc hu)
    exact List.all_eq_true.1 hs c (List.mem_of_getElem? hc)
  case tup cs vs hl hh =>
    refine .tup _ cs vs hl fun i c u hc hu => one ?_ (hh i c u hc hu)
    exact List.all_eq_true.1 hs c (List.mem_of_getElem? hc)

theorem Adv.mk' {w w' : World} {F F' : Fz} (h : Adv w NoF w' NoF) (hF : ∀ b o, b < w.heap.size → F' b o → F b o) : Adv w F w' F' :=
  ⟨h.os, h.tape, h.output, h.size, fun b o u hc _ => h.cell b o u hc id, hF, h.shape, fun b hb _ => h.block b hb fun _ => id⟩

/-- A call by a contract, where nothing is frozen: the arguments hold no rows. -/
theorem xcall_noid {P : Program} {f : FuncId} {args : List A} {H : List Row} {R : A → Prop} {K : A → List Row → Prop} (h : FCall P f args R) (hn : noidL args = true) (hK : ∀ r, R r → K r H) : XCall P f args H K := by
  refine ⟨h.1, fun w F0 μ vs hs hl => ?_⟩
  have hl' : RepL P w (Ft F0 μ H) [] args vs := by
    have key : ∀ (xs : List A) (vs : List Value), noidL xs = true → RepL P w (Ft F0 μ H) μ xs vs → RepL P w (Ft F0 μ H) [] xs vs := by
      intro xs
      induction xs with
      | nil => intro vs _ hr; cases vs with | nil => trivial | cons v vs => exact hr.elim
      | cons x xs ih =>
        intro vs hn hr
        simp [noidL] at hn
        cases vs with
        | nil => exact hr.elim
        | cons v vs => exact ⟨hr.1.noid hn.1, ih vs hn.2 hr.2⟩
    exact key args vs hn hl
  refine (h.2 w (Ft F0 μ H) vs (fun b o hf => hs.lt hf) hl').mono ?_
  rintro e w' ⟨v, r, rfl, h1, h2, h3⟩
  exact ⟨v, r, H, rfl, hK r h1, μ, hs.ofNo h3, h3.ofNo _, List.prefix_refl _, h2.mono (fun _ _ _ h => h) List.nil_prefix⟩

/-- A call by a contract: the rows that the arguments hold are read off; all rows are frozen as far as they go. -/
theorem xcall_frz {P : Program} {f : FuncId} {args args' : List A} {H : List Row} {R : A → Prop} {K : A → List Row → Prop} (h : FCall P f args' R) (hn : resL P H args = some args') (hK : ∀ r, R r → K r (frz H)) : XCall P f args H K := by
  refine ⟨h.1, fun w F0 μ vs hs hl => ?_⟩
  obtain ⟨hs2, hA2⟩ := hs.frz
  have hl' := s_resL (F' := Ft F0 μ (frz H)) hs (fun b o hf => hf.imp id Fof_frz) (by
    intro i r b bs o hr hlv hb ho hf
    rcases hf with hf | ⟨j, r', bs', h1, h2, h3, h4⟩
    · exact hs.sep i r b bs o hr hlv hb hf
    · obtain ⟨r2, h5, rfl⟩ := frz_get h1
      have hij := hs.inj i j r r2 b bs bs' hr hlv h5 h2 hb h3
      subst hij
      rw [hr] at h5; cases h5
      rw [hb] at h3; cases h3
      have := Nat.mul_le_mul_right r.sz (Nat.le_max_right r.f r.es.length)
      simp only at h4
      omega) hl hn
  refine (h.2 w (Ft F0 μ (frz H)) vs (fun b o hf => hs2.lt hf) hl').mono ?_
  rintro e w' ⟨v, r, rfl, h1, h2, h3⟩
  exact ⟨v, r, frz H, rfl, hK r h1, μ, hs2.ofNo h3, hA2.trans (h3.ofNo _), List.prefix_refl _, h2.mono (fun _ _ _ h => h) List.nil_prefix⟩

/-- A call by a contract whose result holds no address: nothing is frozen. -/
theorem xcall_scal {P : Program} {f : FuncId} {args args' : List A} {H : List Row} {R : A → Prop} {K : A → List Row → Prop} (h : FCall P f args' R) (hn : resL P H args = some args') (hK : ∀ r, R r → scal r = true ∧ K r H) : XCall P f args H K := by
  refine ⟨h.1, fun w F0 μ vs hs hl => ?_⟩
  have hl' := s_resL (F' := NoF) hs (fun _ _ hf => hf.elim) (fun _ _ _ _ _ _ _ _ _ hf => hf) hl hn
  refine (h.2 w NoF vs (fun b o hf => hf.elim) hl').mono ?_
  rintro e w' ⟨v, r, rfl, h1, h2, h3⟩
  obtain ⟨hsc, hk⟩ := hK r h1
  exact ⟨v, r, H, rfl, hk, μ, hs.ofNo h3, h3.ofNo _, List.prefix_refl _, h2.scal hsc⟩

theorem RepL.wk {P : Program} {w : World} {F : Fz} {μ : Mu} : ∀ {xs : List A} {vs : List Value}, RepL P w F μ xs vs → RepL P w F μ (wkL xs) vs
  | [], [], _ => trivial
  | _ :: _, _ :: _, h => ⟨h.1.wk, h.2.wk⟩
  | [], _ :: _, h => h.elim
  | _ :: _, [], h => h.elim

theorem FCall.wk {P : Program} {f : FuncId} {args : List A} {R : A → Prop} (h : FCall P f (wkL args) R) : FCall P f args R :=
  ⟨h.1, fun w F0 vs hb hl => h.2 w F0 vs hb hl.wk⟩

/-- What is handed over at a call: rows read off, and less said of the room behind. -/
def argsK (P : Program) (H : List Row) (args : List A) : Option (List A) := (resL P H args).map wkL

/-- A call by a contract that names the result. -/
theorem xcall_fn {P : Program} {f : FuncId} {args args' : List A} {H : List Row} {r : A} {K : A → List Row → Prop} (h : FCall P f args' (fun x => x = r)) (hn : argsK P H args = some args') (hK : K r (if noidL args || scal r then H else frz H)) : XCall P f args H K := by
  obtain ⟨ys, h1, h2⟩ := Option.map_eq_some_iff.1 hn
  subst h2
  by_cases hs : scal r = true
  · refine xcall_scal h.wk h1 ?_
    rintro _ rfl
    exact ⟨hs, by simpa [hs] using hK⟩
  · by_cases hna : noidL args = true
    · have : ys = args := by simp [resL, hna] at h1; exact h1.symm
      subst this
      refine xcall_noid h.wk hna ?_
      rintro _ rfl
      simpa [hna] using hK
    · refine xcall_frz h.wk h1 ?_
      rintro _ rfl
      simpa [hs, hna] using hK

/-- The same, where the result is told by a property. -/
theorem xcall_fr {P : Program} {f : FuncId} {args args' : List A} {H : List Row} {R : A → Prop} {K : A → List Row → Prop} (h : FCall P f args' R) (hn : argsK P H args = some args') (hK : ∀ r, R r → K r (if noidL args then H else frz H)) : XCall P f args H K := by
  obtain ⟨ys, h1, h2⟩ := Option.map_eq_some_iff.1 hn
  subst h2
  by_cases hna : noidL args = true
  · have : ys = args := by simp [resL, hna] at h1; exact h1.symm
    subst this
    refine xcall_noid h.wk hna ?_
    intro r hr
    simpa [hna] using hK r hr
  · refine xcall_frz h.wk h1 ?_
    intro r hr
    simpa [hna] using hK r hr

/-! The code as one condition. -/
def obind {α : Type} (x : Option α) (K : α → Prop) : Prop :=
  match x with
  | some y => K y
  | none => False

def finK (dst : Option Tmp) (K : S → Prop) (t : List A) (y : A × List Row) : Prop := K ⟨put t dst y.1, y.2⟩
def aftK (dst : Option Tmp) (K : S → Prop) (t : List A) (r : A) (H : List Row) : Prop := K ⟨put t dst r, H⟩

def callK (P : Program) (f : A) (args : List A) (dst : Option Tmp) (K : S → Prop) (s : S) : Prop :=
  match f with
  | .fn fid caps => XCall P fid (args ++ caps) s.h (aftK dst K s.t)
  | _ => False

def stepK (P : Program) (o : Oper) (K : S → Prop) (s : S) : Prop :=
  match o.op with
  | .call c => match c.callee with
    | .value f => callK P (ev s.t f) (c.args.toList.map (ev s.t)) o.dst K s
    | _ => obind (aop P s.h (ev s.t) o.op) (finK o.dst K s.t)
  | _ => obind (aop P s.h (ev s.t) o.op) (finK o.dst K s.t)

theorem rep_undef {P : Program} {w : World} {F : Fz} {μ : Mu} : Rep P w F μ (.tup []) undef := .tup _ [] [] rfl (by simp)

def gval (ops : Array Oper) (t : List A) (j : Nat) : A :=
  match (ops[j]?).bind (·.dst) with
  | some d => t.getD d .any
  | none => .any

def guardK (g : A) (want : Bool) (p q : Prop) : Prop :=
  match g with
  | .bool b => (b = want → p) ∧ (b = !want → q)
  | .tup [] => q
  | _ => False

def vcOps (P : Program) (ops : Array Oper) (Q : AX → S → Prop) : List Oper → S → Prop
  | [], s => Q .normal s
  | o :: rest, s =>
    match o.guard with
    | none => stepK P o (vcOps P ops Q rest) s
    | some (j, want) => guardK (gval ops s.t j) want (stepK P o (vcOps P ops Q rest) s) (vcOps P ops Q rest ⟨put s.t o.dst (.tup []), s.h⟩)

/-! Regions whose order is drawn: where nothing is written, the text's order serves for all. -/
def pureOp : Op → Bool
  | .move _ | .assign _ | .pick .. | .binOp .. | .unOp .. | .convert .. | .indexAddr .. | .index .. | .load .. | .fieldAddr .. | .field .. | .extract .. | .slice .. | .nilCheck _ | .build .. | .makeFunc .. | .lookup .. => true
  | .call c => match c.callee with
    | .builtin b => (match b with | .len | .max | .min => true | _ => false)
    | .value _ => true
    | _ => false
  | _ => false

def pureB : List Oper → Bool
  | [] => true
  | o :: rest => pureOp o.op && pureB rest

/-- A contract that names the very value: the same in every later world; no new memory in it. -/
def ECall (P : Program) (f : FuncId) (args : List A) (r : A) : Prop :=
  callable P f = true ∧ ∀ w F0 vs, (∀ b o, F0 b o → b < w.heap.size) → RepL P w F0 [] args vs →
    ∃ v, Rep P w F0 [] r v ∧ ∀ w', Adv w NoF w' NoF → Calls P f ⟨vs⟩ w' fun e w'' => e = .returned v ∧ Adv w' NoF w'' NoF

def callQ (P : Program) (f : A) (args : List A) (dst : Option Tmp) (K : S → Prop) (s : S) : Prop :=
  match f with
  | .fn fid caps => noidL (args ++ caps) = true ∧ ∃ r, ECall P fid (args ++ caps) r ∧ K ⟨put s.t dst r, s.h⟩
  | _ => False

def stepQ (P : Program) (o : Oper) (K : S → Prop) (s : S) : Prop :=
  match o.op with
  | .call c => match c.callee with
    | .value f => callQ P (ev s.t f) (c.args.toList.map (ev s.t)) o.dst K s
    | _ => obind (aop P s.h (ev s.t) o.op) (finK o.dst K s.t)
  | _ => obind (aop P s.h (ev s.t) o.op) (finK o.dst K s.t)

def vcQ (P : Program) (ops : Array Oper) (Q : S → Prop) : List Oper → S → Prop
  | [], s => Q s
  | o :: rest, s =>
    match o.guard with
    | none => stepQ P o (vcQ P ops Q rest) s
    | some (j, want) => guardK (gval ops s.t j) want (stepQ P o (vcQ P ops Q rest) s) (vcQ P ops Q rest ⟨put s.t o.dst (.tup []), s.h⟩)

/-- Every region that draws its order, and writes nothing, may be walked in the text's order. -/
def allLex : Code → Bool
  | .region _ ops true => !pureB ops.toList || Region.lexB .any ops
  | .seq x y => allLex x && allLex y
  | .cond _ x y => allLex x && allLex y
  | .block _ c => allLex c
  | .loop c => allLex c
  | _ => true

/-- A loop, or a region that draws its order and writes: left as it is. -/
def vc (P : Program) (X : Ctx) : Code → (AX → S → Prop) → S → Prop
  | .skip, Q, s => Q .normal s
  | .region _ ops false, Q, s => vcOps P ops Q ops.toList s
  | .region id ops true, Q, s => if pureB ops.toList = true then vcQ P ops (Q .normal) ops.toList s else awp P X (.region id ops true) Q s
  | .seq x y, Q, s => vc P X x (thenK (vc P X y Q) Q) s
  | .cond c x y, Q, s => condK (ev s.t c) (vc P X x Q s) (vc P X y Q s)
  | .block id c, Q, s => vc P X c (blockK id Q) s
  | .exit id, Q, s => Q (.exit id) s
  | .ret, Q, s => Q .ret s
  | c, Q, s => awp P X c Q s

theorem gval_und {P : Program} {X : Ctx} {s : S} {a : Act} {w : World} {μ : Mu} {ops : Array Oper} {j : Nat} (hS : Sim P X s a w μ) (hb : gval ops s.t j = .tup []) : yielded ops a.tmps j = none := by
  unfold gval at hb
  unfold yielded
  cases hd : (ops[j]?).bind (·.dst) with
  | none => rfl
  | some d =>
    rw [hd] at hb
    simp only [List.getD] at hb
    cases hx : s.t[d]? with
    | none => rw [hx] at hb; cases hb
    | some x =>
      rw [hx] at hb
      simp at hb
      subst hb
      have hr := hS.rep d _ hx
      have hlt : d < a.tmps.size := by rw [hS.len]; exact (List.getElem?_eq_some_iff.1 hx).1
      have e : a.tmps.getD d undef = a.tmps[d] := by simp [Array.getD, hlt]
      rw [e] at hr
      simp only [Option.bind_some, Array.getElem?_eq_getElem hlt]
      generalize a.tmps[d] = v at hr
      cases hr with | tup _ _ vs hl _ => rfl

def alist (P : Program) (X : Ctx) (ops : Array Oper) (Q : AX → S → Prop) (l : List Oper) (s : S) : Prop :=
  ∀ a w μ, Sim P X s a w μ → wpList P ops (lift P X Q) l a w

theorem sim_step {P : Program} {X : Ctx} {s : S} {a : Act} {w : World} {μ : Mu} (h : Sim P X s a w μ) {d : Option Tmp} {v : Value} {w' : World} {r : A} {H' : List Row} (hr : Res P w X.F0 μ s.h v w' r H') :
    ∃ μ', Sim P X ⟨put s.t d r, H'⟩ (a.put d v) w' μ' := by
  obtain ⟨μ', h1, h2, h3, h4⟩ := hr
  exact ⟨μ', h.put d h1 h2 h3 h4⟩

theorem alist_step {P : Program} {X : Ctx} {ops : Array Oper} {Q : AX → S → Prop} {rest : List Oper} {o : Oper} {K : S → Prop} {s : S} (hK : ∀ s, K s → alist P X ops Q rest s) {a : Act} {w : World} {μ : Mu} (hS : Sim P X s a w μ) (hw : Region.wanted o (yielded ops a.tmps) = true)
    (h : stepK P o K s) : wpList P ops (lift P X Q) (o :: rest) a w := by
  unfold wpList
  rw [if_pos hw]
  refine .inl ?_
  have plain : obind (aop P s.h (ev s.t) o.op) (finK o.dst K s.t) → o.wp P a w (wpList P ops (lift P X Q) rest) (lift P X Q) := by
    intro h
    cases hop : aop P s.h (ev s.t) o.op with
    | none => rw [hop] at h; exact h.elim
    | some y =>
      obtain ⟨r, H'⟩ := y
      rw [hop] at h
      obtain ⟨nx, v, w', h1, h2, h3⟩ := s_aop (a := a) o hS.hs (hS.eval) hop
      obtain ⟨μ', h4⟩ := sim_step (d := o.dst) hS h3
      unfold Oper.wp
      rw [h1]
      rcases h2 with rfl | ⟨rfl, rfl⟩
      · exact hK _ h _ _ μ' h4
      · exact hK _ h _ _ μ' h4
  unfold stepK at h
  split at h
  · rename_i c hc
    split at h
    · rename_i f hf
      unfold callK at h
      split at h
      · rename_i fid caps hfn
        obtain ⟨hcb, h⟩ := h
        have hrf := hS.eval f
        rw [hfn] at hrf
        generalize hva : a.eval f = vf at hrf
        cases hrf with | fn _ _ _ vcaps hl hh =>
        have hargs := repL_map hS.eval c.args.toList
        have hL : RepL P w (Ft X.F0 μ s.h) μ (c.args.toList.map (ev s.t) ++ caps) (c.args.toList.map a.eval ++ vcaps) := by
          have app : ∀ (xs : List A) (us : List Value) (ys : List A) (vs : List Value), RepL P w (Ft X.F0 μ s.h) μ xs us → RepL P w (Ft X.F0 μ s.h) μ ys vs → RepL P w (Ft X.F0 μ s.h) μ (xs ++ ys) (us ++ vs) := by
            intro xs
            induction xs with
            | nil => intro us ys vs hx hy; cases us with | nil => exact hy | cons u us => exact hx.elim
            | cons x xs ih => intro us ys vs hx hy; cases us with | nil => exact hx.elim | cons u us => exact ⟨hx.1, ih us ys vs hx.2 hy⟩
          refine app _ _ _ _ hargs ?_
          have ofget : ∀ (ys : List A) (vs : List Value), vs.length = ys.length → (∀ (i : Nat) (c : A) (u : Value), ys[i]? = some c → vs[i]? = some u → Rep P w (Ft X.F0 μ s.h) μ c u) → RepL P w (Ft X.F0 μ s.h) μ ys vs := by
            intro ys
            induction ys with
            | nil => intro vs hl _; cases vs with | nil => trivial | cons v vs => simp at hl
            | cons y ys ih =>
              intro vs hl hh
              cases vs with
              | nil => simp at hl
              | cons v vs => exact ⟨hh 0 y v rfl rfl, ih vs (by simpa using hl) fun i c u hc hu => hh (i + 1) c u (by simpa using hc) (by simpa using hu)⟩
          exact ofget caps vcaps hl hh
        have hcall := h w X.F0 μ _ hS.hs hL
        unfold callable at hcb
        split at hcb
        · rename_i fn hfun
          simp at hcb
          have hrun : (execOp a.eval o).run P w = .ok (.enter fid ⟨c.args.toList.map a.eval ++ vcaps⟩) w := by
            obtain ⟨dst, op, type, pos, aft, g⟩ := o
            simp only at hc
            subst hc
            have hb : fn.body.isNone = false := by cases hbb : fn.body <;> simp_all
            have hnm : (fn.name == "runtime.NumGoroutine") = false := by simpa using hcb.2
            have e1 : (#[] ++ Array.map a.eval c.args ++ (⟨vcaps⟩ : Array Value)) = ⟨c.args.toList.map a.eval ++ vcaps⟩ := by apply Array.ext'; simp
            simp only [execOp, Sem.run_bind, resolve, hf, hva, Deferred.ofValue, Sem.run_pure, Result.andThen, invoke, callFunc, program, Sem.run, hfun, hnm, hb, Bool.false_eq_true, if_false, e1]
          unfold Oper.wp
          rw [hrun]
          refine hcall.mono ?_
          rintro e w' ⟨v, r, H', rfl, hR, hres⟩
          obtain ⟨μ', h4⟩ := sim_step (d := o.dst) hS hres
          exact hK _ hR _ _ μ' h4
        · cases hcb
      · exact h.elim
    · exact plain h
  · exact plain h

theorem vcOps_sound {P : Program} {X : Ctx} {ops : Array Oper} {Q : AX → S → Prop} : ∀ (l : List Oper) (s : S), vcOps P ops Q l s → alist P X ops Q l s
  | [], s, h => fun a w μ hS => ⟨.normal, s, μ, rfl, h, hS⟩
  | o :: rest, s, h => by
    intro a w μ hS
    simp only [vcOps] at h
    split at h
    · rename_i hg
      exact alist_step (fun s h => vcOps_sound rest s h) hS (by simp [Region.wanted, hg]) h
    · rename_i j want hg
      unfold guardK at h
      split at h
      · rename_i b hb
        have hy : yielded ops a.tmps j = some b := by
          unfold gval at hb
          unfold yielded
          cases hd : (ops[j]?).bind (·.dst) with
          | none => rw [hd] at hb; cases hb
          | some d =>
            rw [hd] at hb
            simp only [List.getD] at hb
            cases hx : s.t[d]? with
            | none => rw [hx] at hb; cases hb
            | some x =>
              rw [hx] at hb
              simp at hb
              subst hb
              have hr := (hS.rep d _ hx).bool_inv
              have hlt : d < a.tmps.size := by rw [hS.len]; exact (List.getElem?_eq_some_iff.1 hx).1
              have : a.tmps[d]? = some (.bool b) := by
                rw [Array.getElem?_eq_getElem hlt]
                simpa [Array.getD, hlt] using hr
              simp [this]
        by_cases hw : b = want
        · exact alist_step (fun s h => vcOps_sound rest s h) hS (by simp [Region.wanted, hg, hy, hw]) (h.1 hw)
        · unfold wpList
          rw [if_neg (by simp [Region.wanted, hg, hy, hw])]
          have hb' : b = !want := by cases b <;> cases want <;> simp_all
          refine vcOps_sound rest _ (h.2 hb') _ _ μ ?_
          exact hS.put o.dst hS.hs (Adv.refl _ _) (List.prefix_refl _) rep_undef
      · rename_i hb
        have hy := gval_und hS hb
        unfold wpList
        rw [if_neg (by simp [Region.wanted, hg, hy])]
        exact vcOps_sound rest _ h _ _ μ (hS.put o.dst hS.hs (Adv.refl _ _) (List.prefix_refl _) rep_undef)
      · exact h.elim

theorem gval_yielded {P : Program} {X : Ctx} {s : S} {a : Act} {w : World} {μ : Mu} {ops : Array Oper} {j : Nat} {b : Bool} (hS : Sim P X s a w μ) (hb : gval ops s.t j = .bool b) : yielded ops a.tmps j = some b := by
  unfold gval at hb
  unfold yielded
  cases hd : (ops[j]?).bind (·.dst) with
  | none => rw [hd] at hb; cases hb
  | some d =>
    rw [hd] at hb
    simp only [List.getD] at hb
    cases hx : s.t[d]? with
    | none => rw [hx] at hb; cases hb
    | some x =>
      rw [hx] at hb
      simp at hb
      subst hb
      have hr := (hS.rep d _ hx).bool_inv
      have hlt : d < a.tmps.size := by rw [hS.len]; exact (List.getElem?_eq_some_iff.1 hx).1
      have : a.tmps[d]? = some (.bool b) := by
        rw [Array.getElem?_eq_getElem hlt]
        simpa [Array.getD, hlt] using hr
      simp [this]

/-- An operation that writes nothing yields one value, whatever is made meanwhile. -/
theorem s_pure {P : Program} {w : World} {F0 : Fz} {μ : Mu} {H H' : List Row} {ρ : Operand → A} {a : Act} {r : A} (o : Oper) (hp : pureOp o.op = true) (hs : HS P w F0 μ H) (hev : ∀ x, Rep P w (Ft F0 μ H) μ (ρ x) (a.eval x)) (h : aop P H ρ o.op = some (r, H')) :
    H' = H ∧ ∃ v, (∀ w', Adv w NoF w' NoF → (execOp a.eval o).run P w' = .ok (.value v) w') ∧ Rep P w (Ft F0 μ H) μ r v := by
  obtain ⟨dst, op, type, pos, aft, g⟩ := o
  simp only at h hp
  have of : ∀ {s : Sem Value} {q : A}, (∃ u, (∀ w', Cn w w' → s.run P w' = .ok u w') ∧ Rep P w (Ft F0 μ H) μ q u) → ∃ v, (∀ w', Adv w NoF w' NoF → ((do pure (.value (← s))) : Sem Next).run P w' = .ok (.value v) w') ∧ Rep P w (Ft F0 μ H) μ q v := by
    rintro s q ⟨u, h1, h2⟩
    exact ⟨u, fun w' hw => by simp [h1 w' trivial], h2⟩
  have ofL : ∀ {s : Sem Value} {q : A}, (∃ u, (∀ w', Adv w NoF w' NoF → s.run P w' = .ok u w') ∧ Rep P w (Ft F0 μ H) μ q u) → ∃ v, (∀ w', Adv w NoF w' NoF → ((do pure (.value (← s))) : Sem Next).run P w' = .ok (.value v) w') ∧ Rep P w (Ft F0 μ H) μ q v := by
    rintro s q ⟨u, h1, h2⟩
    exact ⟨u, fun w' hw => by simp [h1 w' hw], h2⟩
  cases op with
  | move x => cases h; exact ⟨rfl, a.eval x, fun _ _ => rfl, hev x⟩
  | assign x => cases h; exact ⟨rfl, a.eval x, fun _ _ => rfl, hev x⟩
  | pick c x y =>
    simp only [aop] at h
    split at h
    · rename_i t hc; cases h
      have hb := hev c
      rw [hc] at hb
      have hb := hb.bool_inv
      refine ⟨rfl, if t then a.eval x else a.eval y, fun _ _ => by simp [execOp, hb, asBool], ?_⟩
      cases t
      · exact hev y
      · exact hev x
    · cases h
  | binOp op t x y u =>
    simp only [aop] at h
    split at h
    · rename_i hn
      obtain ⟨q, hq, h⟩ := Option.map_eq_some_iff.1 h; cases h
      rw [nilOp_some hn]
      exact ⟨rfl, of (s_acmpNil x (.const (.slice none 0 0)) (hev x) hq)⟩
    · obtain ⟨q, hq, h⟩ := Option.map_eq_some_iff.1 h; cases h; exact ⟨rfl, of (s_abin2 x y (hev x) (hev y) hq)⟩
  | unOp op t x => obtain ⟨q, hq, h⟩ := Option.map_eq_some_iff.1 h; cases h; exact ⟨rfl, of (s_aun (hev x) hq)⟩
  | convert s d x => obtain ⟨q, hq, h⟩ := Option.map_eq_some_iff.1 h; cases h; exact ⟨rfl, of (s_aconv (hev x) hq)⟩
  | indexAddr t x i => obtain ⟨q, hq, h⟩ := Option.map_eq_some_iff.1 h; cases h; exact ⟨rfl, of (s_aidx hs (hev x) (hev i) hq)⟩
  | index t x i => obtain ⟨q, hq, h⟩ := Option.map_eq_some_iff.1 h; cases h; exact ⟨rfl, of (s_aindex (hev x) (hev i) hq)⟩
  | load t x => obtain ⟨q, hq, h⟩ := Option.map_eq_some_iff.1 h; cases h; exact ⟨rfl, ofL (s_aload hs (hev x) hq)⟩
  | fieldAddr t x f => obtain ⟨q, hq, h⟩ := Option.map_eq_some_iff.1 h; cases h; exact ⟨rfl, of (s_afieldAddr (hev x) hq)⟩
  | lookup t x k ok => obtain ⟨q, hq, h⟩ := Option.map_eq_some_iff.1 h; cases h; exact ⟨rfl, ofL (s_alookup hs (hev x) (hev k) hq)⟩
  | field t x f => obtain ⟨q, hq, h⟩ := Option.map_eq_some_iff.1 h; cases h; exact ⟨rfl, of (s_afield (hev x) hq)⟩
  | extract x i => obtain ⟨q, hq, h⟩ := Option.map_eq_some_iff.1 h; cases h; exact ⟨rfl, of (s_aextract (hev x) hq)⟩
  | slice t x lo hi mx =>
    simp only [aop] at h
    split at h
    · rename_i hok
      obtain ⟨q, hq, h⟩ := Option.map_eq_some_iff.1 h
      cases h
      refine ⟨rfl, of (s_aslice hs ?_ (hev x) (repO_map hev lo) (repO_map hev hi) (repO_map hev mx) hq)⟩
      exact ownOK_some hok
    · cases h
  | nilCheck x =>
    obtain ⟨q, hq, h⟩ := Option.map_eq_some_iff.1 h
    cases h
    obtain ⟨h1, h2⟩ := s_anilCheck (hev x) hq dst type pos aft g
    subst h2
    exact ⟨rfl, a.eval x, fun w' _ => h1 w', hev x⟩
  | build t parts => obtain ⟨q, hq, h⟩ := Option.map_eq_some_iff.1 h; cases h; exact ⟨rfl, of (s_abuilt (by simpa using repPs_map hev parts.toList) hq)⟩
  | makeFunc fn first caps =>
    cases fn with
    | func f =>
      simp only [aop] at h
      split at h
      · rename_i h0; cases h
        have hf : first = #[] := Array.eq_empty_of_size_eq_zero h0
        subst hf
        have hl := RepL.get (repL_map hev caps.toList)
        refine ⟨rfl, .func (.func f) #[] ⟨caps.toList.map a.eval⟩, fun w' _ => ?_, .fn _ _ _ _ hl.1 hl.2⟩
        simp [execOp, Instr.makeFunc]
        apply Array.ext'; simp
      · cases h
    | _ => cases h
  | call c =>
    simp only [aop] at h
    split at h
    · rename_i b hb
      have hl : RepL P w (Ft F0 μ H) μ (c.args.toList.map ρ) (c.args.map a.eval).toList := by simpa using repL_map hev c.args.toList
      have fin : ∀ v, (∀ w', Adv w NoF w' NoF → (builtin b c.argTypes type (c.args.map fun | .const _ => true | _ => false) (c.args.map a.eval)).run P w' = .ok (.value v) w') → ∀ w', Adv w NoF w' NoF → (execOp a.eval ⟨dst, .call c, type, pos, aft, g⟩).run P w' = .ok (.value v) w' := by
        intro v hv w' hw
        simp only [execOp, Sem.run_bind, resolve, hb, Sem.run_pure, Result.andThen, invoke]
        exact hv w' hw
      simp only [pureOp, hb] at hp
      revert hl fin
      generalize (c.args.map fun | .const _ => true | _ => false) = cs
      generalize c.args.map a.eval = vs
      generalize c.args.toList.map ρ = xs at h
      obtain ⟨vs⟩ := vs
      intro hl fin
      cases b <;> simp at hp
      case len =>
        simp only [abuiltin] at h
        split at h
        · rename_i x
          match vs, hl with
          | [v], hl =>
            obtain ⟨t, ht, h⟩ := Option.bind_eq_some_iff.1 h
            obtain ⟨q, hq, h⟩ := Option.map_eq_some_iff.1 h
            cases h
            obtain ⟨u, h1, h2⟩ := s_alen (ty := type) ht hl.1 hq
            exact ⟨rfl, u, fin u fun w' hw => by simp [builtin, h1 w' trivial], h2⟩
          | _ :: _ :: _, hl => exact hl.2.elim
          | [], hl => exact hl.elim
        · cases h
      case max =>
        simp only [abuiltin] at h
        obtain ⟨q, hq, h⟩ := Option.map_eq_some_iff.1 h
        cases h
        match xs, vs, hl, hq with
        | x :: xs, v :: vs, hl, hq =>
          obtain ⟨u, h1, h2⟩ := s_afold (g := Builtin.max2) (fun _ _ _ _ _ hx hy h => s_amax2 hx hy h) xs vs x _ v hl.1 hl.2 hq
          exact ⟨rfl, u, fin u fun w' hw => by simp [builtin, Builtin.max_, h1 w' trivial], h2⟩
        | [], _, _, hq => cases hq
        | _ :: _, [], hl, _ => exact hl.elim
      case min =>
        simp only [abuiltin] at h
        obtain ⟨q, hq, h⟩ := Option.map_eq_some_iff.1 h
        cases h
        match xs, vs, hl, hq with
        | x :: xs, v :: vs, hl, hq =>
          obtain ⟨u, h1, h2⟩ := s_afold (g := Builtin.min2) (fun _ _ _ _ _ hx hy h => s_amin2 hx hy h) xs vs x _ v hl.1 hl.2 hq
          exact ⟨rfl, u, fin u fun w' hw => by simp [builtin, Builtin.min_, h1 w' trivial], h2⟩
        | [], _, _, hq => cases hq
        | _ :: _, [], hl, _ => exact hl.elim
    · cases h
  | _ => cases hp

/-- Operations that yield their value in whatever world. -/
def constOp : Op → Bool
  | .move _ | .assign _ | .pick .. | .binOp .. | .unOp .. | .convert .. | .indexAddr .. | .index .. | .fieldAddr .. | .field .. | .extract .. | .slice .. | .nilCheck _ | .build .. | .makeFunc .. => true
  | .call c => match c.callee with
    | .builtin b => (match b with | .len | .max | .min => true | _ => false)
    | _ => false
  | _ => false

theorem s_const {P : Program} {w : World} {F0 : Fz} {μ : Mu} {H H' : List Row} {ρ : Operand → A} {a : Act} {r : A} (o : Oper) (hp : constOp o.op = true) (hs : HS P w F0 μ H) (hev : ∀ x, Rep P w (Ft F0 μ H) μ (ρ x) (a.eval x)) (h : aop P H ρ o.op = some (r, H')) :
    H' = H ∧ ∃ v, (∀ w', Cn w w' → (execOp a.eval o).run P w' = .ok (.value v) w') ∧ Rep P w (Ft F0 μ H) μ r v := by
  obtain ⟨dst, op, type, pos, aft, g⟩ := o
  simp only at h hp
  have of : ∀ {s : Sem Value} {q : A}, (∃ u, (∀ w', Cn w w' → s.run P w' = .ok u w') ∧ Rep P w (Ft F0 μ H) μ q u) → ∃ v, (∀ w', Cn w w' → ((do pure (.value (← s))) : Sem Next).run P w' = .ok (.value v) w') ∧ Rep P w (Ft F0 μ H) μ q v := by
    rintro s q ⟨u, h1, h2⟩
    exact ⟨u, fun w' hw => by simp [h1 w' trivial], h2⟩
  cases op with
  | move x => cases h; exact ⟨rfl, a.eval x, fun _ _ => rfl, hev x⟩
  | assign x => cases h; exact ⟨rfl, a.eval x, fun _ _ => rfl, hev x⟩
  | pick c x y =>
    simp only [aop] at h
    split at h
    · rename_i t hc; cases h
      have hb := hev c
      rw [hc] at hb
      have hb := hb.bool_inv
      refine ⟨rfl, if t then a.eval x else a.eval y, fun _ _ => by simp [execOp, hb, asBool], ?_⟩
      cases t
      · exact hev y
      · exact hev x
    · cases h
  | binOp op t x y u =>
    simp only [aop] at h
    split at h
    · rename_i hn
      obtain ⟨q, hq, h⟩ := Option.map_eq_some_iff.1 h; cases h
      rw [nilOp_some hn]
      exact ⟨rfl, of (s_acmpNil x (.const (.slice none 0 0)) (hev x) hq)⟩
    · obtain ⟨q, hq, h⟩ := Option.map_eq_some_iff.1 h; cases h; exact ⟨rfl, of (s_abin2 x y (hev x) (hev y) hq)⟩
  | unOp op t x => obtain ⟨q, hq, h⟩ := Option.map_eq_some_iff.1 h; cases h; exact ⟨rfl, of (s_aun (hev x) hq)⟩
  | convert s d x => obtain ⟨q, hq, h⟩ := Option.map_eq_some_iff.1 h; cases h; exact ⟨rfl, of (s_aconv (hev x) hq)⟩
  | indexAddr t x i => obtain ⟨q, hq, h⟩ := Option.map_eq_some_iff.1 h; cases h; exact ⟨rfl, of (s_aidx hs (hev x) (hev i) hq)⟩
  | index t x i => obtain ⟨q, hq, h⟩ := Option.map_eq_some_iff.1 h; cases h; exact ⟨rfl, of (s_aindex (hev x) (hev i) hq)⟩
  | fieldAddr t x f => obtain ⟨q, hq, h⟩ := Option.map_eq_some_iff.1 h; cases h; exact ⟨rfl, of (s_afieldAddr (hev x) hq)⟩
  | field t x f => obtain ⟨q, hq, h⟩ := Option.map_eq_some_iff.1 h; cases h; exact ⟨rfl, of (s_afield (hev x) hq)⟩
  | extract x i => obtain ⟨q, hq, h⟩ := Option.map_eq_some_iff.1 h; cases h; exact ⟨rfl, of (s_aextract (hev x) hq)⟩
  | slice t x lo hi mx =>
    simp only [aop] at h
    split at h
    · rename_i hok
      obtain ⟨q, hq, h⟩ := Option.map_eq_some_iff.1 h
      cases h
      refine ⟨rfl, of (s_aslice hs ?_ (hev x) (repO_map hev lo) (repO_map hev hi) (repO_map hev mx) hq)⟩
      exact ownOK_some hok
    · cases h
  | nilCheck x =>
    obtain ⟨q, hq, h⟩ := Option.map_eq_some_iff.1 h
    cases h
    obtain ⟨h1, h2⟩ := s_anilCheck (hev x) hq dst type pos aft g
    subst h2
    exact ⟨rfl, a.eval x, fun w' _ => h1 w', hev x⟩
  | build t parts => obtain ⟨q, hq, h⟩ := Option.map_eq_some_iff.1 h; cases h; exact ⟨rfl, of (s_abuilt (by simpa using repPs_map hev parts.toList) hq)⟩
  | makeFunc fn first caps =>
    cases fn with
    | func f =>
      simp only [aop] at h
      split at h
      · rename_i h0; cases h
        have hf : first = #[] := Array.eq_empty_of_size_eq_zero h0
        subst hf
        have hl := RepL.get (repL_map hev caps.toList)
        refine ⟨rfl, .func (.func f) #[] ⟨caps.toList.map a.eval⟩, fun w' _ => ?_, .fn _ _ _ _ hl.1 hl.2⟩
        simp [execOp, Instr.makeFunc]
        apply Array.ext'; simp
      · cases h
    | _ => cases h
  | call c =>
    simp only [aop] at h
    split at h
    · rename_i b hb
      have hl : RepL P w (Ft F0 μ H) μ (c.args.toList.map ρ) (c.args.map a.eval).toList := by simpa using repL_map hev c.args.toList
      have fin : ∀ v, (∀ w', Cn w w' → (builtin b c.argTypes type (c.args.map fun | .const _ => true | _ => false) (c.args.map a.eval)).run P w' = .ok (.value v) w') → ∀ w', Cn w w' → (execOp a.eval ⟨dst, .call c, type, pos, aft, g⟩).run P w' = .ok (.value v) w' := by
        intro v hv w' hw
        simp only [execOp, Sem.run_bind, resolve, hb, Sem.run_pure, Result.andThen, invoke]
        exact hv w' hw
      simp only [constOp, hb] at hp
      revert hl fin
      generalize (c.args.map fun | .const _ => true | _ => false) = cs
      generalize c.args.map a.eval = vs
      generalize c.args.toList.map ρ = xs at h
      obtain ⟨vs⟩ := vs
      intro hl fin
      cases b <;> simp at hp
      case len =>
        simp only [abuiltin] at h
        split at h
        · rename_i x
          match vs, hl with
          | [v], hl =>
            obtain ⟨t, ht, h⟩ := Option.bind_eq_some_iff.1 h
            obtain ⟨q, hq, h⟩ := Option.map_eq_some_iff.1 h
            cases h
            obtain ⟨u, h1, h2⟩ := s_alen (ty := type) ht hl.1 hq
            exact ⟨rfl, u, fin u fun w' hw => by simp [builtin, h1 w' trivial], h2⟩
          | _ :: _ :: _, hl => exact hl.2.elim
          | [], hl => exact hl.elim
        · cases h
      case max =>
        simp only [abuiltin] at h
        obtain ⟨q, hq, h⟩ := Option.map_eq_some_iff.1 h
        cases h
        match xs, vs, hl, hq with
        | x :: xs, v :: vs, hl, hq =>
          obtain ⟨u, h1, h2⟩ := s_afold (g := Builtin.max2) (fun _ _ _ _ _ hx hy h => s_amax2 hx hy h) xs vs x _ v hl.1 hl.2 hq
          exact ⟨rfl, u, fin u fun w' hw => by simp [builtin, Builtin.max_, h1 w' trivial], h2⟩
        | [], _, _, hq => cases hq
        | _ :: _, [], hl, _ => exact hl.elim
      case min =>
        simp only [abuiltin] at h
        obtain ⟨q, hq, h⟩ := Option.map_eq_some_iff.1 h
        cases h
        match xs, vs, hl, hq with
        | x :: xs, v :: vs, hl, hq =>
          obtain ⟨u, h1, h2⟩ := s_afold (g := Builtin.min2) (fun _ _ _ _ _ hx hy h => s_amin2 hx hy h) xs vs x _ v hl.1 hl.2 hq
          exact ⟨rfl, u, fin u fun w' hw => by simp [builtin, Builtin.min_, h1 w' trivial], h2⟩
        | [], _, _, hq => cases hq
        | _ :: _, [], hl, _ => exact hl.elim
    · cases h
  | _ => cases hp

theorem run_enter {P : Program} {fid : FuncId} {a : Act} {f : Operand} {as : Array Operand} {ts : Array TypeId} {vcaps : List Value} (hcb : callable P fid = true) (hva : a.eval f = .func (.func fid) #[] ⟨vcaps⟩) (dst : Option Tmp) (type : TypeId) (pos : String) (aft : Array Edge) (g : Option (Nat × Bool)) (w : World) :
    (execOp a.eval ⟨dst, .call ⟨.value f, as, ts⟩, type, pos, aft, g⟩).run P w = .ok (.enter fid ⟨as.toList.map a.eval ++ vcaps⟩) w := by
  unfold callable at hcb
  split at hcb
  · rename_i fn hfun
    simp at hcb
    have hb : fn.body.isNone = false := by cases hbb : fn.body <;> simp_all
    have hnm : (fn.name == "runtime.NumGoroutine") = false := by simpa using hcb.2
    have e1 : (#[] ++ Array.map a.eval as ++ (⟨vcaps⟩ : Array Value)) = ⟨as.toList.map a.eval ++ vcaps⟩ := by apply Array.ext'; simp
    simp only [execOp, Sem.run_bind, resolve, hva, Deferred.ofValue, Sem.run_pure, Result.andThen, invoke, callFunc, program, Sem.run, hfun, hnm, hb, Bool.false_eq_true, if_false, e1]
  · cases hcb

theorem RepL.app {P : Program} {w : World} {F : Fz} {μ : Mu} : ∀ {xs : List A} {us : List Value} {ys : List A} {vs : List Value}, RepL P w F μ xs us → RepL P w F μ ys vs → RepL P w F μ (xs ++ ys) (us ++ vs)
  | [], [], _, _, _, hy => hy
  | _ :: _, _ :: _, _, _, hx, hy => ⟨hx.1, RepL.app hx.2 hy⟩
  | [], _ :: _, _, _, hx, _ => hx.elim
  | _ :: _, [], _, _, hx, _ => hx.elim

theorem RepL.ofget {P : Program} {w : World} {F : Fz} {μ : Mu} : ∀ {ys : List A} {vs : List Value}, vs.length = ys.length → (∀ (i : Nat) (c : A) (u : Value), ys[i]? = some c → vs[i]? = some u → Rep P w F μ c u) → RepL P w F μ ys vs
  | [], [], _, _ => trivial
  | y :: ys, v :: vs, hl, hh => ⟨hh 0 y v rfl rfl, RepL.ofget (by simpa using hl) fun i c u hc hu => hh (i + 1) c u (by simpa using hc) (by simpa using hu)⟩
  | [], _ :: _, hl, _ => by simp at hl
  | _ :: _, [], hl, _ => by simp at hl

theorem RepL.noid {P : Program} {w : World} {F : Fz} {μ : Mu} : ∀ {xs : List A} {vs : List Value}, noidL xs = true → RepL P w F μ xs vs → RepL P w F [] xs vs
  | [], [], _, _ => trivial
  | _ :: _, _ :: _, hn, hx => by simp [noidL] at hn; exact ⟨hx.1.noid hn.1, RepL.noid hn.2 hx.2⟩
  | [], _ :: _, _, hx => hx.elim
  | _ :: _, [], _, hx => hx.elim

theorem vcQ_sound {P : Program} {X : Ctx} {ops : Array Oper} {Q : S → Prop} {R : Exit → Act → World → Prop} {w : World} {μ : Mu} (hR : ∀ s a w' , Adv w NoF w' NoF → Q s → Sim P X s a w' μ → R .normal a w') :
    ∀ (l : List Oper) (s : S) (a : Act), pureB l = true → vcQ P ops Q l s → Sim P X s a w μ → wpQuiet P ops (fun w' => Adv w NoF w' NoF) (fun a' => ∀ w', Adv w NoF w' NoF → R .normal a' w') l a
  | [], s, a, _, h, hS => fun w' hw => hR s a w' hw h ⟨hS.len, fun i x hx => (hS.rep i x hx).adv (hw.ofNo _) (List.prefix_refl _), hS.hs.ofNo hw, hS.adv.trans (hw.ofNo _), hS.pre, hS.defers⟩
  | o :: rest, s, a, hp, h, hS => by
    simp only [pureB, Bool.and_eq_true] at hp
    have step : stepQ P o (vcQ P ops Q rest) s → o.quiet P a (fun w' => Adv w NoF w' NoF) (wpQuiet P ops (fun w' => Adv w NoF w' NoF) (fun a' => ∀ w', Adv w NoF w' NoF → R .normal a' w') rest) := by
      intro h
      have plain : obind (aop P s.h (ev s.t) o.op) (finK o.dst (vcQ P ops Q rest) s.t) → o.quiet P a (fun w' => Adv w NoF w' NoF) (wpQuiet P ops (fun w' => Adv w NoF w' NoF) (fun a' => ∀ w', Adv w NoF w' NoF → R .normal a' w') rest) := by
        intro h
        cases hop : aop P s.h (ev s.t) o.op with
        | none => rw [hop] at h; exact h.elim
        | some y =>
          obtain ⟨r, H'⟩ := y
          rw [hop] at h
          obtain ⟨rfl, v, h1, h2⟩ := s_pure (a := a) o hp.1 hS.hs hS.eval hop
          refine ⟨v, fun w' hw => ?_, vcQ_sound hR rest _ _ hp.2 h (hS.put o.dst hS.hs (Adv.refl _ _) (List.prefix_refl _) h2)⟩
          unfold Oper.quietAt
          rw [h1 w' hw]
          exact ⟨rfl, rfl⟩
      unfold stepQ at h
      split at h
      · rename_i c hc
        split at h
        · rename_i f hf
          unfold callQ at h
          split at h
          · rename_i fid caps hfn
            obtain ⟨hn, r, ⟨hcb, hE⟩, hK⟩ := h
            have hrf := hS.eval f
            rw [hfn] at hrf
            generalize hva : a.eval f = vf at hrf
            cases hrf with | fn _ _ _ vcaps hl hh =>
            have hL := RepL.noid hn ((repL_map hS.eval c.args.toList).app (RepL.ofget hl hh))
            obtain ⟨v, h1, h2⟩ := hE w (Ft X.F0 μ s.h) _ (fun b o hf => hS.hs.lt hf) hL
            refine ⟨v, fun w' hw => ?_, vcQ_sound hR rest _ _ hp.2 hK (hS.put o.dst hS.hs (Adv.refl _ _) (List.prefix_refl _) (h1.mono (fun _ _ _ h => h) List.nil_prefix))⟩
            obtain ⟨dst, op, type, pos, aft, g⟩ := o
            obtain ⟨callee, as, ts⟩ := c
            simp only at hc hf
            subst hc hf
            unfold Oper.quietAt
            rw [run_enter hcb hva]
            exact ⟨rfl, (h2 w' hw).mono fun e w'' ⟨he, hA⟩ => ⟨he, hw.trans hA⟩⟩
          · exact h.elim
        · exact plain h
      · exact plain h
    simp only [vcQ] at h
    unfold wpQuiet
    split at h
    · rename_i hg
      rw [if_pos (by simp [Region.wanted, hg])]
      exact step h
    · rename_i j want hg
      unfold guardK at h
      split at h
      · rename_i b hb
        have hy := gval_yielded hS hb
        by_cases hw : b = want
        · rw [if_pos (by simp [Region.wanted, hg, hy, hw])]
          exact step (h.1 hw)
        · rw [if_neg (by simp [Region.wanted, hg, hy, hw])]
          have hb' : b = !want := by cases b <;> cases want <;> simp_all
          exact vcQ_sound hR rest _ _ hp.2 (h.2 hb') (hS.put o.dst hS.hs (Adv.refl _ _) (List.prefix_refl _) rep_undef)
      · rename_i hb
        have hy := gval_und hS hb
        rw [if_neg (by simp [Region.wanted, hg, hy])]
        exact vcQ_sound hR rest _ _ hp.2 h (hS.put o.dst hS.hs (Adv.refl _ _) (List.prefix_refl _) rep_undef)
      · exact h.elim

theorem awp_draw {P : Program} {X : Ctx} {id : Nat} {ops : Array Oper} {Q : AX → S → Prop} {s : S} (hm : P.follows .mixedOrders = true) (hB : Region.lexB .any ops = true) (hp : pureB ops.toList = true) (h : vcQ P ops (Q .normal) ops.toList s) : awp P X (.region id ops true) Q s := by
  intro a w μ hS
  refine wp_region_quiet hm hB (C := fun w' => Adv w NoF w' NoF) (Adv.drew NoF) ?_
  exact vcQ_sound (fun s a w' _ hQ hS' => ⟨.normal, s, μ, rfl, hQ, hS'⟩) _ s a hp h hS

/-- Operations that write nothing, then so many in forced order. -/
theorem awp_draw_tail {P : Program} {X : Ctx} {id : Nat} {l : List Oper} {Q : AX → S → Prop} {s : S} (n : Nat) (hm : P.follows .mixedOrders = true) (hB : Region.lexTailB .any l.toArray n = true) (hp : pureB (l.take n) = true) (hc : (l.take n).all (fun o => match o.op with | .call c => (match c.callee with | .value _ => false | _ => true) | _ => true) = true)
    (h : vcQ P l.toArray (vcOps P l.toArray Q (l.drop n)) (l.take n) s) : awp P X (.region id l.toArray true) Q s := by
  intro a w μ hS
  have key : ∀ (l1 : List Oper) (s : S) (a : Act), pureB l1 = true → l1.all (fun o => match o.op with | .call c => (match c.callee with | .value _ => false | _ => true) | _ => true) = true →
      vcQ P l.toArray (vcOps P l.toArray Q (l.drop n)) l1 s → Sim P X s a w.drew μ → wpStill P l.toArray w.drew (fun a' => wpList P l.toArray (lift P X Q) (l.drop n) a' w.drew) l1 a := by
    intro l1
    induction l1 with
    | nil => intro s a _ _ h hS; exact vcOps_sound _ _ h _ _ μ hS
    | cons o rest ih =>
      intro s a hp hc h hS
      simp only [pureB, Bool.and_eq_true] at hp
      simp only [List.all_cons, Bool.and_eq_true] at hc
      have step : stepQ P o (vcQ P l.toArray (vcOps P l.toArray Q (l.drop n)) rest) s → o.still P a w.drew (wpStill P l.toArray w.drew (fun a' => wpList P l.toArray (lift P X Q) (l.drop n) a' w.drew) rest) := by
        intro h
        have h' : obind (aop P s.h (ev s.t) o.op) (finK o.dst (vcQ P l.toArray (vcOps P l.toArray Q (l.drop n)) rest) s.t) := by
          unfold stepQ at h
          split at h
          · rename_i c hcc
            split at h
            · rename_i f hf
              have := hc.1
              simp [hcc, hf] at this
            · exact h
          · exact h
        cases hop : aop P s.h (ev s.t) o.op with
        | none => rw [hop] at h'; exact h'.elim
        | some y =>
          obtain ⟨r, H'⟩ := y
          rw [hop] at h'
          obtain ⟨rfl, v, h1, h2⟩ := s_pure (a := a) o hp.1 hS.hs hS.eval hop
          unfold Oper.still
          rw [h1 _ (Adv.refl _ _), Oper.stillUpon_value]
          exact ih _ _ hp.2 hc.2 h' (hS.put o.dst hS.hs (Adv.refl _ _) (List.prefix_refl _) h2)
      simp only [vcQ] at h
      unfold wpStill
      split at h
      · rename_i hg
        rw [if_pos (by simp [Region.wanted, hg])]
        exact step h
      · rename_i j want hg
        unfold guardK at h
        split at h
        · rename_i b hb
          have hy := gval_yielded hS hb
          by_cases hw : b = want
          · rw [if_pos (by simp [Region.wanted, hg, hy, hw])]
            exact step (h.1 hw)
          · rw [if_neg (by simp [Region.wanted, hg, hy, hw])]
            have hb' : b = !want := by cases b <;> cases want <;> simp_all
            exact ih _ _ hp.2 hc.2 (h.2 hb') (hS.put o.dst hS.hs (Adv.refl _ _) (List.prefix_refl _) rep_undef)
        · rename_i hb
          have hy := gval_und hS hb
          rw [if_neg (by simp [Region.wanted, hg, hy])]
          exact ih _ _ hp.2 hc.2 h (hS.put o.dst hS.hs (Adv.refl _ _) (List.prefix_refl _) rep_undef)
        · exact h.elim
  refine wp_region_still_tail n hm hB ?_
  refine key _ s a hp hc h ?_
  exact ⟨hS.len, fun i x hx => (hS.rep i x hx).adv ((Adv.drew NoF).ofNo _) (List.prefix_refl _), hS.hs.ofNo (Adv.drew NoF), hS.adv.trans ((Adv.drew NoF).ofNo _), hS.pre, hS.defers⟩

theorem vc_sound {P : Program} {X : Ctx} (hm : P.follows .mixedOrders = true) : ∀ (c : Code) (Q : AX → S → Prop) (s : S), allLex c = true → vc P X c Q s → awp P X c Q s
  | .skip, Q, s, _, h => awp_skip h
  | .region id ops false, Q, s, _, h => fun a w μ hS => wp_region_list (vcOps_sound _ _ h a w μ hS)
  | .region id ops true, Q, s, hl, h => by
    simp only [vc] at h
    split at h
    · rename_i hp
      simp only [allLex, hp, Bool.not_true, Bool.false_or] at hl
      exact awp_draw hm hl hp h
    · exact h
  | .seq x y, Q, s, hl, h => by
    simp only [allLex, Bool.and_eq_true] at hl
    exact awp_seq (awp_mono (vc_sound hm x _ _ hl.1 h) fun e s' h' => by
      cases e with
      | normal => exact vc_sound hm y _ _ hl.2 h'
      | exit id => exact h'
      | ret => exact h')
  | .cond c x y, Q, s, hl, h => by
    simp only [allLex, Bool.and_eq_true] at hl
    exact awp_cond (by
      revert h
      simp only [vc]
      unfold condK
      split
      · exact fun h => ⟨fun hb => vc_sound hm x _ _ hl.1 (h.1 hb), fun hb => vc_sound hm y _ _ hl.2 (h.2 hb)⟩
      · exact fun h => ⟨vc_sound hm x _ _ hl.1 h.1, vc_sound hm y _ _ hl.2 h.2⟩
      · exact id)
  | .block id c, Q, s, hl, h => awp_block (vc_sound hm c _ _ hl h)
  | .exit id, Q, s, _, h => awp_exit h
  | .ret, Q, s, _, h => awp_ret h
  | .loop _, _, _, _, h => h
  | .rangeFunc .., _, _, _, h => h
  | .scope _, _, _, _, h => h
  | .label _, _, _, _, h => h
  | .goto _, _, _, _, h => h
  | .refuse _, _, _, _, h => h

/-- Out of a contract that tells the result, a number say: one value. -/
theorem ecall_of {P : Program} {f : FuncId} {args : List A} {r : A} (h : FCall P f args (fun x => x = r)) (hs : scal r = true) : ECall P f args r := by
  have uniq : ∀ {w w' : World} {F F' : Fz} {μ μ' : Mu} {v v' : Value}, Rep P w F μ r v → Rep P w' F' μ' r v' → v = v' := by
    intro w w' F F' μ μ' v v' h1 h2
    have one : ∀ {c : A} {u u' : Value}, (match c with | .int .. | .bool _ | .str _ => true | _ => false) = true → Rep P w F μ c u → Rep P w' F' μ' c u' → u = u' := by
      intro c u u' hc g1 g2
      cases g1 <;> cases g2 <;> first | rfl | (simp at hc)
    have many : ∀ {cs : List A} {us us' : List Value}, (cs.all fun c => match c with | .int .. | .bool _ | .str _ => true | _ => false) = true → us.length = cs.length → us'.length = cs.length → (∀ (i : Nat) (c : A) (u : Value), cs[i]? = some c → us[i]? = some u → Rep P w F μ c u) → (∀ (i : Nat) (c : A) (u : Value), cs[i]? = some c → us'[i]? = some u → Rep P w' F' μ' c u) → us = us' := by
      intro cs us us' hc l1 l2 g1 g2
      apply List.ext_getElem?
      intro i
      by_cases hi : i < cs.length
      · have e0 : cs[i]? = some cs[i] := List.getElem?_eq_getElem hi
        have e1 : us[i]? = some us[i] := List.getElem?_eq_getElem (by omega)
        have e2 : us'[i]? = some us'[i] := List.getElem?_eq_getElem (by omega)
        rw [e1, e2, one (List.all_eq_true.1 hc _ (List.getElem_mem hi)) (g1 i _ _ e0 e1) (g2 i _ _ e0 e2)]
      · rw [List.getElem?_eq_none (by omega), List.getElem?_eq_none (by omega)]
    cases h1 with
    | int => cases h2; rfl
    | bool => cases h2; rfl
    | str => cases h2; rfl
    | agg _ _ us hl1 _ g1 => cases h2 with | agg _ _ us' hl2 _ g2 => rw [many hs hl1 hl2 g1 g2]
    | tup _ _ us hl1 g1 => cases h2 with | tup _ _ us' hl2 g2 => rw [many hs hl1 hl2 g1 g2]
    | _ => simp [AL.scal] at hs
  have mk : ∀ (w : World) (F : Fz), ∃ v, Rep P w F [] r v := by
    intro w F
    have one : ∀ c : A, (match c with | .int .. | .bool _ | .str _ => true | _ => false) = true → ∃ u, Rep P w F [] c u ∧ u.oneCell' = true := by
      intro c hc
      cases c <;> first | exact ⟨_, .int _ _ _, rfl⟩ | exact ⟨_, .bool _ _, rfl⟩ | exact ⟨_, .str _ _, rfl⟩ | (simp at hc)
    have many : ∀ cs : List A, (cs.all fun c => match c with | .int .. | .bool _ | .str _ => true | _ => false) = true → ∃ us, RepL P w F [] cs us ∧ ∀ u ∈ us, u.oneCell' = true := by
      intro cs
      induction cs with
      | nil => intro _; exact ⟨[], trivial, by simp⟩
      | cons c cs ih =>
        intro hc
        simp only [List.all_cons, Bool.and_eq_true] at hc
        obtain ⟨u, h1, h2⟩ := one c hc.1
        obtain ⟨us, h3, h4⟩ := ih hc.2
        exact ⟨u :: us, ⟨h1, h3⟩, by intro x hx; rcases List.mem_cons.1 hx with rfl | hx; exact h2; exact h4 x hx⟩
    cases r <;> first | exact ⟨_, .int _ _ _⟩ | exact ⟨_, .bool _ _⟩ | exact ⟨_, .str _ _⟩ | (simp [AL.scal] at hs; done) | skip
    · obtain ⟨us, h1, h2⟩ := many _ hs; have := RepL.get h1; exact ⟨_, .agg _ _ us this.1 h2 this.2⟩
    · obtain ⟨us, h1, _⟩ := many _ hs; have := RepL.get h1; exact ⟨_, .tup _ _ us this.1 this.2⟩
  refine ⟨h.1, fun w F0 vs hb hl => ?_⟩
  obtain ⟨v, hv⟩ := mk w F0
  have repL_adv : ∀ {w' : World} {xs : List A} {us : List Value}, Adv w NoF w' NoF → RepL P w F0 [] xs us → RepL P w' F0 [] xs us := by
    intro w' xs
    induction xs with
    | nil => intro us _ h; cases us with | nil => trivial | cons u us => exact h.elim
    | cons x xs ih => intro us hA h; cases us with | nil => exact h.elim | cons u us => exact ⟨h.1.adv (hA.ofNo _) (List.prefix_refl _), ih hA h.2⟩
  refine ⟨v, hv, fun w' hA => (h.2 w' F0 vs (fun b o hf => Nat.lt_of_lt_of_le (hb b o hf) hA.size) (repL_adv hA hl)).mono ?_⟩
  rintro e w'' ⟨v', r', rfl, rfl, h1, h2⟩
  exact ⟨by rw [uniq h1 hv], h2⟩

/-! Results. -/
def ares1 (P : Program) (H : List Row) (t : List A) : ResultVar → Option A
  | .tmp x => some (t.getD x .any)
  | .cell a ty => aload P H ty (t.getD a .any)

def ares (P : Program) (H : List Row) (t : List A) (rs : Array ResultVar) : Option A :=
  match rs.toList with
  | [x] => ares1 P H t x
  | l => (l.mapM (ares1 P H t)).map .tup

def resSem (tmps : Array Value) : ResultVar → Sem Value
  | .tmp t => pure (tmps.getD t undef)
  | .cell b t => do loadVar t (← asAddr (tmps.getD b undef))

theorem results_eq (fn : Func) (tmps : Array Value) : results fn tmps = (do let vs ← fn.results.mapM (resSem tmps); pure (if h : vs.size = 1 then vs[0] else .tuple vs)) := by
  unfold results
  congr 1

theorem s_ares {P : Program} {X : Ctx} {s : S} {a : Act} {w : World} {μ : Mu} (hS : Sim P X s a w μ) {fn : Func} {r : A} (h : ares P s.h s.t fn.results = some r) :
    ∃ v, (results fn a.tmps).run P w = .ok v w ∧ Rep P w (Ft X.F0 μ s.h) μ r v := by
  have one : ∀ (x : ResultVar) (r : A), ares1 P s.h s.t x = some r → ∃ v, (resSem a.tmps x).run P w = .ok v w ∧ Rep P w (Ft X.F0 μ s.h) μ r v := by
    intro x r hx
    cases x with
    | tmp t => cases hx; exact ⟨_, rfl, hS.eval (.tmp t)⟩
    | cell b t =>
      obtain ⟨u, h1, h2⟩ := s_aload hS.hs (hS.eval (.tmp b)) hx
      refine ⟨u, ?_, h2⟩
      have e : a.eval (.tmp b) = a.tmps.getD b undef := rfl
      have h1 := h1 w (Adv.refl _ _)
      rw [e] at h1
      simp only [resSem]
      generalize a.tmps.getD b undef = vb at h1
      cases vb with
      | pointer p =>
        cases p with
        | some p => simpa [Instr.loadAt, Instr.sureAddr, asAddr] using h1
        | none => simp [Instr.loadAt, Instr.sureAddr, stuck, Sem.run, Result.andThen] at h1
      | _ => simp [Instr.loadAt, Instr.sureAddr, stuck, Sem.run, Result.andThen] at h1
  have all : ∀ (l : List ResultVar) (rs : List A), l.mapM (ares1 P s.h s.t) = some rs → ∃ vs : List Value, (l.mapM (resSem a.tmps)).run P w = .ok vs w ∧ RepL P w (Ft X.F0 μ s.h) μ rs vs := by
    intro l
    induction l with
    | nil => intro rs h; simp at h; subst h; exact ⟨[], by simp, trivial⟩
    | cons x l ih =>
      intro rs h
      simp only [List.mapM_cons, Option.bind_eq_bind, Option.pure_def] at h
      obtain ⟨b, hb, h⟩ := Option.bind_eq_some_iff.1 h
      obtain ⟨bs, hbs, h⟩ := Option.bind_eq_some_iff.1 h
      cases h
      obtain ⟨v, h1, h2⟩ := one x b hb
      obtain ⟨vs, h3, h4⟩ := ih bs hbs
      refine ⟨v :: vs, ?_, h2, h4⟩
      rw [List.mapM_cons, Sem.run_bind, h1]
      simp only [Result.andThen]
      rw [Sem.run_bind, h3]
      rfl
  have hmap : ∀ vs : List Value, (fn.results.toList.mapM (resSem a.tmps)).run P w = .ok vs w →
      (results fn a.tmps).run P w = .ok (if h : vs.toArray.size = 1 then vs.toArray[0] else .tuple vs.toArray) w := by
    intro vs h
    rw [results_eq, Sem.run_bind, Array.mapM_eq_mapM_toList]
    rw [map_eq_pure_bind, Sem.run_bind, h]
    rfl
  unfold ares at h
  split at h
  · rename_i x hx
    obtain ⟨v, h1, h2⟩ := one x r h
    refine ⟨v, ?_, h2⟩
    have := hmap [v] (by rw [hx, List.mapM_cons, Sem.run_bind, h1]; rfl)
    simpa using this
  · rename_i l hl
    obtain ⟨rs, hrs, h⟩ := Option.map_eq_some_iff.1 h
    subst h
    obtain ⟨vs, h1, h2⟩ := all _ rs hrs
    have hg := RepL.get h2
    have hlen : vs.length ≠ 1 := by
      rw [hg.1, (mapM_get hrs).1]
      intro h1
      match hfl : fn.results.toList, h1 with
      | [x], _ => exact hl x hfl
    have := hmap vs h1
    refine ⟨.tuple ⟨vs⟩, ?_, .tup _ rs vs hg.1 hg.2⟩
    rw [this]
    simp [hlen]

def retX (P : Program) (rs : Array ResultVar) (R : A → List Row → Prop) : AX → S → Prop
  | .exit _, _ => False
  | _, s => obind (ares P s.h s.t rs) fun r => R r s.h

def retF (P : Program) (rs : Array ResultVar) (R : A → Prop) : AX → S → Prop
  | .exit _, _ => False
  | _, s => obind (ares P s.h s.t rs) fun r => obind (resA P s.h 4 r) fun r => R (wkA r)

theorem sim_start {P : Program} {w : World} {F0 : Fz} {μ : Mu} {H : List Row} (hs : HS P w F0 μ H) {args : List A} {vs : List Value} (hl : RepL P w (Ft F0 μ H) μ args vs) (n : Nat) :
    Sim P ⟨w, μ, Fof μ H, F0⟩ ⟨args ++ List.replicate (n - args.length) .any, H⟩ { tmps := (⟨vs⟩ : Array Value) ++ Array.replicate (n - (⟨vs⟩ : Array Value).size) undef, defers := [] } w μ where
  len := by have := (RepL.get hl).1; simp [this]
  rep := by
    obtain ⟨h1, h2⟩ := RepL.get hl
    intro i x hx
    by_cases hi : i < args.length
    · rw [List.getElem?_append_left hi] at hx
      have hv : vs[i]? = some vs[i] := List.getElem?_eq_getElem (by omega)
      have hlt : i < vs.length := by omega
      have e : ((⟨vs⟩ : Array Value) ++ Array.replicate (n - (⟨vs⟩ : Array Value).size) undef).getD i undef = vs[i] := by
        simp [Array.getD_eq_getD_getElem?, Array.getElem?_append, hlt]
      simp only
      rw [e]
      exact h2 i x _ hx hv
    · rw [List.getElem?_append_right (by omega)] at hx
      rw [List.getElem?_replicate] at hx
      split at hx
      · cases hx; exact .any _ _
      · cases hx
  hs := hs
  adv := Adv.refl _ _
  pre := List.prefix_refl _
  defers := rfl

/-- A contract out of a condition on the body. -/
theorem xcall_of {P : Program} {f : FuncId} {fn : Func} {c : Code} {args : List A} {H : List Row} {R : A → List Row → Prop} (hf : P.funcs[f]? = some fn) (hb : fn.body = some c) (hn : (fn.name == "runtime.NumGoroutine") = false) (hm : P.follows .mixedOrders = true) (hlx : allLex c = true)
    (h : ∀ X : Ctx, X.μ.length ≤ H.length → vc P X c (retX P fn.results R) ⟨args ++ List.replicate (fn.ntmps - args.length) .any, H⟩) : XCall P f args H R := by
  refine ⟨by simp [callable, hf, hb, hn], fun w F0 μ vs hs hl => ?_⟩
  refine calls_of_wp hf hb (Code.wp_mono ?_ (vc_sound hm c _ _ hlx (h ⟨w, μ, Fof μ H, F0⟩ (by simp [hs.len])) _ _ μ (sim_start hs hl fn.ntmps)))
  rintro e a' w' ⟨x, s', μ', rfl, hQ, hS⟩
  have fin : obind (ares P s'.h s'.t fn.results) (fun r => R r s'.h) → a'.defers = [] ∧ ∃ v, (results fn a'.tmps).run P w' = .ok v w' ∧ ∃ v' r H', Ending.returned v = .returned v' ∧ R r H' ∧ Res P w F0 μ H v' w' r H' := by
    intro hQ
    refine ⟨hS.defers, ?_⟩
    cases hr : ares P s'.h s'.t fn.results with
    | none => rw [hr] at hQ; exact hQ.elim
    | some r =>
      rw [hr] at hQ
      obtain ⟨v, h1, h2⟩ := s_ares hS hr
      exact ⟨v, h1, v, r, s'.h, rfl, hQ, μ', hS.hs, hS.adv, hS.pre, h2⟩
  cases x with
  | normal => exact fin hQ
  | ret => exact fin hQ
  | exit id => exact hQ.elim

/-- The same, nothing handed over: what comes back is read off the rows. -/
theorem fcall_of {P : Program} {f : FuncId} {fn : Func} {c : Code} {args : List A} {R : A → Prop} (hf : P.funcs[f]? = some fn) (hb : fn.body = some c) (hn : (fn.name == "runtime.NumGoroutine") = false) (hm : P.follows .mixedOrders = true) (hlx : allLex c = true)
    (h : ∀ X : Ctx, X.μ.length ≤ 0 → vc P X c (retF P fn.results R) ⟨args ++ List.replicate (fn.ntmps - args.length) .any, []⟩) : FCall P f args R := by
  have hx : XCall P f args [] (fun r H => obind (resA P H 4 r) fun r => R (wkA r)) := by
    refine xcall_of hf hb hn hm hlx fun X hX => ?_
    have : retX P fn.results (fun r H => obind (resA P H 4 r) fun r => R (wkA r)) = retF P fn.results R := by
      funext x s
      cases x <;> rfl
    rw [this]
    exact h X hX
  refine ⟨hx.1, fun w F0 vs hbd hl => ?_⟩
  have hnil : ∀ b o, ¬ Fof ([] : Mu) [] b o := by rintro b o ⟨i, r, bs, h1, _⟩; simp at h1
  refine (hx.2 w F0 [] vs (HS.nil hbd) ?_).mono ?_
  · have e : Ft F0 [] [] = F0 := by funext b o; exact propext ⟨fun h => h.elim id fun h => (hnil b o h).elim, .inl⟩
    rw [e]; exact hl
  · rintro e w' ⟨v, r, H', rfl, hR, μ', h1, h2, h3, h4⟩
    cases hr : resA P H' 4 r with
    | none => rw [hr] at hR; exact hR.elim
    | some r' =>
      rw [hr] at hR
      refine ⟨v, wkA r', rfl, hR, (s_resA h1 (fun b o hf => .inl hf) (fun i x b bs o hx hl hb _ => h1.sep i x b bs o hx hl hb) h4 hr).wk, ?_⟩
      exact ⟨h2.os, h2.tape, h2.output, h2.size, fun b o u hc _ => h2.cell b o u hc (hnil b o), fun _ _ _ hf => hf.elim, h2.shape, fun b hb _ => h2.block b hb fun o => hnil b o⟩
end Go.AL
