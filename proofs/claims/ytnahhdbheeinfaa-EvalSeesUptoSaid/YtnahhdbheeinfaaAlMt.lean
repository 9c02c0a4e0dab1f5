/- An abstract layer over the walk, 21c: maps as lists of pairs. No program in sight. -/
import Derived.Test.YtnahhdbheeinfaaAlFrz
namespace Go.AL

instance instEncPair : Enc (Int × Int) := ⟨fun p => .agg [.int .i64 p.1, .int .i64 p.2], 2, fun _ => rfl, fun _ => by simp, fun _ => rfl, by decide⟩
theorem enc_pair (p : Int × Int) : Enc.enc p = A.agg [.int .i64 p.1, .int .i64 p.2] := rfl

section
variable {κ ν : Type} [DecidableEq κ]
def mfind : List (κ × ν) → κ → Option (Nat × ν)
  | [], _ => none
  | p :: M, k => if p.1 = k then some (0, p.2) else (mfind M k).map fun q => (q.1 + 1, q.2)
def mget (M : List (κ × ν)) (k : κ) : Option ν := (mfind M k).map (·.2)
def mset (M : List (κ × ν)) (k : κ) (v : ν) : List (κ × ν) := match mfind M k with | some q => M.set q.1 (k, v) | none => M ++ [(k, v)]
@[simp] theorem mget_nil (k : κ) : mget ([] : List (κ × ν)) k = none := rfl
theorem mfind_cons (p : κ × ν) (M : List (κ × ν)) (k : κ) : mfind (p :: M) k = if p.1 = k then some (0, p.2) else (mfind M k).map fun q => (q.1 + 1, q.2) := rfl
theorem mget_cons (p : κ × ν) (M : List (κ × ν)) (k : κ) : mget (p :: M) k = if p.1 = k then some p.2 else mget M k := by
  unfold mget
  rw [mfind_cons]
  split
  · rfl
  · cases mfind M k <;> rfl
theorem mset_cons (p : κ × ν) (M : List (κ × ν)) (k : κ) (v : ν) : mset (p :: M) k v = if p.1 = k then (k, v) :: M else p :: mset M k v := by
  unfold mset
  by_cases h : p.1 = k
  · simp [mfind_cons, h]
  · simp only [mfind_cons, h, if_false]
    cases mfind M k <;> simp
theorem mget_set (M : List (κ × ν)) (k k' : κ) (v : ν) : mget (mset M k v) k' = if k = k' then some v else mget M k' := by
  induction M with
  | nil => rw [show mset ([] : List (κ × ν)) k v = [(k, v)] from rfl, mget_cons]
  | cons p M ih =>
    rw [mset_cons]
    by_cases h : p.1 = k
    · rw [if_pos h, mget_cons, mget_cons]
      simp only
      by_cases h2 : k = k'
      · rw [if_pos h2, if_pos h2]
      · rw [if_neg h2, if_neg h2, if_neg (by rw [h]; exact h2)]
    · rw [if_neg h, mget_cons, mget_cons, ih]
      by_cases h2 : k = k'
      · subst h2
        simp [h]
      · rw [if_neg h2, if_neg h2]
end

section
variable {κ ν : Type} [Enc κ] [Enc ν]
def encKV (p : κ × ν) : A := .tup [Enc.enc p.1, Enc.enc p.2]
/-- A map's row. -/
def RM (M : List (κ × ν)) : Row := RMp (M.map encKV)
theorem RM_nil : RMp [] = RM ([] : List (κ × ν)) := rfl
theorem afind_RM [DecidableEq κ] {P : Program} {t : TypeId} {k : κ} (hk : ∀ a b : κ, keq P t (Enc.enc a) (Enc.enc b) = some (decide (a = b))) : ∀ M : List (κ × ν), afind (keq P t (Enc.enc k)) (M.map encKV) = some ((mfind M k).map fun q => (q.1, Enc.enc q.2))
  | [] => rfl
  | p :: M => by
    rw [List.map_cons]
    simp only [show encKV p = A.tup [Enc.enc p.1, Enc.enc p.2] from rfl, afind, hk, mfind]
    by_cases h : p.1 = k
    · simp [h]
    · have h' : ¬ k = p.1 := fun e => h e.symm
      have ih := afind_RM hk M (k := k)
      simp only [decide_eq_false h', h, if_false]
      rw [ih]
      cases mfind M k <;> rfl
end

def isMapT (P : Program) (t : TypeId) : Bool := match P.underlying t with | some (.map _ _) => true | _ => false
def mkey (P : Program) (t : TypeId) : TypeId := match P.underlying t with | some (.map k _) => k | _ => 0
def melem (P : Program) (t : TypeId) : TypeId := match P.underlying t with | some (.map _ e) => e | _ => 0
theorem isMap_eq {P : Program} {t : TypeId} (h : isMapT P t = true) : P.underlying t = some (.map (mkey P t) (melem P t)) := by
  unfold isMapT at h
  unfold mkey melem
  split at h
  · rename_i k e hu; rw [hu]
  · cases h
theorem keq_ints {P : Program} {t : TypeId} (h : keyT P t = 1) (a b : Int) : keq P t (Enc.enc a) (Enc.enc b) = some (decide (a = b)) := by
  show keq P t (.int .i64 a) (.int .i64 b) = _
  simp [keq, h]
theorem keq_pairs {P : Program} {t : TypeId} (h : keyT P t = 2) (a b : Int × Int) : keq P t (Enc.enc a) (Enc.enc b) = some (decide (a = b)) := by
  show keq P t (.agg [.int .i64 a.1, .int .i64 a.2]) (.agg [.int .i64 b.1, .int .i64 b.2]) = _
  simp only [keq, h, and_self, if_true, Option.some.injEq]
  rw [Bool.eq_iff_iff]; simp [Prod.ext_iff]

section
variable {κ ν : Type} [Enc κ] [Enc ν] {P : Program} {H : List Row} {t : TypeId}
theorem alookup_at [DecidableEq κ] (id : Nat) (M : List (κ × ν)) (k : κ) (ok : Bool) (z : ν) (n : Nat) (hr : H[id]? = some (RM M)) (hm : isMapT P t = true) (hk : ∀ a b : κ, keq P (mkey P t) (Enc.enc a) (Enc.enc b) = some (decide (a = b))) (hok : keyOK P (mkey P t) (Enc.enc k) = true) (hz : zbox P (melem P t) = some (Enc.enc z, n)) :
    alookup P H t (.mp id) (Enc.enc k) ok = some (if ok then .tup [Enc.enc ((mget M k).getD z), .bool (mget M k).isSome] else Enc.enc ((mget M k).getD z)) := by
  unfold alookup
  rw [isMap_eq hm]
  simp only [hr, Option.bind_some, RM, RMp, hok, Enc.noid, and_self, if_true, afind_RM hk, hz, Option.map_some, mget]
  cases mfind M k <;> cases ok <;> rfl
theorem amapset_at [DecidableEq κ] (id : Nat) (M : List (κ × ν)) (k : κ) (v : ν) (hr : H[id]? = some (RM M)) (hm : isMapT P t = true) (hk : ∀ a b : κ, keq P (mkey P t) (Enc.enc a) (Enc.enc b) = some (decide (a = b))) (hok : keyOK P (mkey P t) (Enc.enc k) = true) :
    amapset P H t (.mp id) (Enc.enc k) (Enc.enc v) = some (H.set id (RM (mset M k v))) := by
  unfold amapset
  rw [isMap_eq hm]
  simp only [hr, Option.bind_some, RM, RMp, hok, Enc.noid, and_self, if_true, afind_RM hk, Option.map_some, mset]
  cases mfind M k with
  | none => simp [encKV]
  | some q => simp [encKV, List.map_set]
@[simp] theorem leRow_RM {ids : List Nat} {n : Nat} {j : Nat} (M : List (κ × ν)) : leRow ids n H j (RM M) = (H[j]? = some (RM M)) := by
  apply propext
  constructor
  · rintro (h | ⟨x, _, _, _, _, _, _, _, _, h⟩ | ⟨_, h⟩)
    · cases h
    · exact (h rfl).elim
    · exact h
  · exact fun h => .inr (.inr ⟨rfl, h⟩)
end
section
variable {P : Program} {t : TypeId}
attribute [simp] amkmap
@[simp] theorem fzA_mp (id sz : Nat) (e : A) (i : Nat) : fzA id sz e (.mp i) = .mp i := rfl
@[simp] theorem leA_mp' {ids : List Nat} (x : A) (i : Nat) : leA ids x (.mp i) = (x = .mp (ids.getD i 0)) := by cases x <;> simp [leA]
@[simp] theorem RM_inj_nil {κ ν : Type} [Enc κ] [Enc ν] : (RMp [] = RM ([] : List (κ × ν))) = True := eq_true rfl
@[simp high] theorem alookup_ii0 (H : List Row) (M : List (Int × Int)) (k : Int) (ok : Bool) (hm : isMapT P t = true) (hk : keyT P (mkey P t) = 1) (hz : zbox P (melem P t) = some (.int .i64 0, 8)) : alookup P (RM M :: H) t (.mp 0) (.int .i64 k) ok = some (if ok then .tup [.int .i64 ((mget M k).getD 0), .bool (mget M k).isSome] else .int .i64 ((mget M k).getD 0)) :=
  alookup_at (κ := Int) 0 M k ok 0 8 rfl hm (keq_ints hk) (by simp [keyOK, hk]) hz
@[simp high] theorem amapset_ii0 (H : List Row) (M : List (Int × Int)) (k : Int) (v : Int) (hm : isMapT P t = true) (hk : keyT P (mkey P t) = 1) : amapset P (RM M :: H) t (.mp 0) (.int .i64 k) (.int .i64 v) = some (RM (mset M k v) :: H) :=
  amapset_at (κ := Int) 0 M k v rfl hm (keq_ints hk) (by simp [keyOK, hk])
@[simp high] theorem alookup_ib0 (H : List Row) (M : List (Int × Bool)) (k : Int) (ok : Bool) (hm : isMapT P t = true) (hk : keyT P (mkey P t) = 1) (hz : zbox P (melem P t) = some (.bool false, 1)) : alookup P (RM M :: H) t (.mp 0) (.int .i64 k) ok = some (if ok then .tup [.bool ((mget M k).getD false), .bool (mget M k).isSome] else .bool ((mget M k).getD false)) :=
  alookup_at (κ := Int) 0 M k ok false 1 rfl hm (keq_ints hk) (by simp [keyOK, hk]) hz
@[simp high] theorem amapset_ib0 (H : List Row) (M : List (Int × Bool)) (k : Int) (v : Bool) (hm : isMapT P t = true) (hk : keyT P (mkey P t) = 1) : amapset P (RM M :: H) t (.mp 0) (.int .i64 k) (.bool v) = some (RM (mset M k v) :: H) :=
  amapset_at (κ := Int) 0 M k v rfl hm (keq_ints hk) (by simp [keyOK, hk])
@[simp high] theorem alookup_pi0 (H : List Row) (M : List ((Int × Int) × Int)) (k k2 : Int) (ok : Bool) (hm : isMapT P t = true) (hk : keyT P (mkey P t) = 2) (hz : zbox P (melem P t) = some (.int .i64 0, 8)) : alookup P (RM M :: H) t (.mp 0) (.agg [.int .i64 k, .int .i64 k2]) ok = some (if ok then .tup [.int .i64 ((mget M (k, k2)).getD 0), .bool (mget M (k, k2)).isSome] else .int .i64 ((mget M (k, k2)).getD 0)) :=
  alookup_at (κ := (Int × Int)) 0 M (k, k2) ok 0 8 rfl hm (keq_pairs hk) (by simp [keyOK, hk, enc_pair]) hz
@[simp high] theorem amapset_pi0 (H : List Row) (M : List ((Int × Int) × Int)) (k k2 : Int) (v : Int) (hm : isMapT P t = true) (hk : keyT P (mkey P t) = 2) : amapset P (RM M :: H) t (.mp 0) (.agg [.int .i64 k, .int .i64 k2]) (.int .i64 v) = some (RM (mset M (k, k2) v) :: H) :=
  amapset_at (κ := (Int × Int)) 0 M (k, k2) v rfl hm (keq_pairs hk) (by simp [keyOK, hk, enc_pair])
@[simp high] theorem alookup_pb0 (H : List Row) (M : List ((Int × Int) × Bool)) (k k2 : Int) (ok : Bool) (hm : isMapT P t = true) (hk : keyT P (mkey P t) = 2) (hz : zbox P (melem P t) = some (.bool false, 1)) : alookup P (RM M :: H) t (.mp 0) (.agg [.int .i64 k, .int .i64 k2]) ok = some (if ok then .tup [.bool ((mget M (k, k2)).getD false), .bool (mget M (k, k2)).isSome] else .bool ((mget M (k, k2)).getD false)) :=
  alookup_at (κ := (Int × Int)) 0 M (k, k2) ok false 1 rfl hm (keq_pairs hk) (by simp [keyOK, hk, enc_pair]) hz
@[simp high] theorem amapset_pb0 (H : List Row) (M : List ((Int × Int) × Bool)) (k k2 : Int) (v : Bool) (hm : isMapT P t = true) (hk : keyT P (mkey P t) = 2) : amapset P (RM M :: H) t (.mp 0) (.agg [.int .i64 k, .int .i64 k2]) (.bool v) = some (RM (mset M (k, k2) v) :: H) :=
  amapset_at (κ := (Int × Int)) 0 M (k, k2) v rfl hm (keq_pairs hk) (by simp [keyOK, hk, enc_pair])
@[simp high] theorem alookup_ii1 (r0 : Row) (H : List Row) (M : List (Int × Int)) (k : Int) (ok : Bool) (hm : isMapT P t = true) (hk : keyT P (mkey P t) = 1) (hz : zbox P (melem P t) = some (.int .i64 0, 8)) : alookup P (r0 :: RM M :: H) t (.mp 1) (.int .i64 k) ok = some (if ok then .tup [.int .i64 ((mget M k).getD 0), .bool (mget M k).isSome] else .int .i64 ((mget M k).getD 0)) :=
  alookup_at (κ := Int) 1 M k ok 0 8 rfl hm (keq_ints hk) (by simp [keyOK, hk]) hz
@[simp high] theorem amapset_ii1 (r0 : Row) (H : List Row) (M : List (Int × Int)) (k : Int) (v : Int) (hm : isMapT P t = true) (hk : keyT P (mkey P t) = 1) : amapset P (r0 :: RM M :: H) t (.mp 1) (.int .i64 k) (.int .i64 v) = some (r0 :: RM (mset M k v) :: H) :=
  amapset_at (κ := Int) 1 M k v rfl hm (keq_ints hk) (by simp [keyOK, hk])
@[simp high] theorem alookup_ib1 (r0 : Row) (H : List Row) (M : List (Int × Bool)) (k : Int) (ok : Bool) (hm : isMapT P t = true) (hk : keyT P (mkey P t) = 1) (hz : zbox P (melem P t) = some (.bool false, 1)) : alookup P (r0 :: RM M :: H) t (.mp 1) (.int .i64 k) ok = some (if ok then .tup [.bool ((mget M k).getD false), .bool (mget M k).isSome] else .bool ((mget M k).getD false)) :=
  alookup_at (κ := Int) 1 M k ok false 1 rfl hm (keq_ints hk) (by simp [keyOK, hk]) hz
@[simp high] theorem amapset_ib1 (r0 : Row) (H : List Row) (M : List (Int × Bool)) (k : Int) (v : Bool) (hm : isMapT P t = true) (hk : keyT P (mkey P t) = 1) : amapset P (r0 :: RM M :: H) t (.mp 1) (.int .i64 k) (.bool v) = some (r0 :: RM (mset M k v) :: H) :=
  amapset_at (κ := Int) 1 M k v rfl hm (keq_ints hk) (by simp [keyOK, hk])
@[simp high] theorem alookup_pi1 (r0 : Row) (H : List Row) (M : List ((Int × Int) × Int)) (k k2 : Int) (ok : Bool) (hm : isMapT P t = true) (hk : keyT P (mkey P t) = 2) (hz : zbox P (melem P t) = some (.int .i64 0, 8)) : alookup P (r0 :: RM M :: H) t (.mp 1) (.agg [.int .i64 k, .int .i64 k2]) ok = some (if ok then .tup [.int .i64 ((mget M (k, k2)).getD 0), .bool (mget M (k, k2)).isSome] else .int .i64 ((mget M (k, k2)).getD 0)) :=
  alookup_at (κ := (Int × Int)) 1 M (k, k2) ok 0 8 rfl hm (keq_pairs hk) (by simp [keyOK, hk, enc_pair]) hz
@[simp high] theorem amapset_pi1 (r0 : Row) (H : List Row) (M : List ((Int × Int) × Int)) (k k2 : Int) (v : Int) (hm : isMapT P t = true) (hk : keyT P (mkey P t) = 2) : amapset P (r0 :: RM M :: H) t (.mp 1) (.agg [.int .i64 k, .int .i64 k2]) (.int .i64 v) = some (r0 :: RM (mset M (k, k2) v) :: H) :=
  amapset_at (κ := (Int × Int)) 1 M (k, k2) v rfl hm (keq_pairs hk) (by simp [keyOK, hk, enc_pair])
@[simp high] theorem alookup_pb1 (r0 : Row) (H : List Row) (M : List ((Int × Int) × Bool)) (k k2 : Int) (ok : Bool) (hm : isMapT P t = true) (hk : keyT P (mkey P t) = 2) (hz : zbox P (melem P t) = some (.bool false, 1)) : alookup P (r0 :: RM M :: H) t (.mp 1) (.agg [.int .i64 k, .int .i64 k2]) ok = some (if ok then .tup [.bool ((mget M (k, k2)).getD false), .bool (mget M (k, k2)).isSome] else .bool ((mget M (k, k2)).getD false)) :=
  alookup_at (κ := (Int × Int)) 1 M (k, k2) ok false 1 rfl hm (keq_pairs hk) (by simp [keyOK, hk, enc_pair]) hz
@[simp high] theorem amapset_pb1 (r0 : Row) (H : List Row) (M : List ((Int × Int) × Bool)) (k k2 : Int) (v : Bool) (hm : isMapT P t = true) (hk : keyT P (mkey P t) = 2) : amapset P (r0 :: RM M :: H) t (.mp 1) (.agg [.int .i64 k, .int .i64 k2]) (.bool v) = some (r0 :: RM (mset M (k, k2) v) :: H) :=
  amapset_at (κ := (Int × Int)) 1 M (k, k2) v rfl hm (keq_pairs hk) (by simp [keyOK, hk, enc_pair])
@[simp high] theorem alookup_ii2 (r0 r1 : Row) (H : List Row) (M : List (Int × Int)) (k : Int) (ok : Bool) (hm : isMapT P t = true) (hk : keyT P (mkey P t) = 1) (hz : zbox P (melem P t) = some (.int .i64 0, 8)) : alookup P (r0 :: r1 :: RM M :: H) t (.mp 2) (.int .i64 k) ok = some (if ok then .tup [.int .i64 ((mget M k).getD 0), .bool (mget M k).isSome] else .int .i64 ((mget M k).getD 0)) :=
  alookup_at (κ := Int) 2 M k ok 0 8 rfl hm (keq_ints hk) (by simp [keyOK, hk]) hz
@[simp high] theorem amapset_ii2 (r0 r1 : Row) (H : List Row) (M : List (Int × Int)) (k : Int) (v : Int) (hm : isMapT P t = true) (hk : keyT P (mkey P t) = 1) : amapset P (r0 :: r1 :: RM M :: H) t (.mp 2) (.int .i64 k) (.int .i64 v) = some (r0 :: r1 :: RM (mset M k v) :: H) :=
  amapset_at (κ := Int) 2 M k v rfl hm (keq_ints hk) (by simp [keyOK, hk])
@[simp high] theorem alookup_ib2 (r0 r1 : Row) (H : List Row) (M : List (Int × Bool)) (k : Int) (ok : Bool) (hm : isMapT P t = true) (hk : keyT P (mkey P t) = 1) (hz : zbox P (melem P t) = some (.bool false, 1)) : alookup P (r0 :: r1 :: RM M :: H) t (.mp 2) (.int .i64 k) ok = some (if ok then .tup [.bool ((mget M k).getD false), .bool (mget M k).isSome] else .bool ((mget M k).getD false)) :=
  alookup_at (κ := Int) 2 M k ok false 1 rfl hm (keq_ints hk) (by simp [keyOK, hk]) hz
@[simp high] theorem amapset_ib2 (r0 r1 : Row) (H : List Row) (M : List (Int × Bool)) (k : Int) (v : Bool) (hm : isMapT P t = true) (hk : keyT P (mkey P t) = 1) : amapset P (r0 :: r1 :: RM M :: H) t (.mp 2) (.int .i64 k) (.bool v) = some (r0 :: r1 :: RM (mset M k v) :: H) :=
  amapset_at (κ := Int) 2 M k v rfl hm (keq_ints hk) (by simp [keyOK, hk])
@[simp high] theorem alookup_pi2 (r0 r1 : Row) (H : List Row) (M : List ((Int × Int) × Int)) (k k2 : Int) (ok : Bool) (hm : isMapT P t = true) (hk : keyT P (mkey P t) = 2) (hz : zbox P (melem P t) = some (.int .i64 0, 8)) : alookup P (r0 :: r1 :: RM M :: H) t (.mp 2) (.agg [.int .i64 k, .int .i64 k2]) ok = some (if ok then .tup [.int .i64 ((mget M (k, k2)).getD 0), .bool (mget M (k, k2)).isSome] else .int .i64 ((mget M (k, k2)).getD 0)) :=
  alookup_at (κ := (Int × Int)) 2 M (k, k2) ok 0 8 rfl hm (keq_pairs hk) (by simp [keyOK, hk, enc_pair]) hz
@[simp high] theorem amapset_pi2 (r0 r1 : Row) (H : List Row) (M : List ((Int × Int) × Int)) (k k2 : Int) (v : Int) (hm : isMapT P t = true) (hk : keyT P (mkey P t) = 2) : amapset P (r0 :: r1 :: RM M :: H) t (.mp 2) (.agg [.int .i64 k, .int .i64 k2]) (.int .i64 v) = some (r0 :: r1 :: RM (mset M (k, k2) v) :: H) :=
  amapset_at (κ := (Int × Int)) 2 M (k, k2) v rfl hm (keq_pairs hk) (by simp [keyOK, hk, enc_pair])
@[simp high] theorem alookup_pb2 (r0 r1 : Row) (H : List Row) (M : List ((Int × Int) × Bool)) (k k2 : Int) (ok : Bool) (hm : isMapT P t = true) (hk : keyT P (mkey P t) = 2) (hz : zbox P (melem P t) = some (.bool false, 1)) : alookup P (r0 :: r1 :: RM M :: H) t (.mp 2) (.agg [.int .i64 k, .int .i64 k2]) ok = some (if ok then .tup [.bool ((mget M (k, k2)).getD false), .bool (mget M (k, k2)).isSome] else .bool ((mget M (k, k2)).getD false)) :=
  alookup_at (κ := (Int × Int)) 2 M (k, k2) ok false 1 rfl hm (keq_pairs hk) (by simp [keyOK, hk, enc_pair]) hz
@[simp high] theorem amapset_pb2 (r0 r1 : Row) (H : List Row) (M : List ((Int × Int) × Bool)) (k k2 : Int) (v : Bool) (hm : isMapT P t = true) (hk : keyT P (mkey P t) = 2) : amapset P (r0 :: r1 :: RM M :: H) t (.mp 2) (.agg [.int .i64 k, .int .i64 k2]) (.bool v) = some (r0 :: r1 :: RM (mset M (k, k2) v) :: H) :=
  amapset_at (κ := (Int × Int)) 2 M (k, k2) v rfl hm (keq_pairs hk) (by simp [keyOK, hk, enc_pair])
@[simp high] theorem alookup_ii3 (r0 r1 r2 : Row) (H : List Row) (M : List (Int × Int)) (k : Int) (ok : Bool) (hm : isMapT P t = true) (hk : keyT P (mkey P t) = 1) (hz : zbox P (melem P t) = some (.int .i64 0, 8)) : alookup P (r0 :: r1 :: r2 :: RM M :: H) t (.mp 3) (.int .i64 k) ok = some (if ok then .tup [.int .i64 ((mget M k).getD 0), .bool (mget M k).isSome] else .int .i64 ((mget M k).getD 0)) :=
  alookup_at (κ := Int) 3 M k ok 0 8 rfl hm (keq_ints hk) (by simp [keyOK, hk]) hz
@[simp high] theorem amapset_ii3 (r0 r1 r2 : Row) (H : List Row) (M : List (Int × Int)) (k : Int) (v : Int) (hm : isMapT P t = true) (hk : keyT P (mkey P t) = 1) : amapset P (r0 :: r1 :: r2 :: RM M :: H) t (.mp 3) (.int .i64 k) (.int .i64 v) = some (r0 :: r1 :: r2 :: RM (mset M k v) :: H) :=
  amapset_at (κ := Int) 3 M k v rfl hm (keq_ints hk) (by simp [keyOK, hk])
@[simp high] theorem alookup_ib3 (r0 r1 r2 : Row) (H : List Row) (M : List (Int × Bool)) (k : Int) (ok : Bool) (hm : isMapT P t = true) (hk : keyT P (mkey P t) = 1) (hz : zbox P (melem P t) = some (.bool false, 1)) : alookup P (r0 :: r1 :: r2 :: RM M :: H) t (.mp 3) (.int .i64 k) ok = some (if ok then .tup [.bool ((mget M k).getD false), .bool (mget M k).isSome] else .bool ((mget M k).getD false)) :=
  alookup_at (κ := Int) 3 M k ok false 1 rfl hm (keq_ints hk) (by simp [keyOK, hk]) hz
@[simp high] theorem amapset_ib3 (r0 r1 r2 : Row) (H : List Row) (M : List (Int × Bool)) (k : Int) (v : Bool) (hm : isMapT P t = true) (hk : keyT P (mkey P t) = 1) : amapset P (r0 :: r1 :: r2 :: RM M :: H) t (.mp 3) (.int .i64 k) (.bool v) = some (r0 :: r1 :: r2 :: RM (mset M k v) :: H) :=
  amapset_at (κ := Int) 3 M k v rfl hm (keq_ints hk) (by simp [keyOK, hk])
@[simp high] theorem alookup_pi3 (r0 r1 r2 : Row) (H : List Row) (M : List ((Int × Int) × Int)) (k k2 : Int) (ok : Bool) (hm : isMapT P t = true) (hk : keyT P (mkey P t) = 2) (hz : zbox P (melem P t) = some (.int .i64 0, 8)) : alookup P (r0 :: r1 :: r2 :: RM M :: H) t (.mp 3) (.agg [.int .i64 k, .int .i64 k2]) ok = some (if ok then .tup [.int .i64 ((mget M (k, k2)).getD 0), .bool (mget M (k, k2)).isSome] else .int .i64 ((mget M (k, k2)).getD 0)) :=
  alookup_at (κ := (Int × Int)) 3 M (k, k2) ok 0 8 rfl hm (keq_pairs hk) (by simp [keyOK, hk, enc_pair]) hz
@[simp high] theorem amapset_pi3 (r0 r1 r2 : Row) (H : List Row) (M : List ((Int × Int) × Int)) (k k2 : Int) (v : Int) (hm : isMapT P t = true) (hk : keyT P (mkey P t) = 2) : amapset P (r0 :: r1 :: r2 :: RM M :: H) t (.mp 3) (.agg [.int .i64 k, .int .i64 k2]) (.int .i64 v) = some (r0 :: r1 :: r2 :: RM (mset M (k, k2) v) :: H) :=
  amapset_at (κ := (Int × Int)) 3 M (k, k2) v rfl hm (keq_pairs hk) (by simp [keyOK, hk, enc_pair])
@[simp high] theorem alookup_pb3 (r0 r1 r2 : Row) (H : List Row) (M : List ((Int × Int) × Bool)) (k k2 : Int) (ok : Bool) (hm : isMapT P t = true) (hk : keyT P (mkey P t) = 2) (hz : zbox P (melem P t) = some (.bool false, 1)) : alookup P (r0 :: r1 :: r2 :: RM M :: H) t (.mp 3) (.agg [.int .i64 k, .int .i64 k2]) ok = some (if ok then .tup [.bool ((mget M (k, k2)).getD false), .bool (mget M (k, k2)).isSome] else .bool ((mget M (k, k2)).getD false)) :=
  alookup_at (κ := (Int × Int)) 3 M (k, k2) ok false 1 rfl hm (keq_pairs hk) (by simp [keyOK, hk, enc_pair]) hz
@[simp high] theorem amapset_pb3 (r0 r1 r2 : Row) (H : List Row) (M : List ((Int × Int) × Bool)) (k k2 : Int) (v : Bool) (hm : isMapT P t = true) (hk : keyT P (mkey P t) = 2) : amapset P (r0 :: r1 :: r2 :: RM M :: H) t (.mp 3) (.agg [.int .i64 k, .int .i64 k2]) (.bool v) = some (r0 :: r1 :: r2 :: RM (mset M (k, k2) v) :: H) :=
  amapset_at (κ := (Int × Int)) 3 M (k, k2) v rfl hm (keq_pairs hk) (by simp [keyOK, hk, enc_pair])
@[simp high] theorem alookup_ii4 (r0 r1 r2 r3 : Row) (H : List Row) (M : List (Int × Int)) (k : Int) (ok : Bool) (hm : isMapT P t = true) (hk : keyT P (mkey P t) = 1) (hz : zbox P (melem P t) = some (.int .i64 0, 8)) : alookup P (r0 :: r1 :: r2 :: r3 :: RM M :: H) t (.mp 4) (.int .i64 k) ok = some (if ok then .tup [.int .i64 ((mget M k).getD 0), .bool (mget M k).isSome] else .int .i64 ((mget M k).getD 0)) :=
  alookup_at (κ := Int) 4 M k ok 0 8 rfl hm (keq_ints hk) (by simp [keyOK, hk]) hz
@[simp high] theorem amapset_ii4 (r0 r1 r2 r3 : Row) (H : List Row) (M : List (Int × Int)) (k : Int) (v : Int) (hm : isMapT P t = true) (hk : keyT P (mkey P t) = 1) : amapset P (r0 :: r1 :: r2 :: r3 :: RM M :: H) t (.mp 4) (.int .i64 k) (.int .i64 v) = some (r0 :: r1 :: r2 :: r3 :: RM (mset M k v) :: H) :=
  amapset_at (κ := Int) 4 M k v rfl hm (keq_ints hk) (by simp [keyOK, hk])
@[simp high] theorem alookup_ib4 (r0 r1 r2 r3 : Row) (H : List Row) (M : List (Int × Bool)) (k : Int) (ok : Bool) (hm : isMapT P t = true) (hk : keyT P (mkey P t) = 1) (hz : zbox P (melem P t) = some (.bool false, 1)) : alookup P (r0 :: r1 :: r2 :: r3 :: RM M :: H) t (.mp 4) (.int .i64 k) ok = some (if ok then .tup [.bool ((mget M k).getD false), .bool (mget M k).isSome] else .bool ((mget M k).getD false)) :=
  alookup_at (κ := Int) 4 M k ok false 1 rfl hm (keq_ints hk) (by simp [keyOK, hk]) hz
@[simp high] theorem amapset_ib4 (r0 r1 r2 r3 : Row) (H : List Row) (M : List (Int × Bool)) (k : Int) (v : Bool) (hm : isMapT P t = true) (hk : keyT P (mkey P t) = 1) : amapset P (r0 :: r1 :: r2 :: r3 :: RM M :: H) t (.mp 4) (.int .i64 k) (.bool v) = some (r0 :: r1 :: r2 :: r3 :: RM (mset M k v) :: H) :=
  amapset_at (κ := Int) 4 M k v rfl hm (keq_ints hk) (by simp [keyOK, hk])
@[simp high] theorem alookup_pi4 (r0 r1 r2 r3 : Row) (H : List Row) (M : List ((Int × Int) × Int)) (k k2 : Int) (ok : Bool) (hm : isMapT P t = true) (hk : keyT P (mkey P t) = 2) (hz : zbox P (melem P t) = some (.int .i64 0, 8)) : alookup P (r0 :: r1 :: r2 :: r3 :: RM M :: H) t (.mp 4) (.agg [.int .i64 k, .int .i64 k2]) ok = some (if ok then .tup [.int .i64 ((mget M (k, k2)).getD 0), .bool (mget M (k, k2)).isSome] else .int .i64 ((mget M (k, k2)).getD 0)) :=
  alookup_at (κ := (Int × Int)) 4 M (k, k2) ok 0 8 rfl hm (keq_pairs hk) (by simp [keyOK, hk, enc_pair]) hz
@[simp high] theorem amapset_pi4 (r0 r1 r2 r3 : Row) (H : List Row) (M : List ((Int × Int) × Int)) (k k2 : Int) (v : Int) (hm : isMapT P t = true) (hk : keyT P (mkey P t) = 2) : amapset P (r0 :: r1 :: r2 :: r3 :: RM M :: H) t (.mp 4) (.agg [.int .i64 k, .int .i64 k2]) (.int .i64 v) = some (r0 :: r1 :: r2 :: r3 :: RM (mset M (k, k2) v) :: H) :=
  amapset_at (κ := (Int × Int)) 4 M (k, k2) v rfl hm (keq_pairs hk) (by simp [keyOK, hk, enc_pair])
@[simp high] theorem alookup_pb4 (r0 r1 r2 r3 : Row) (H : List Row) (M : List ((Int × Int) × Bool)) (k k2 : Int) (ok : Bool) (hm : isMapT P t = true) (hk : keyT P (mkey P t) = 2) (hz : zbox P (melem P t) = some (.bool false, 1)) : alookup P (r0 :: r1 :: r2 :: r3 :: RM M :: H) t (.mp 4) (.agg [.int .i64 k, .int .i64 k2]) ok = some (if ok then .tup [.bool ((mget M (k, k2)).getD false), .bool (mget M (k, k2)).isSome] else .bool ((mget M (k, k2)).getD false)) :=
  alookup_at (κ := (Int × Int)) 4 M (k, k2) ok false 1 rfl hm (keq_pairs hk) (by simp [keyOK, hk, enc_pair]) hz
@[simp high] theorem amapset_pb4 (r0 r1 r2 r3 : Row) (H : List Row) (M : List ((Int × Int) × Bool)) (k k2 : Int) (v : Bool) (hm : isMapT P t = true) (hk : keyT P (mkey P t) = 2) : amapset P (r0 :: r1 :: r2 :: r3 :: RM M :: H) t (.mp 4) (.agg [.int .i64 k, .int .i64 k2]) (.bool v) = some (r0 :: r1 :: r2 :: r3 :: RM (mset M (k, k2) v) :: H) :=
  amapset_at (κ := (Int × Int)) 4 M (k, k2) v rfl hm (keq_pairs hk) (by simp [keyOK, hk, enc_pair])
@[simp high] theorem alookup_ii5 (r0 r1 r2 r3 r4 : Row) (H : List Row) (M : List (Int × Int)) (k : Int) (ok : Bool) (hm : isMapT P t = true) (hk : keyT P (mkey P t) = 1) (hz : zbox P (melem P t) = some (.int .i64 0, 8)) : alookup P (r0 :: r1 :: r2 :: r3 :: r4 :: RM M :: H) t (.mp 5) (.int .i64 k) ok = some (if ok then .tup [.int .i64 ((mget M k).getD 0), .bool (mget M k).isSome] else .int .i64 ((mget M k).getD 0)) :=
  alookup_at (κ := Int) 5 M k ok 0 8 rfl hm (keq_ints hk) (by simp [keyOK, hk]) hz
@[simp high] theorem amapset_ii5 (r0 r1 r2 r3 r4 : Row) (H : List Row) (M : List (Int × Int)) (k : Int) (v : Int) (hm : isMapT P t = true) (hk : keyT P (mkey P t) = 1) : amapset P (r0 :: r1 :: r2 :: r3 :: r4 :: RM M :: H) t (.mp 5) (.int .i64 k) (.int .i64 v) = some (r0 :: r1 :: r2 :: r3 :: r4 :: RM (mset M k v) :: H) :=
  amapset_at (κ := Int) 5 M k v rfl hm (keq_ints hk) (by simp [keyOK, hk])
@[simp high] theorem alookup_ib5 (r0 r1 r2 r3 r4 : Row) (H : List Row) (M : List (Int × Bool)) (k : Int) (ok : Bool) (hm : isMapT P t = true) (hk : keyT P (mkey P t) = 1) (hz : zbox P (melem P t) = some (.bool false, 1)) : alookup P (r0 :: r1 :: r2 :: r3 :: r4 :: RM M :: H) t (.mp 5) (.int .i64 k) ok = some (if ok then .tup [.bool ((mget M k).getD false), .bool (mget M k).isSome] else .bool ((mget M k).getD false)) :=
  alookup_at (κ := Int) 5 M k ok false 1 rfl hm (keq_ints hk) (by simp [keyOK, hk]) hz
@[simp high] theorem amapset_ib5 (r0 r1 r2 r3 r4 : Row) (H : List Row) (M : List (Int × Bool)) (k : Int) (v : Bool) (hm : isMapT P t = true) (hk : keyT P (mkey P t) = 1) : amapset P (r0 :: r1 :: r2 :: r3 :: r4 :: RM M :: H) t (.mp 5) (.int .i64 k) (.bool v) = some (r0 :: r1 :: r2 :: r3 :: r4 :: RM (mset M k v) :: H) :=
  amapset_at (κ := Int) 5 M k v rfl hm (keq_ints hk) (by simp [keyOK, hk])
@[simp high] theorem alookup_pi5 (r0 r1 r2 r3 r4 : Row) (H : List Row) (M : List ((Int × Int) × Int)) (k k2 : Int) (ok : Bool) (hm : isMapT P t = true) (hk : keyT P (mkey P t) = 2) (hz : zbox P (melem P t) = some (.int .i64 0, 8)) : alookup P (r0 :: r1 :: r2 :: r3 :: r4 :: RM M :: H) t (.mp 5) (.agg [.int .i64 k, .int .i64 k2]) ok = some (if ok then .tup [.int .i64 ((mget M (k, k2)).getD 0), .bool (mget M (k, k2)).isSome] else .int .i64 ((mget M (k, k2)).getD 0)) :=
  alookup_at (κ := (Int × Int)) 5 M (k, k2) ok 0 8 rfl hm (keq_pairs hk) (by simp [keyOK, hk, enc_pair]) hz
@[simp high] theorem amapset_pi5 (r0 r1 r2 r3 r4 : Row) (H : List Row) (M : List ((Int × Int) × Int)) (k k2 : Int) (v : Int) (hm : isMapT P t = true) (hk : keyT P (mkey P t) = 2) : amapset P (r0 :: r1 :: r2 :: r3 :: r4 :: RM M :: H) t (.mp 5) (.agg [.int .i64 k, .int .i64 k2]) (.int .i64 v) = some (r0 :: r1 :: r2 :: r3 :: r4 :: RM (mset M (k, k2) v) :: H) :=
  amapset_at (κ := (Int × Int)) 5 M (k, k2) v rfl hm (keq_pairs hk) (by simp [keyOK, hk, enc_pair])
@[simp high] theorem alookup_pb5 (r0 r1 r2 r3 r4 : Row) (H : List Row) (M : List ((Int × Int) × Bool)) (k k2 : Int) (ok : Bool) (hm : isMapT P t = true) (hk : keyT P (mkey P t) = 2) (hz : zbox P (melem P t) = some (.bool false, 1)) : alookup P (r0 :: r1 :: r2 :: r3 :: r4 :: RM M :: H) t (.mp 5) (.agg [.int .i64 k, .int .i64 k2]) ok = some (if ok then .tup [.bool ((mget M (k, k2)).getD false), .bool (mget M (k, k2)).isSome] else .bool ((mget M (k, k2)).getD false)) :=
  alookup_at (κ := (Int × Int)) 5 M (k, k2) ok false 1 rfl hm (keq_pairs hk) (by simp [keyOK, hk, enc_pair]) hz
@[simp high] theorem amapset_pb5 (r0 r1 r2 r3 r4 : Row) (H : List Row) (M : List ((Int × Int) × Bool)) (k k2 : Int) (v : Bool) (hm : isMapT P t = true) (hk : keyT P (mkey P t) = 2) : amapset P (r0 :: r1 :: r2 :: r3 :: r4 :: RM M :: H) t (.mp 5) (.agg [.int .i64 k, .int .i64 k2]) (.bool v) = some (r0 :: r1 :: r2 :: r3 :: r4 :: RM (mset M (k, k2) v) :: H) :=
  amapset_at (κ := (Int × Int)) 5 M (k, k2) v rfl hm (keq_pairs hk) (by simp [keyOK, hk, enc_pair])
end
end Go.AL
