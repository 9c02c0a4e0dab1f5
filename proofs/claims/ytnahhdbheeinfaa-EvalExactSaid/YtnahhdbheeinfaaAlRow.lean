/- An abstract layer over the walk, 15: what came in, and what a contract says of the world behind it. No program in sight. -/
import Derived.Test.YtnahhdbheeinfaaAlOpen
import Derived.WalkKit
import Derived.ProofKit
import Derived.OpenShut
import Derived.ShutString
import Derived.ChangeOld
import Derived.Carry
import Derived.Below
namespace Go.AL
open Go.ChangeShapes Go.WideShapes Go.ChangeAt Go.RowKit

theorem okWide_pack {P : Program} {S : List TypeId} {w : World} {r : Reach} {base : Nat} {t : TypeId} {v : Value} (hp : plainT P S t = true) (h : Value.okWide P w r base t v) : v = packV P t v.cells.toList := by
  unfold plainT at hp
  cases hu : P.underlying t with
  | none => rw [hu] at hp; cases hp
  | some k =>
    rw [hu] at hp
    unfold Value.okWide at h
    rw [hu] at h
    cases k <;> simp at hp
    case struct fs =>
      obtain ⟨cs, rfl, _⟩ := h
      simp [packV, aggT, hu, Value.cells]
    case array n e =>
      obtain ⟨cs, rfl, _⟩ := h
      simp [packV, aggT, hu, Value.cells]
    all_goals (simp only [Cell.okWide, hu] at h; cases v <;> simp_all [Cell.ok, packV, aggT, Value.cells])

/-- The arguments, each of its type. -/
def WTL (P : Program) : List TypeId → List A → Prop
  | [], [] => True
  | t :: ts, a :: as => (∃ n cs, WTc P n t cs ∧ a = packA P t cs) ∧ WTL P ts as
  | _, _ => False

theorem open_all {H : Type} {enc : TypeId × Value → H} {P : Program} {w : World} {r : Reach} {base : Nat} {S : List TypeId} (hS : ∀ t ∈ S, plainT P S t = true) : ∀ {params : List TypeId} {vs : List Value} {ds : List (DataW H)} {ps : List MemPlace}, (∀ t ∈ params, t ∈ S) →
    (∀ (j : Nat) t v, params[j]? = some t → vs[j]? = some v → Value.okWide P w r base t v) → DataW.TrodAll enc P w 0 (fun _ => true) true params vs ds ps → ∃ as, RepL P w NoF [] as vs ∧ WTL P params as
  | [], [], [], _, _, _, _ => ⟨[], trivial, trivial⟩
  | t :: ts, v :: vs, d :: ds, ps, hp, hv, h => by
    obtain ⟨p, q, h1, h2, _⟩ := h
    obtain ⟨fuel, hf⟩ := h1
    obtain ⟨as, k1, k2⟩ := open_all hS (fun t ht => hp t (by simp [ht])) (fun j t v ht hv' => hv (j + 1) t v (by simpa using ht) (by simpa using hv')) h2
    have ht := hp t (by simp)
    obtain ⟨hl, cs, g1, g2⟩ := open_cells hS fuel t _ _ _ ht hf
    have hpk := okWide_pack (hS t ht) (hv 0 t v rfl rfl)
    have hr := g1.pack (e := t) fun hag => by rw [← g1.1, hl]; exact plainT_one (hS t ht) hag
    rw [← hpk] at hr
    exact ⟨_ :: as, ⟨hr, k1⟩, ⟨fuel, cs, g2, rfl⟩, k2⟩
  | [], _ :: _, _, _, _, _, h => h.elim
  | [], [], _ :: _, _, _, _, h => h.elim
  | _ :: _, [], _, _, _, _, h => h.elim
  | _ :: _, _ :: _, [], _, _, _, h => h.elim

theorem trodAll_below {H : Type} {enc : TypeId × Value → H} {P : Program} (hl : laidOutB P = true) {W W' : World} (hb : Below W.heap.size W W') : ∀ {params : List TypeId} {vs : List Value} {ds : List (DataW H)} {ps : List MemPlace},
    (∀ t ∈ params, P.readableRec t = true ∧ t < P.types.size) → DataW.TrodAll enc P W 0 (fun _ => true) true params vs ds ps → DataW.TrodAll enc P W' 0 (fun b => decide (b < W.heap.size)) true params vs ds ps
  | [], [], [], _, _, h => h
  | t :: ts, v :: vs, d :: ds, ps, hp, h => by
    obtain ⟨p, q, h1, h2, h3⟩ := h
    have ht := hp t (by simp)
    have hlt : ∀ x ∈ p, x.block < W.heap.size := by obtain ⟨m, hm⟩ := h1; exact DataW.trod_lt m _ _ _ hm
    exact ⟨p, q, Below.trod hl ht.1 ht.2 h1 hb hlt, trodAll_below hl hb (fun t ht => hp t (by simp [ht])) h2, h3⟩
  | [], _ :: _, _, _, _, h => h.elim
  | [], [], _ :: _, _, _, h => h.elim
  | _ :: _, [], _, _, _, h => h.elim
  | _ :: _, _ :: _, [], _, _, h => h.elim

theorem Adv.below {w w' : World} (h : Adv w NoF w' NoF) : Below w.heap.size w w' :=
  ⟨h.os, h.tape, h.output, h.size, fun k hk => h.block k hk fun _ hf => hf⟩

/-- A contract of a law, for the row's step. -/
theorem walk_law {P : Program} {f : FuncId} {args : List A} {vs : List Value} {w : World} (h : FCall P f args (fun r => r = .bool true)) (hl : RepL P w NoF [] args vs) :
    Calls P f ⟨vs⟩ w fun e w' => e = .returned (.bool true) ∧ Below w.heap.size w w' := by
  refine (h.2 w NoF vs (fun _ _ hf => hf.elim) hl).mono ?_
  rintro e w' ⟨v, r, rfl, rfl, h1, h2⟩
  cases h1
  exact ⟨rfl, h2.below⟩

/-! Typed values out of what came in. -/
/-- The fields' types and places. -/
def ftl (P : Program) (t : TypeId) : Option (List (TypeId × Nat)) := match P.underlying t with | some (.struct fs) => some (fs.toList.map fun f => (f.type, f.offset)) | _ => none
def intT (P : Program) (t : TypeId) : Option IntKind := match P.underlying t with | some (.int k) => some k | _ => none
def isBoolT (P : Program) (t : TypeId) : Bool := match P.underlying t with | some .bool => true | _ => false

section
variable {P : Program} {t : TypeId} {n : Nat} {cs : List A}
theorem WTc_int {k : IntKind} (hu : intT P t = some k) (h : WTc P n t cs) : ∃ z, cs = [.int k z] ∧ (Lit.int k z).wf = true := by
  cases n with
  | zero => exact h.elim
  | succ n =>
    unfold intT at hu
    unfold WTc at h
    split at hu
    · rename_i hk; rw [hk] at h; cases hu; exact h
    · cases hu
theorem WTc_bool (hu : isBoolT P t = true) (h : WTc P n t cs) : ∃ b, cs = [.bool b] := by
  cases n with
  | zero => exact h.elim
  | succ n =>
    unfold isBoolT at hu
    unfold WTc at h
    split at hu
    · rename_i hk; rw [hk] at h; exact h
    · cases hu
theorem WTc_str (hu : isStrT P t = true) (h : WTc P n t cs) : ∃ l, cs = [.str l] ∧ l.length ≤ maxLen := by
  cases n with
  | zero => exact h.elim
  | succ n => unfold WTc at h; rw [isStr_eq hu] at h; exact h
theorem WTc_struct {l : List (TypeId × Nat)} (hu : ftl P t = some l) (h : WTc P n t cs) : ∃ m, n = m + 1 ∧ cs.length = P.cellsOf t ∧ ∀ p ∈ l, WTc P m p.1 ((cs.drop p.2).take (P.cellsOf p.1)) := by
  cases n with
  | zero => exact h.elim
  | succ n =>
    unfold ftl at hu
    unfold WTc at h
    split at hu
    · rename_i fs hk
      rw [hk] at h
      cases hu
      refine ⟨n, rfl, h.1, ?_⟩
      intro p hp
      obtain ⟨f, hf, rfl⟩ := List.mem_map.1 hp
      exact h.2 f hf
    · cases hu
/-- A slice. -/
theorem WTc_slice {α : Type} [Enc α] {Q : α → Prop} (hs : isSliceT P t = true) (hd : ∀ m cs, m < n → WTc P m (selem P t) cs → ∃ x : α, packA P (selem P t) cs = Enc.enc x ∧ Q x) (h : WTc P n t cs) :
    ∃ l : List α, cs = [Ls false l] ∧ l.length ≤ 9223372036854775807 ∧ ∀ x ∈ l, Q x := by
  cases n with
  | zero => exact h.elim
  | succ n =>
    unfold WTc at h
    rw [selem_eq hs] at h
    obtain ⟨els, rfl, h1, h2⟩ := h
    have key : ∀ els : List (List A), (∀ el ∈ els, WTc P n (selem P t) el) → ∃ l : List α, els.map (packA P (selem P t)) = l.map Enc.enc ∧ ∀ x ∈ l, Q x := by
      intro els
      induction els with
      | nil => intro _; exact ⟨[], rfl, by simp⟩
      | cons e els ih =>
        intro he
        obtain ⟨x, hx, hq⟩ := hd n e (Nat.lt_succ_self n) (he e (by simp))
        obtain ⟨l, hl, hql⟩ := ih fun el hel => he el (by simp [hel])
        exact ⟨x :: l, by simp [hx, hl], by intro y hy; rcases List.mem_cons.1 hy with rfl | hy; exact hq; exact hql y hy⟩
    obtain ⟨l, hl, hq⟩ := key els h2
    have hlen : l.length = els.length := by have := congrArg List.length hl; simpa using this.symm
    exact ⟨l, by rw [hl]; rfl, by rw [hlen, ← maxLen_eq]; exact h1, hq⟩
theorem pack_one {a : A} (h : aggT P t = false) : packA P t [a] = a := by simp [packA, h]
theorem pack_agg (h : aggT P t = true) : packA P t cs = .agg cs := by simp [packA, h]
end
end Go.AL
