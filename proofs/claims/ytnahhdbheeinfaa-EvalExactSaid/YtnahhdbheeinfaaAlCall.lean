/- An abstract layer over the walk, 12: contracts, calls, and the code as one condition. No program in sight. -/
import Derived.Test.YtnahhdbheeinfaaAlVc
import Derived.Deep.Quiet
import Derived.StillTail
namespace Go.AL

/-- Can the function be called: it has a body, and is none that the model holds apart. -/
def callable (P : Program) (f : FuncId) : Bool :=
  match P.funcs[f]? with
  | some fn => fn.body.isSome && !(fn.name == "runtime.NumGoroutine")
  | none => false

/-- A CONTRACT: called with what args stand for, the function returns what some r with R r stands for, and nothing that was there turns. -/
def FCall (P : Program) (f : FuncId) (args : List A) (R : A → Prop) : Prop :=
  callable P f = true ∧ ∀ w F0 vs, (∀ b o, F0 b o → b < w.heap.size) → RepL P w F0 [] args vs →
    Calls P f ⟨vs⟩ w fun e w' => ∃ v r, e = .returned v ∧ R r ∧ Rep P w' F0 [] r v ∧ Adv w NoF w' NoF

/-- The same where live rows are handed over: it may write to them. -/
def XCall (P : Program) (f : FuncId) (args : List A) (H : List Row) (R : A → List Row → Prop) : Prop :=
  callable P f = true ∧ ∀ w F0 μ vs, HS P w F0 μ H → RepL P w (Ft F0 μ H) μ args vs →
    Calls P f ⟨vs⟩ w fun e w' => ∃ v r H', e = .returned v ∧ R r H' ∧ Res P w F0 μ H v w' r H'

theorem FCall.mono {P : Program} {f : FuncId} {args : List A} {R R' : A → Prop} (h : FCall P f args R) (hR : ∀ r, R r → R' r) : FCall P f args R' :=
  ⟨h.1, fun w F0 vs hb hl => (h.2 w F0 vs hb hl).mono fun _ _ ⟨v, r, h1, h2, h3⟩ => ⟨v, r, h1, hR r h2, h3⟩⟩

theorem XCall.mono {P : Program} {f : FuncId} {args : List A} {H : List Row} {R R' : A → List Row → Prop} (h : XCall P f args H R) (hR : ∀ r H, R r H → R' r H) : XCall P f args H R' :=
  ⟨h.1, fun w F0 μ vs hs hl => (h.2 w F0 μ vs hs hl).mono fun _ _ ⟨v, r, H', h1, h2, h3⟩ => ⟨v, r, H', h1, hR r H' h2, h3⟩⟩

theorem xcall_mono {P : Program} {f : FuncId} {args : List A} {H : List Row} {R K : A → List Row → Prop} (hx : XCall P f args H R) (hK : ∀ r H', R r H' → K r H') : XCall P f args H K := hx.mono hK

/-! Handing over what is read. -/
def frzR (r : Row) : Row := { r with f := max r.f r.es.length }
def frz (H : List Row) : List Row := H.map frzR

theorem frz_get {H : List Row} {i : Nat} {r : Row} (h : (frz H)[i]? = some r) : ∃ r', H[i]? = some r' ∧ r = { r' with f := max r'.f r'.es.length } := by
  simp only [frz, List.getElem?_map] at h
  obtain ⟨r', h1, h2⟩ := Option.map_eq_some_iff.1 h
  exact ⟨r', h1, h2.symm⟩

theorem Fof_frz {μ : Mu} {H : List Row} {b o : Nat} (h : Fof μ (frz H) b o) : Fof μ H b o := by
  obtain ⟨i, r, bs, h1, h2, h3, h4⟩ := h
  obtain ⟨r', h5, rfl⟩ := frz_get h1
  refine ⟨i, r', bs, h5, h2, h3, ?_⟩
  have := Nat.mul_le_mul_right r'.sz (Nat.le_max_left r'.f r'.es.length)
  simp only at h4
  omega

theorem HS.frz {P : Program} {w : World} {F0 : Fz} {μ : Mu} {H : List Row} (hs : HS P w F0 μ H) : HS P w F0 μ (frz H) ∧ Adv w (Fof μ H) w (Fof μ (AL.frz H)) := by
  have hA : Adv w (Fof μ H) w (Fof μ (AL.frz H)) := ⟨rfl, rfl, rfl, Nat.le_refl _, fun _ _ _ h _ => h, fun b o _ h => Fof_frz h, fun _ _ _ h => h, fun _ _ _ => rfl⟩
  refine ⟨⟨by rw [hs.len]; simp [AL.frz], hs.bound, ?_, ?_, ?_⟩, hA⟩
  · intro i x b bs hx hl hb
    obtain ⟨r', h5, rfl⟩ := frz_get hx
    rcases hs.row i r' b bs h5 hl hb with h1 | h1
    · exact .inl (h1.adv (hA.join F0) (List.prefix_refl _) rfl)
    · exact .inr (h1.adv (hA.join F0) rfl)
  · intro i j x x' b bs bs' hx hl hx' hl' hb hb'
    obtain ⟨r1, h1, rfl⟩ := frz_get hx
    obtain ⟨r2, h2, rfl⟩ := frz_get hx'
    exact hs.inj i j r1 r2 b bs bs' h1 hl h2 hl' hb hb'
  · intro i x b bs o hx hl hb
    obtain ⟨r1, h1, rfl⟩ := frz_get hx
    exact hs.sep i r1 b bs o h1 hl hb

def resL (P : Program) (H : List Row) (xs : List A) : Option (List A) := if noidL xs then some xs else xs.mapM (resA P H 4)

theorem s_resL {P : Program} {w : World} {F0 F' : Fz} {μ : Mu} {H : List Row} (hs : HS P w F0 μ H) (hF : ∀ b o, F' b o → Ft F0 μ H b o) (hrow : ∀ (i : Nat) (r : Row) (b bs o : Nat), H[i]? = some r → r.live = true → μ[i]? = some (b, bs) → o < bs + r.es.length * r.sz → ¬ F' b o)
    {xs ys : List A} {vs : List Value} (hr : RepL P w (Ft F0 μ H) μ xs vs) (h : resL P H xs = some ys) : RepL P w F' [] ys vs := by
  have key : ∀ (xs ys : List A) (vs : List Value), RepL P w (Ft F0 μ H) μ xs vs → xs.mapM (resA P H 4) = some ys → RepL P w F' [] ys vs := by
    intro xs
    induction xs with
    | nil => intro ys vs hr h; simp at h; subst h; cases vs with | nil => trivial | cons v vs => exact hr.elim
    | cons x xs ih =>
      intro ys vs hr h
      cases vs with
      | nil => exact hr.elim
      | cons v vs =>
        simp only [List.mapM_cons, Option.bind_eq_bind, Option.pure_def] at h
        obtain ⟨b, hb, h⟩ := Option.bind_eq_some_iff.1 h
        obtain ⟨bs, hbs, h⟩ := Option.bind_eq_some_iff.1 h
        cases h
        exact ⟨s_resA hs hF hrow hr.1 hb, ih bs vs hr.2 hbs⟩
  unfold resL at h
  split at h
  · rename_i hn
    cases h
    have key2 : ∀ (xs : List A) (vs : List Value), noidL xs = true → RepL P w (Ft F0 μ H) μ xs vs → RepL P w F' [] xs vs := by
      intro xs
      induction xs with
      | nil => intro vs _ hr; cases vs with | nil => trivial | cons v vs => exact hr.elim
      | cons x xs ih =>
        intro vs hn hr
        simp [noidL] at hn
        cases vs with
        | nil => exact hr.elim
        | cons v vs => exact ⟨(hr.1.noid hn.1).mono (fun b o _ hf => hF b o hf) (List.prefix_refl _), ih vs hn.2 hr.2⟩
    exact key2 xs vs hn hr
  · exact key xs ys vs hr h

/-- Nothing but numbers, truth values and strings. -/
def scal : A → Bool
  | .int .. | .bool _ | .str _ => true
  | .tup cs => cs.all fun c => match c with | .int .. | .bool _ | .str _ => true | _ => false
  | .agg cs => cs.all fun c => match c with | .int .. | .bool _ | .str _ => true | _ => false
  | _ => false

theorem Rep.scal {P : Program} {w : World} {F F' : Fz} {μ μ' : Mu} {a : A} {v : Value} (h : Rep P w F μ a v) (hs : AL.scal a = true) : Rep P w F' μ' a v := by
  have one : ∀ {c : A} {u : Value}, (match c with | .int .. | .bool _ | .str _ => true | _ => false) = true → Rep P w F μ c u → Rep P w F' μ' c u := by
    intro c u hc hr
    cases hr <;> first | exact .int _ _ _ | exact .bool _ _ | exact .str _ _ | (simp at hc)
  cases h <;> first | exact .int _ _ _ | exact .bool _ _ | exact .str _ _ | skip
  all_goals try (simp [AL.scal] at hs; done)
  case agg cs vs hl h1 hh =>
    refine .agg _ cs vs hl h1 fun i c u hc hu => one ?_ (hh i c u hc hu)
    exact List.all_eq_true.1 hs c (List.mem_of_getElem? hc)
  case tup cs vs hl hh =>
    refine .tup _ cs vs hl fun i c u hc hu => one ?_ (hh i c u hc hu)
    exact List.all_eq_true.1 hs c (List.mem_of_getElem? hc)

theorem Adv.mk' {w w' : World} {F F' : Fz} (h : Adv w NoF w' NoF) (hF : ∀ b o, b < w.heap.size → F' b o → F b o) : Adv w F w' F' :=
  ⟨h.os, h.tape, h.output, h.size, fun b o u hc _ => h.cell b o u hc id, hF, h.shape, fun b hb _ => h.block b hb fun _ => id⟩

/-- A call by a contract, where nothing is frozen: the arguments hold no rows. -/
theorem xcall_noid {P : Program} {f : FuncId} {args : List A} {H : List Row} {R : A → Prop} {K : A → List Row → Prop} (h : FCall P f args R) (hn : noidL args = true) (hK : ∀ r, R r → K r H) : XCall P f args H K := by
  refine ⟨h.1, fun w F0 μ vs hs hl => ?_⟩
  have hl' : RepL P w (Ft F0 μ H) [] args vs := by
    have key : ∀ (xs : List A) (vs : List Value), noidL xs = true → RepL P w (Ft F0 μ H) μ xs vs → RepL P w (Ft F0 μ H) [] xs vs := by
      intro xs
      induction xs with
      | nil => intro vs _ hr; cases vs with | nil => trivial | cons v vs => exact hr.elim
      | cons x xs ih =>
        intro vs hn hr
        simp [noidL] at hn
        cases vs with
        | nil => exact hr.elim
        | cons v vs => exact ⟨hr.1.noid hn.1, ih vs hn.2 hr.2⟩
    exact key args vs hn hl
  refine (h.2 w (Ft F0 μ H) vs (fun b o hf => hs.lt hf) hl').mono ?_
  rintro e w' ⟨v, r, rfl, h1, h2, h3⟩
  exact ⟨v, r, H, rfl, hK r h1, μ, hs.ofNo h3, h3.ofNo _, List.prefix_refl _, h2.mono (fun _ _ _ h => h) List.nil_prefix⟩

/-- A call by a contract: the rows that the arguments hold are read off; all rows are frozen as far as they go. -/
theorem xcall_frz {P : Program} {f : FuncId} {args args' : List A} {H : List Row} {R : A → Prop} {K : A → List Row → Prop} (h : FCall P f args' R) (hn : resL P H args = some args') (hK : ∀ r, R r → K r (frz H)) : XCall P f args H K := by
  refine ⟨h.1, fun w F0 μ vs hs hl => ?_⟩
  obtain ⟨hs2, hA2⟩ := hs.frz
  have hl' := s_resL (F' := Ft F0 μ (frz H)) hs (fun b o hf => hf.imp id Fof_frz) (by
    intro i r b bs o hr hlv hb ho hf
    rcases hf with hf | ⟨j, r', bs', h1, h2, h3, h4⟩
    · exact hs.sep i r b bs o hr hlv hb hf
    · obtain ⟨r2, h5, rfl⟩ := frz_get h1
      have hij := hs.inj i j r r2 b bs bs' hr hlv h5 h2 hb h3
      subst hij
      rw [hr] at h5; cases h5
      rw [hb] at h3; cases h3
      have := Nat.mul_le_mul_right r.sz (Nat.le_max_right r.f r.es.length)
      simp only at h4
      omega) hl hn
  refine (h.2 w (Ft F0 μ (frz H)) vs (fun b o hf => hs2.lt hf) hl').mono ?_
  rintro e w' ⟨v, r, rfl, h1, h2, h3⟩
  exact ⟨v, r, frz H, rfl, hK r h1, μ, hs2.ofNo h3, hA2.trans (h3.ofNo _), List.prefix_refl _, h2.mono (fun _ _ _ h => h) List.nil_prefix⟩

/-- A call by a contract whose result holds no address: nothing is frozen. -/
theorem xcall_scal {P : Program} {f : FuncId} {args args' : List A} {H : List Row} {R : A → Prop} {K : A → List Row → Prop} (h : FCall P f args' R) (hn : resL P H args = some args') (hK : ∀ r, R r → scal r = true ∧ K r H) : XCall P f args H K := by
  refine ⟨h.1, fun w F0 μ vs hs hl => ?_⟩
  have hl' := s_resL (F' := NoF) hs (fun _ _ hf => hf.elim) (fun _ _ _ _ _ _ _ _ _ hf => hf) hl hn
  refine (h.2 w NoF vs (fun b o hf => hf.elim) hl').mono ?_
  rintro e w' ⟨v, r, rfl, h1, h2, h3⟩
  obtain ⟨hsc, hk⟩ := hK r h1
  exact ⟨v, r, H, rfl, hk, μ, hs.ofNo h3, h3.ofNo _, List.prefix_refl _, h2.scal hsc⟩

theorem RepL.wk {P : Program} {w : World} {F : Fz} {μ : Mu} : ∀ {xs : List A} {vs : List Value}, RepL P w F μ xs vs → RepL P w F μ (wkL xs) vs
  | [], [], _ => trivial
  | _ :: _, _ :: _, h => ⟨h.1.wk, h.2.wk⟩
  | [], _ :: _, h => h.elim
  | _ :: _, [], h => h.elim

theorem FCall.wk {P : Program} {f : FuncId} {args : List A} {R : A → Prop} (h : FCall P f (wkL args) R) : FCall P f args R :=
  ⟨h.1, fun w F0 vs hb hl => h.2 w F0 vs hb hl.wk⟩

/-- What is handed over at a call: rows read off, and less said of the room behind. -/
def argsK (P : Program) (H : List Row) (args : List A) : Option (List A) := (resL P H args).map wkL

/-- A call by a contract that names the result. -/
theorem xcall_fn {P : Program} {f : FuncId} {args args' : List A} {H : List Row} {r : A} {K : A → List Row → Prop} (h : FCall P f args' (fun x => x = r)) (hn : argsK P H args = some args') (hK : K r (if noidL args || scal r then H else frz H)) : XCall P f args H K := by
  obtain ⟨ys, h1, h2⟩ := Option.map_eq_some_iff.1 hn
  subst h2
  by_cases hs : scal r = true
  · refine xcall_scal h.wk h1 ?_
    rintro _ rfl
    exact ⟨hs, by simpa [hs] using hK⟩
  · by_cases hna : noidL args = true
    · have : ys = args := by simp [resL, hna] at h1; exact h1.symm
      subst this
      refine xcall_noid h.wk hna ?_
      rintro _ rfl
      simpa [hna] using hK
    · refine xcall_frz h.wk h1 ?_
      rintro _ rfl
      simpa [hs, hna] using hK

/-- The same, where the result is told by a property. -/
theorem xcall_fr {P : Program} {f : FuncId} {args args' : List A} {H : List Row} {R : A → Prop} {K : A → List Row → Prop} (h : FCall P f args' R) (hn : argsK P H args = some args') (hK : ∀ r, R r → K r (if noidL args then H else frz H)) : XCall P f args H K := by
  obtain ⟨ys, h1, h2⟩ := Option.map_eq_some_iff.1 hn
  subst h2
  by_cases hna : noidL args = true
  · have : ys = args := by simp [resL, hna] at h1; exact h1.symm
    subst this
    refine xcall_noid h.wk hna ?_
    intro r hr
    simpa [hna] using hK r hr
  · refine xcall_frz h.wk h1 ?_
    intro r hr
    simpa [hna] using hK r hr

/-! The code as one condition. -/
def obind {α : Type} (x : Option α) (K : α → Prop) : Prop :=
  match x with
  | some y => K y
  | none => False

def finK (dst : Option Tmp) (K : S → Prop) (t : List A) (y : A × List Row) : Prop := K ⟨put t dst y.1, y.2⟩
def aftK (dst : Option Tmp) (K : S → Prop) (t : List A) (r : A) (H : List Row) : Prop := K ⟨put t dst r, H⟩

def callK (P : Program) (f : A) (args : List A) (dst : Option Tmp) (K : S → Prop) (s : S) : Prop :=
  match f with
  | .fn fid caps => XCall P fid (args ++ caps) s.h (aftK dst K s.t)
  | _ => False

def stepK (P : Program) (o : Oper) (K : S → Prop) (s : S) : Prop :=
  match o.op with
  | .call c => match c.callee with
    | .value f => callK P (ev s.t f) (c.args.toList.map (ev s.t)) o.dst K s
    | _ => obind (aop P s.h (ev s.t) o.op) (finK o.dst K s.t)
  | _ => obind (aop P s.h (ev s.t) o.op) (finK o.dst K s.t)

theorem rep_undef {P : Program} {w : World} {F : Fz} {μ : Mu} : Rep P w F μ (.tup []) undef := .tup _ [] [] rfl (by simp)

def gval (ops : Array Oper) (t : List A) (j : Nat) : A :=
  match (ops[j]?).bind (·.dst) with
  | some d => t.getD d .any
  | none => .any

def guardK (g : A) (want : Bool) (p q : Prop) : Prop :=
  match g with
  | .bool b => (b = want → p) ∧ (b = !want → q)
  | .tup [] => q
  | _ => False

def vcOps (P : Program) (ops : Array Oper) (Q : AX → S → Prop) : List Oper → S → Prop
  | [], s => Q .normal s
  | o :: rest, s =>
    match o.guard with
    | none => stepK P o (vcOps P ops Q rest) s
    | some (j, want) => guardK (gval ops s.t j) want (stepK P o (vcOps P ops Q rest) s) (vcOps P ops Q rest ⟨put s.t o.dst (.tup []), s.h⟩)

/-! Regions whose order is drawn: where nothing is written, the text's order serves for all. -/
def pureOp : Op → Bool
  | .move _ | .assign _ | .pick .. | .binOp .. | .unOp .. | .convert .. | .indexAddr .. | .index .. | .load .. | .fieldAddr .. | .field .. | .extract .. | .slice .. | .nilCheck _ | .build .. | .makeFunc .. | .lookup .. => true
  | .call c => match c.callee with
    | .builtin b => (match b with | .len | .max | .min => true | _ => false)
    | .value _ => true
    | _ => false
  | _ => false

def pureB : List Oper → Bool
  | [] => true
  | o :: rest => pureOp o.op && pureB rest

/-- A contract that names the very value: the same in every later world; no new memory in it. -/
def ECall (P : Program) (f : FuncId) (args : List A) (r : A) : Prop :=
  callable P f = true ∧ ∀ w F0 vs, (∀ b o, F0 b o → b < w.heap.size) → RepL P w F0 [] args vs →
    ∃ v, Rep P w F0 [] r v ∧ ∀ w', Adv w NoF w' NoF → Calls P f ⟨vs⟩ w' fun e w'' => e = .returned v ∧ Adv w' NoF w'' NoF

def callQ (P : Program) (f : A) (args : List A) (dst : Option Tmp) (K : S → Prop) (s : S) : Prop :=
  match f with
  | .fn fid caps => noidL (args ++ caps) = true ∧ ∃ r, ECall P fid (args ++ caps) r ∧ K ⟨put s.t dst r, s.h⟩
  | _ => False

def stepQ (P : Program) (o : Oper) (K : S → Prop) (s : S) : Prop :=
  match o.op with
  | .call c => match c.callee with
    | .value f => callQ P (ev s.t f) (c.args.toList.map (ev s.t)) o.dst K s
    | _ => obind (aop P s.h (ev s.t) o.op) (finK o.dst K s.t)
  | _ => obind (aop P s.h (ev s.t) o.op) (finK o.dst K s.t)

def vcQ (P : Program) (ops : Array Oper) (Q : S → Prop) : List Oper → S → Prop
  | [], s => Q s
  | o :: rest, s =>
    match o.guard with
    | none => stepQ P o (vcQ P ops Q rest) s
    | some (j, want) => guardK (gval ops s.t j) want (stepQ P o (vcQ P ops Q rest) s) (vcQ P ops Q rest ⟨put s.t o.dst (.tup []), s.h⟩)

/-- Every region that draws its order, and writes nothing, may be walked in the text's order. -/
def allLex : Code → Bool
  | .region _ ops true => !pureB ops.toList || Region.lexB .any ops
  | .seq x y => allLex x && allLex y
  | .cond _ x y => allLex x && allLex y
  | .block _ c => allLex c
  | .loop c => allLex c
  | _ => true

/-- A loop, or a region that draws its order and writes: left as it is. -/
def vc (P : Program) (X : Ctx) : Code → (AX → S → Prop) → S → Prop
  | .skip, Q, s => Q .normal s
  | .region _ ops false, Q, s => vcOps P ops Q ops.toList s
  | .region id ops true, Q, s => if pureB ops.toList = true then vcQ P ops (Q .normal) ops.toList s else awp P X (.region id ops true) Q s
  | .seq x y, Q, s => vc P X x (thenK (vc P X y Q) Q) s
  | .cond c x y, Q, s => condK (ev s.t c) (vc P X x Q s) (vc P X y Q s)
  | .block id c, Q, s => vc P X c (blockK id Q) s
  | .exit id, Q, s => Q (.exit id) s
  | .ret, Q, s => Q .ret s
  | c, Q, s => awp P X c Q s

theorem gval_und {P : Program} {X : Ctx} {s : S} {a : Act} {w : World} {μ : Mu} {ops : Array Oper} {j : Nat} (hS : Sim P X s a w μ) (hb : gval ops s.t j = .tup []) : yielded ops a.tmps j = none := by
  unfold gval at hb
  unfold yielded
  cases hd : (ops[j]?).bind (·.dst) with
  | none => rfl
  | some d =>
    rw [hd] at hb
    simp only [List.getD] at hb
    cases hx : s.t[d]? with
    | none => rw [hx] at hb; cases hb
    | some x =>
      rw [hx] at hb
      simp at hb
      subst hb
      have hr := hS.rep d _ hx
      have hlt : d < a.tmps.size := by rw [hS.len]; exact (List.getElem?_eq_some_iff.1 hx).1
      have e : a.tmps.getD d undef = a.tmps[d] := by simp [Array.getD, hlt]
      rw [e] at hr
      simp only [Option.bind_some, Array.getElem?_eq_getElem hlt]
      generalize a.tmps[d] = v at hr
      cases hr with | tup _ _ vs hl _ => rfl

def alist (P : Program) (X : Ctx) (ops : Array Oper) (Q : AX → S → Prop) (l : List Oper) (s : S) : Prop :=
  ∀ a w μ, Sim P X s a w μ → wpList P ops (lift P X Q) l a w

theorem sim_step {P : Program} {X : Ctx} {s : S} {a : Act} {w : World} {μ : Mu} (h : Sim P X s a w μ) {d : Option Tmp} {v : Value} {w' : World} {r : A} {H' : List Row} (hr : Res P w X.F0 μ s.h v w' r H') :
    ∃ μ', Sim P X ⟨put s.t d r, H'⟩ (a.put d v) w' μ' := by
  obtain ⟨μ', h1, h2, h3, h4⟩ := hr
  exact ⟨μ', h.put d h1 h2 h3 h4⟩

theorem alist_step {P : Program} {X : Ctx} {ops : Array Oper} {Q : AX → S → Prop} {rest : List Oper} {o : Oper} {K : S → Prop} {s : S} (hK : ∀ s, K s → alist P X ops Q rest s) {a : Act} {w : World} {μ : Mu} (hS : Sim P X s a w μ) (hw : Region.wanted o (yielded ops a.tmps) = true)
    (h : stepK P o K s) : wpList P ops (lift P X Q) (o :: rest) a w := by
  unfold wpList
  rw [if_pos hw]
  refine .inl ?_
  have plain : obind (aop P s.h (ev s.t) o.op) (finK o.dst K s.t) → o.wp P a w (wpList P ops (lift P X Q) rest) (lift P X Q) := by
    intro h
    cases hop : aop P s.h (ev s.t) o.op with
    | none => rw [hop] at h; exact h.elim
    | some y =>
      obtain ⟨r, H'⟩ := y
      rw [hop] at h
      obtain ⟨nx, v, w', h1, h2, h3⟩ := s_aop (a := a) o hS.hs (hS.eval) hop
      obtain ⟨μ', h4⟩ := sim_step (d := o.dst) hS h3
      unfold Oper.wp
      rw [h1]
      rcases h2 with rfl | ⟨rfl, rfl⟩
      · exact hK _ h _ _ μ' h4
      · exact hK _ h _ _ μ' h4
  unfold stepK at h
  split at h
  · rename_i c hc
    split at h
    · rename_i f hf
      unfold callK at h
      split at h
      · rename_i fid caps hfn
        obtain ⟨hcb, h⟩ := h
        have hrf := hS.eval f
        rw [hfn] at hrf
        generalize hva : a.eval f = vf at hrf
        cases hrf with | fn _ _ _ vcaps hl hh =>
        have hargs := repL_map hS.eval c.args.toList
        have hL : RepL P w (Ft X.F0 μ s.h) μ (c.args.toList.map (ev s.t) ++ caps) (c.args.toList.map a.eval ++ vcaps) := by
          have app : ∀ (xs : List A) (us : List Value) (ys : List A) (vs : List Value), RepL P w (Ft X.F0 μ s.h) μ xs us → RepL P w (Ft X.F0 μ s.h) μ ys vs → RepL P w (Ft X.F0 μ s.h) μ (xs ++ ys) (us ++ vs) := by
            intro xs
            induction xs with
            | nil => intro us ys vs hx hy; cases us with | nil => exact hy | cons u us => exact hx.elim
            | cons x xs ih => intro us ys vs hx hy; cases us with | nil => exact hx.elim | cons u us => exact ⟨hx.1, ih us ys vs hx.2 hy⟩
          refine app _ _ _ _ hargs ?_
          have ofget : ∀ (ys : List A) (vs : List Value), vs.length = ys.length → (∀ (i : Nat) (c : A) (u : Value), ys[i]? = some c → vs[i]? = some u → Rep P w (Ft X.F0 μ s.h) μ c u) → RepL P w (Ft X.F0 μ s.h) μ ys vs := by
            intro ys
            induction ys with
            | nil => intro vs hl _; cases vs with | nil => trivial | cons v vs => simp at hl
            | cons y ys ih =>
              intro vs hl hh
              cases vs with
              | nil => simp at hl
              | cons v vs => exact ⟨hh 0 y v rfl rfl, ih vs (by simpa using hl) fun i c u hc hu => hh (i + 1) c u (by simpa using hc) (by simpa using hu)⟩
          exact ofget caps vcaps hl hh
        have hcall := h w X.F0 μ _ hS.hs hL
        unfold callable at hcb
        split at hcb
        · rename_i fn hfun
          simp at hcb
          have hrun : (execOp a.eval o).run P w = .ok (.enter fid ⟨c.args.toList.map a.eval ++ vcaps⟩) w := by
            obtain ⟨dst, op, type, pos, aft, g⟩ := o
            simp only at hc
            subst hc
            have hb : fn.body.isNone = false := by cases hbb : fn.body <;> simp_all
            have hnm : (fn.name == "runtime.NumGoroutine") = false := by simpa using hcb.2
            have e1 : (#[] ++ Array.map a.eval c.args ++ (⟨vcaps⟩ : Array Value)) = ⟨c.args.toList.map a.eval ++ vcaps⟩ := by apply Array.ext'; simp
            simp only [execOp, Sem.run_bind, resolve, hf, hva, Deferred.ofValue, Sem.run_pure, Result.andThen, invoke, callFunc, program, Sem.run, hfun, hnm, hb, Bool.false_eq_true, if_false, e1]
          unfold Oper.wp
          rw [hrun]
          refine hcall.mono ?_
          rintro e w' ⟨v, r, H', rfl, hR, hres⟩
          obtain ⟨μ', h4⟩ := sim_step (d := o.dst) hS hres
          exact hK _ hR _ _ μ' h4
        · cases hcb
      · exact h.elim
    · exact plain h
  · exact plain h

theorem vcOps_sound {P : Program} {X : Ctx} {ops : Array Oper} {Q : AX → S → Prop} : ∀ (l : List Oper) (s : S), vcOps P ops Q l s → alist P X ops Q l s
  | [], s, h => fun a w μ hS => ⟨.normal, s, μ, rfl, h, hS⟩
  | o :: rest, s, h => by
    intro a w μ hS
    simp only [vcOps] at h
    split at h
    · rename_i hg
      exact alist_step (fun s h => vcOps_sound rest s h) hS (by simp [Region.wanted, hg]) h
    · rename_i j want hg
      unfold guardK at h
      split at h
      · rename_i b hb
        have hy : yielded ops a.tmps j = some b := by
          unfold gval at hb
          unfold yielded
          cases hd : (ops[j]?).bind (·.dst) with
          | none => rw [hd] at hb; cases hb
          | some d =>
            rw [hd] at hb
            simp only [List.getD] at hb
            cases hx : s.t[d]? with
            | none => rw [hx] at hb; cases hb
            | some x =>
              rw [hx] at hb
              simp at hb
              subst hb
              have hr := (hS.rep d _ hx).bool_inv
              have hlt : d < a.tmps.size := by rw [hS.len]; exact (List.getElem?_eq_some_iff.1 hx).1
              have : a.tmps[d]? = some (.bool b) := by
                rw [Array.getElem?_eq_getElem hlt]
                simpa [Array.getD, hlt] using hr
              simp [this]
        by_cases hw : b = want
        · exact alist_step (fun s h => vcOps_sound rest s h) hS (by simp [Region.wanted, hg, hy, hw]) (h.1 hw)
        · unfold wpList
          rw [if_neg (by simp [Region.wanted, hg, hy, hw])]
          have hb' : b = !want := by cases b <;> cases want <;> simp_all
          refine vcOps_sound rest _ (h.2 hb') _ _ μ ?_
          exact hS.put o.dst hS.hs (Adv.refl _ _) (List.prefix_refl _) rep_undef
      · rename_i hb
        have hy := gval_und hS hb
        unfold wpList
        rw [if_neg (by simp [Region.wanted, hg, hy])]
        exact vcOps_sound rest _ h _ _ μ (hS.put o.dst hS.hs (Adv.refl _ _) (List.prefix_refl _) rep_undef)
      · exact h.elim

theorem gval_yielded {P : Program} {X : Ctx} {s : S} {a : Act} {w : World} {μ : Mu} {ops : Array Oper} {j : Nat} {b : Bool} (hS : Sim P X s a w μ) (hb : gval ops s.t j = .bool b) : yielded ops a.tmps j = some b := by
  unfold gval at hb
  unfold yielded
  cases hd : (ops[j]?).bind (·.dst) with
  | none => rw [hd] at hb; cases hb
  | some d =>
    rw [hd] at hb
    simp only [List.getD] at hb
    cases hx : s.t[d]? with
    | none => rw [hx] at hb; cases hb
    | some x =>
      rw [hx] at hb
      simp at hb
      subst hb
      have hr := (hS.rep d _ hx).bool_inv
      have hlt : d < a.tmps.size := by rw [hS.len]; exact (List.getElem?_eq_some_iff.1 hx).1
      have : a.tmps[d]? = some (.bool b) := by
        rw [Array.getElem?_eq_getElem hlt]
        simpa [Array.getD, hlt] using hr
      simp [this]

/-- An operation that writes nothing yields one value, whatever is made meanwhile. -/
theorem s_pure {P : Program} {w : World} {F0 : Fz} {μ : Mu} {H H' : List Row} {ρ : Operand → A} {a : Act} {r : A} (o : Oper) (hp : pureOp o.op = true) (hs : HS P w F0 μ H) (hev : ∀ x, Rep P w (Ft F0 μ H) μ (ρ x) (a.eval x)) (h : aop P H ρ o.op = some (r, H')) :
    H' = H ∧ ∃ v, (∀ w', Adv w NoF w' NoF → (execOp a.eval o).run P w' = .ok (.value v) w') ∧ Rep P w (Ft F0 μ H) μ r v := by
  obtain ⟨dst, op, type, pos, aft, g⟩ := o
  simp only at h hp
  have of : ∀ {s : Sem Value} {q : A}, (∃ u, (∀ w', Cn w w' → s.run P w' = .ok u w') ∧ Rep P w (Ft F0 μ H) μ q u) → ∃ v, (∀ w', Adv w NoF w' NoF → ((do pure (.value (← s))) : Sem Next).run P w' = .ok (.value v) w') ∧ Rep P w (Ft F0 μ H) μ q v := by
    rintro s q ⟨u, h1, h2⟩
    exact ⟨u, fun w' hw => by simp [h1 w' trivial], h2⟩
  have ofL : ∀ {s : Sem Value} {q : A}, (∃ u, (∀ w', Adv w NoF w' NoF → s.run P w' = .ok u w') ∧ Rep P w (Ft F0 μ H) μ q u) → ∃ v, (∀ w', Adv w NoF w' NoF → ((do pure (.value (← s))) : Sem Next).run P w' = .ok (.value v) w') ∧ Rep P w (Ft F0 μ H) μ q v := by
    rintro s q ⟨u, h1, h2⟩
    exact ⟨u, fun w' hw => by simp [h1 w' hw], h2⟩
  cases op with
  | move x => cases h; exact ⟨rfl, a.eval x, fun _ _ => rfl, hev x⟩
  | assign x => cases h; exact ⟨rfl, a.eval x, fun _ _ => rfl, hev x⟩
  | pick c x y =>
    simp only [aop] at h
    split at h
    · rename_i t hc; cases h
      have hb := hev c
      rw [hc] at hb
      have hb := hb.bool_inv
      refine ⟨rfl, if t then a.eval x else a.eval y, fun _ _ => by simp [execOp, hb, asBool], ?_⟩
      cases t
      · exact hev y
      · exact hev x
    · cases h
  | binOp op t x y u =>
    simp only [aop] at h
    split at h
    · rename_i hn
      obtain ⟨q, hq, h⟩ := Option.map_eq_some_iff.1 h; cases h
      rw [nilOp_some hn]
      exact ⟨rfl, of (s_acmpNil x (.const (.slice none 0 0)) (hev x) hq)⟩
    · obtain ⟨q, hq, h⟩ := Option.map_eq_some_iff.1 h; cases h; exact ⟨rfl, of (s_abin2 x y (hev x) (hev y) hq)⟩
  | unOp op t x => obtain ⟨q, hq, h⟩ := Option.map_eq_some_iff.1 h; cases h; exact ⟨rfl, of (s_aun (hev x) hq)⟩
  | convert s d x => obtain ⟨q, hq, h⟩ := Option.map_eq_some_iff.1 h; cases h; exact ⟨rfl, of (s_aconv (hev x) hq)⟩
  | indexAddr t x i => obtain ⟨q, hq, h⟩ := Option.map_eq_some_iff.1 h; cases h; exact ⟨rfl, of (s_aidx hs (hev x) (hev i) hq)⟩
  | index t x i => obtain ⟨q, hq, h⟩ := Option.map_eq_some_iff.1 h; cases h; exact ⟨rfl, of (s_aindex (hev x) (hev i) hq)⟩
  | load t x => obtain ⟨q, hq, h⟩ := Option.map_eq_some_iff.1 h; cases h; exact ⟨rfl, ofL (s_aload hs (hev x) hq)⟩
  | fieldAddr t x f => obtain ⟨q, hq, h⟩ := Option.map_eq_some_iff.1 h; cases h; exact ⟨rfl, of (s_afieldAddr (hev x) hq)⟩
  | lookup t x k ok => obtain ⟨q, hq, h⟩ := Option.map_eq_some_iff.1 h; cases h; exact ⟨rfl, ofL (s_alookup hs (hev x) (hev k) hq)⟩
  | field t x f => obtain ⟨q, hq, h⟩ := Option.map_eq_some_iff.1 h; cases h; exact ⟨rfl, of (s_afield (hev x) hq)⟩
  | extract x i => obtain ⟨q, hq, h⟩ := Option.map_eq_some_iff.1 h; cases h; exact ⟨rfl, of (s_aextract (hev x) hq)⟩
  | slice t x lo hi mx =>
    simp only [aop] at h
    split at h
    · rename_i hok
      obtain ⟨q, hq, h⟩ := Option.map_eq_some_iff.1 h
      cases h
      refine ⟨rfl, of (s_aslice hs ?_ (hev x) (repO_map hev lo) (repO_map hev hi) (repO_map hev mx) hq)⟩
      exact ownOK_some hok
    · cases h
  | nilCheck x =>
    obtain ⟨q, hq, h⟩ := Option.map_eq_some_iff.1 h
    cases h
    obtain ⟨h1, h2⟩ := s_anilCheck (hev x) hq dst type pos aft g
    subst h2
    exact ⟨rfl, a.eval x, fun w' _ => h1 w', hev x⟩
  | build t parts => obtain ⟨q, hq, h⟩ := Option.map_eq_some_iff.1 h; cases h; exact ⟨rfl, of (s_abuilt (by simpa using repPs_map hev parts.toList) hq)⟩
  | makeFunc fn first caps =>
    cases fn with
    | func f =>
      simp only [aop] at h
      split at h
      · rename_i h0; cases h
        have hf : first = #[] := Array.eq_empty_of_size_eq_zero h0
        subst hf
        have hl := RepL.get (repL_map hev caps.toList)
        refine ⟨rfl, .func (.func f) #[] ⟨caps.toList.map a.eval⟩, fun w' _ => ?_, .fn _ _ _ _ hl.1 hl.2⟩
        simp [execOp, Instr.makeFunc]
        apply Array.ext'; simp
      · cases h
    | _ => cases h
  | call c =>
    simp only [aop] at h
    split at h
    · rename_i b hb
      have hl : RepL P w (Ft F0 μ H) μ (c.args.toList.map ρ) (c.args.map a.eval).toList := by simpa using repL_map hev c.args.toList
      have fin : ∀ v, (∀ w', Adv w NoF w' NoF → (builtin b c.argTypes type (c.args.map fun | .const _ => true | _ => false) (c.args.map a.eval)).run P w' = .ok (.value v) w') → ∀ w', Adv w NoF w' NoF → (execOp a.eval ⟨dst, .call c, type, pos, aft, g⟩).run P w' = .ok (.value v) w' := by
        intro v hv w' hw
        simp only [execOp, Sem.run_bind, resolve, hb, Sem.run_pure, Result.andThen, invoke]
        exact hv w' hw
      simp only [pureOp, hb] at hp
      revert hl fin
      generalize (c.args.map fun | .const _ => true | _ => false) = cs
      generalize c.args.map a.eval = vs
      generalize c.args.toList.map ρ = xs at h
      obtain ⟨vs⟩ := vs
      intro hl fin
      cases b <;> simp at hp
      case len =>
        simp only [abuiltin] at h
        split at h
        · rename_i x
          match vs, hl with
          | [v], hl =>
            obtain ⟨t, ht, h⟩ := Option.bind_eq_some_iff.1 h
            obtain ⟨q, hq, h⟩ := Option.map_eq_some_iff.1 h
            cases h
            obtain ⟨u, h1, h2⟩ := s_alen (ty := type) ht hl.1 hq
            exact ⟨rfl, u, fin u fun w' hw => by simp [builtin, h1 w' trivial], h2⟩
          | _ :: _ :: _, hl => exact hl.2.elim
          | [], hl => exact hl.elim
        · cases h
      case max =>
        simp only [abuiltin] at h
        obtain ⟨q, hq, h⟩ := Option.map_eq_some_iff.1 h
        cases h
        match xs, vs, hl, hq with
        | x :: xs, v :: vs, hl, hq =>
          obtain ⟨u, h1, h2⟩ := s_afold (g := Builtin.max2) (fun _ _ _ _ _ hx hy h => s_amax2 hx hy h) xs vs x _ v hl.1 hl.2 hq
          exact ⟨rfl, u, fin u fun w' hw => by simp [builtin, Builtin.max_, h1 w' trivial], h2⟩
        | [], _, _, hq => cases hq
        | _ :: _, [], hl, _ => exact hl.elim
      case min =>
        simp only [abuiltin] at h
        obtain ⟨q, hq, h⟩ := Option.map_eq_some_iff.1 h
        cases h
        match xs, vs, hl, hq with
        | x :: xs, v :: vs, hl, hq =>
          obtain ⟨u, h1, h2⟩ := s_afold (g := Builtin.min2) (fun _ _ _ _ _ hx hy h => s_amin2 hx hy h) xs vs x _ v hl.1 hl.2 hq
          exact ⟨rfl, u, fin u fun w' hw => by simp [builtin, Builtin.min_, h1 w' trivial], h2⟩
        | [], _, _, hq => cases hq
        | _ :: _, [], hl, _ => exact hl.elim
    · cases h
  | _ => cases hp

/-- Operations that yield their value in whatever world. -/
def constOp : Op → Bool
  | .move _ | .assign _ | .pick .. | .binOp .. | .unOp .. | .convert .. | .indexAddr .. | .index .. | .fieldAddr .. | .field .. | .extract .. | .slice .. | .nilCheck _ | .build .. | .makeFunc .. => true
  | .call c => match c.callee with
    | .builtin b => (match b with | .len | .max | .min => true | _ => false)
    | _ => false
  | _ => false

theorem s_const {P : Program} {w : World} {F0 : Fz} {μ : Mu} {H H' : List Row} {ρ : Operand → A} {a : Act} {r : A} (o : Oper) (hp : constOp o.op = true) (hs : HS P w F0 μ H) (hev : ∀ x, Rep P w (Ft F0 μ H) μ (ρ x) (a.eval x)) (h : aop P H ρ o.op = some (r, H')) :
    H' = H ∧ ∃ v, (∀ w', Cn w w' → (execOp a.eval o).run P w' = .ok (.value v) w') ∧ Rep P w (Ft F0 μ H) μ r v := by
  obtain ⟨dst, op, type, pos, aft, g⟩ := o
  simp only at h hp
  have of : ∀ {s : Sem Value} {q : A}, (∃ u, (∀ w', Cn w w' → s.run P w' = .ok u w') ∧ Rep P w (Ft F0 μ H) μ q u) → ∃ v, (∀ w', Cn w w' → ((do pure (.value (← s))) : Sem Next).run P w' = .ok (.value v) w') ∧ Rep P w (Ft F0 μ H) μ q v := by
    rintro s q ⟨u, h1, h2⟩
    exact ⟨u, fun w' hw => by simp [h1 w' trivial], h2⟩
  cases op with
  | move x => cases h; exact ⟨rfl, a.eval x, fun _ _ => rfl, hev x⟩
  | assign x => cases h; exact ⟨rfl, a.eval x, fun _ _ => rfl, hev x⟩
  | pick c x y =>
    simp only [aop] at h
    split at h
    · rename_i t hc; cases h
      have hb := hev c
      rw [hc] at hb
      have hb := hb.bool_inv
      refine ⟨rfl, if t then a.eval x else a.eval y, fun _ _ => by simp [execOp, hb, asBool], ?_⟩
      cases t
      · exact hev y
      · exact hev x
    · cases h
  | binOp op t x y u =>
    simp only [aop] at h
    split at h
    · rename_i hn
      obtain ⟨q, hq, h⟩ := Option.map_eq_some_iff.1 h; cases h
      rw [nilOp_some hn]
      exact ⟨rfl, of (s_acmpNil x (.const (.slice none 0 0)) (hev x) hq)⟩
    · obtain ⟨q, hq, h⟩ := Option.map_eq_some_iff.1 h; cases h; exact ⟨rfl, of (s_abin2 x y (hev x) (hev y) hq)⟩
  | unOp op t x => obtain ⟨q, hq, h⟩ := Option.map_eq_some_iff.1 h; cases h; exact ⟨rfl, of (s_aun (hev x) hq)⟩
  | convert s d x => obtain ⟨q, hq, h⟩ := Option.map_eq_some_iff.1 h; cases h; exact ⟨rfl, of (s_aconv (hev x) hq)⟩
  | indexAddr t x i => obtain ⟨q, hq, h⟩ := Option.map_eq_some_iff.1 h; cases h; exact ⟨rfl, of (s_aidx hs (hev x) (hev i) hq)⟩
  | index t x i => obtain ⟨q, hq, h⟩ := Option.map_eq_some_iff.1 h; cases h; exact ⟨rfl, of (s_aindex (hev x) (hev i) hq)⟩
  | fieldAddr t x f => obtain ⟨q, hq, h⟩ := Option.map_eq_some_iff.1 h; cases h; exact ⟨rfl, of (s_afieldAddr (hev x) hq)⟩
  | field t x f => obtain ⟨q, hq, h⟩ := Option.map_eq_some_iff.1 h; cases h; exact ⟨rfl, of (s_afield (hev x) hq)⟩
  | extract x i => obtain ⟨q, hq, h⟩ := Option.map_eq_some_iff.1 h; cases h; exact ⟨rfl, of (s_aextract (hev x) hq)⟩
  | slice t x lo hi mx =>
    simp only [aop] at h
    split at h
    · rename_i hok
      obtain ⟨q, hq, h⟩ := Option.map_eq_some_iff.1 h
      cases h
      refine ⟨rfl, of (s_aslice hs ?_ (hev x) (repO_map hev lo) (repO_map hev hi) (repO_map hev mx) hq)⟩
      exact ownOK_some hok
    · cases h
  | nilCheck x =>
    obtain ⟨q, hq, h⟩ := Option.map_eq_some_iff.1 h
    cases h
    obtain ⟨h1, h2⟩ := s_anilCheck (hev x) hq dst type pos aft g
    subst h2
    exact ⟨rfl, a.eval x, fun w' _ => h1 w', hev x⟩
  | build t parts => obtain ⟨q, hq, h⟩ := Option.map_eq_some_iff.1 h; cases h; exact ⟨rfl, of (s_abuilt (by simpa using repPs_map hev parts.toList) hq)⟩
  | makeFunc fn first caps =>
    cases fn with
    | func f =>
      simp only [aop] at h
      split at h
      · rename_i h0; cases h
        have hf : first = #[] := Array.eq_empty_of_size_eq_zero h0
        subst hf
        have hl := RepL.get (repL_map hev caps.toList)
        refine ⟨rfl, .func (.func f) #[] ⟨caps.toList.map a.eval⟩, fun w' _ => ?_, .fn _ _ _ _ hl.1 hl.2⟩
        simp [execOp, Instr.makeFunc]
        apply Array.ext'; simp
      · cases h
    | _ => cases h
  | call c =>
    simp only [aop] at h
    split at h
    · rename_i b hb
      have hl : RepL P w (Ft F0 μ H) μ (c.args.toList.map ρ) (c.args.map a.eval).toList := by simpa using repL_map hev c.args.toList
      have fin : ∀ v, (∀ w', Cn w w' → (builtin b c.argTypes type (c.args.map fun | .const _ => true | _ => false) (c.args.map a.eval)).run P w' = .ok (.value v) w') → ∀ w', Cn w w' → (execOp a.eval ⟨dst, .call c, type, pos, aft, g⟩).run P w' = .ok (.value v) w' := by
        intro v hv w' hw
        simp only [execOp, Sem.run_bind, resolve, hb, Sem.run_pure, Result.andThen, invoke]
        exact hv w' hw
      simp only [constOp, hb] at hp
      revert hl fin
      generalize (c.args.map fun | .const _ => true | _ => false) = cs
      generalize c.args.map a.eval = vs
      generalize c.args.toList.map ρ = xs at h
      obtain ⟨vs⟩ := vs
      intro hl fin
      cases b <;> simp at hp
      case len =>
        simp only [abuiltin] at h
        split at h
        · rename_i x
          match vs, hl with
          | [v], hl =>
            obtain ⟨t, ht, h⟩ := Option.bind_eq_some_iff.1 h
            obtain ⟨q, hq, h⟩ := Option.map_eq_some_iff.1 h
            cases h
            obtain ⟨u, h1, h2⟩ := s_alen (ty := type) ht hl.1 hq
            exact ⟨rfl, u, fin u fun w' hw => by simp [builtin, h1 w' trivial], h2⟩
          | _ :: _ :: _, hl => exact hl.2.elim
          | [], hl => exact hl.elim
        · cases h
      case max =>
        simp only [abuiltin] at h
        obtain ⟨q, hq, h⟩ := Option.map_eq_some_iff.1 h
        cases h
        match xs, vs, hl, hq with
        | x :: xs, v :: vs, hl, hq =>
          obtain ⟨u, h1, h2⟩ := s_afold (g := Builtin.max2) (fun _ _ _ _ _ hx hy h => s_amax2 hx hy h) xs vs x _ v hl.1 hl.2 hq
          exact ⟨rfl, u, fin u fun w' hw => by simp [builtin, Builtin.max_, h1 w' trivial], h2⟩
        | [], _, _, hq => cases hq
        | _ :: _, [], hl, _ => exact hl.elim
      case min =>
        simp only [abuiltin] at h
        obtain ⟨q, hq, h⟩ := Option.map_eq_some_iff.1 h
        cases h
        match xs, vs, hl, hq with
        | x :: xs, v :: vs, hl, hq =>
          obtain ⟨u, h1, h2⟩ := s_afold (g := Builtin.min2) (fun _ _ _ _ _ hx hy h => s_amin2 hx hy h) xs vs x _ v hl.1 hl.2 hq
          exact ⟨rfl, u, fin u fun w' hw => by simp [builtin, Builtin.min_, h1 w' trivial], h2⟩
        | [], _, _, hq => cases hq
        | _ :: _, [], hl, _ => exact hl.elim
    · cases h
  | _ => cases hp

theorem run_enter {P : Program} {fid : FuncId} {a : Act} {f : Operand} {as : Array Operand} {ts : Array TypeId} {vcaps : List Value} (hcb : callable P fid = true) (hva : a.eval f = .func (.func fid) #[] ⟨vcaps⟩) (dst : Option Tmp) (type : TypeId) (pos : String) (aft : Array Edge) (g : Option (Nat × Bool)) (w : World) :
    (execOp a.eval ⟨dst, .call ⟨.value f, as, ts⟩, type, pos, aft, g⟩).run P w = .ok (.enter fid ⟨as.toList.map a.eval ++ vcaps⟩) w := by
  unfold callable at hcb
  split at hcb
  · rename_i fn hfun
    simp at hcb
    have hb : fn.body.isNone = false := by cases hbb : fn.body <;> simp_all
    have hnm : (fn.name == "runtime.NumGoroutine") = false := by simpa using hcb.2
    have e1 : (#[] ++ Array.map a.eval as ++ (⟨vcaps⟩ : Array Value)) = ⟨as.toList.map a.eval ++ vcaps⟩ := by apply Array.ext'; simp
    simp only [execOp, Sem.run_bind, resolve, hva, Deferred.ofValue, Sem.run_pure, Result.andThen, invoke, callFunc, program, Sem.run, hfun, hnm, hb, Bool.false_eq_true, if_false, e1]
  · cases hcb

theorem RepL.app {P : Program} {w : World} {F : Fz} {μ : Mu} : ∀ {xs : List A} {us : List Value} {ys : List A} {vs : List Value}, RepL P w F μ xs us → RepL P w F μ ys vs → RepL P w F μ (xs ++ ys) (us ++ vs)
  | [], [], _, _, _, hy => hy
  | _ :: _, _ :: _, _, _, hx, hy => ⟨hx.1, RepL.app hx.2 hy⟩
  | [], _ :: _, _, _, hx, _ => hx.elim
  | _ :: _, [], _, _, hx, _ => hx.elim

theorem RepL.ofget {P : Program} {w : World} {F : Fz} {μ : Mu} : ∀ {ys : List A} {vs : List Value}, vs.length = ys.length → (∀ (i : Nat) (c : A) (u : Value), ys[i]? = some c → vs[i]? = some u → Rep P w F μ c u) → RepL P w F μ ys vs
  | [], [], _, _ => trivial
  | y :: ys, v :: vs, hl, hh => ⟨hh 0 y v rfl rfl, RepL.ofget (by simpa using hl) fun i c u hc hu => hh (i + 1) c u (by simpa using hc) (by simpa using hu)⟩
  | [], _ :: _, hl, _ => by simp at hl
  | _ :: _, [], hl, _ => by simp at hl

theorem RepL.noid {P : Program} {w : World} {F : Fz} {μ : Mu} : ∀ {xs : List A} {vs : List Value}, noidL xs = true → RepL P w F μ xs vs → RepL P w F [] xs vs
  | [], [], _, _ => trivial
  | _ :: _, _ :: _, hn, hx => by simp [noidL] at hn; exact ⟨hx.1.noid hn.1, RepL.noid hn.2 hx.2⟩
  | [], _ :: _, _, hx => hx.elim
  | _ :: _, [], _, hx => hx.elim

theorem vcQ_sound {P : Program} {X : Ctx} {ops : Array Oper} {Q : S → Prop} {R : Exit → Act → World → Prop} {w : World} {μ : Mu} (hR : ∀ s a w' , Adv w NoF w' NoF → Q s → Sim P X s a w' μ → R .normal a w') :
    ∀ (l : List Oper) (s : S) (a : Act), pureB l = true → vcQ P ops Q l s → Sim P X s a w μ → wpQuiet P ops (fun w' => Adv w NoF w' NoF) (fun a' => ∀ w', Adv w NoF w' NoF → R .normal a' w') l a
  | [], s, a, _, h, hS => fun w' hw => hR s a w' hw h ⟨hS.len, fun i x hx => (hS.rep i x hx).adv (hw.ofNo _) (List.prefix_refl _), hS.hs.ofNo hw, hS.adv.trans (hw.ofNo _), hS.pre, hS.defers⟩
  | o :: rest, s, a, hp, h, hS => by
    simp only [pureB, Bool.and_eq_true] at hp
    have step : stepQ P o (vcQ P ops Q rest) s → o.quiet P a (fun w' => Adv w NoF w' NoF) (wpQuiet P ops (fun w' => Adv w NoF w' NoF) (fun a' => ∀ w', Adv w NoF w' NoF → R .normal a' w') rest) := by
      intro h
      have plain : obind (aop P s.h (ev s.t) o.op) (finK o.dst (vcQ P ops Q rest) s.t) → o.quiet P a (fun w' => Adv w NoF w' NoF) (wpQuiet P ops (fun w' => Adv w NoF w' NoF) (fun a' => ∀ w', Adv w NoF w' NoF → R .normal a' w') rest) := by
        intro h
        cases hop : aop P s.h (ev s.t) o.op with
        | none => rw [hop] at h; exact h.elim
        | some y =>
          obtain ⟨r, H'⟩ := y
          rw [hop] at h
          obtain ⟨rfl, v, h1, h2⟩ := s_pure (a := a) o hp.1 hS.hs hS.eval hop
          refine ⟨v, fun w' hw => ?_, vcQ_sound hR rest _ _ hp.2 h (hS.put o.dst hS.hs (Adv.refl _ _) (List.prefix_refl _) h2)⟩
          unfold Oper.quietAt
          rw [h1 w' hw]
          exact ⟨rfl, rfl⟩
      unfold stepQ at h
      split at h
      · rename_i c hc
        split at h
        · rename_i f hf
          unfold callQ at h
          split at h
          · rename_i fid caps hfn
            obtain ⟨hn, r, ⟨hcb, hE⟩, hK⟩ := h
            have hrf := hS.eval f
            rw [hfn] at hrf
            generalize hva : a.eval f = vf at hrf
            cases hrf with | fn _ _ _ vcaps hl hh =>
            have hL := RepL.noid hn ((repL_map hS.eval c.args.toList).app (RepL.ofget hl hh))
            obtain ⟨v, h1, h2⟩ := hE w (Ft X.F0 μ s.h) _ (fun b o hf => hS.hs.lt hf) hL
            refine ⟨v, fun w' hw => ?_, vcQ_sound hR rest _ _ hp.2 hK (hS.put o.dst hS.hs (Adv.refl _ _) (List.prefix_refl _) (h1.mono (fun _ _ _ h => h) List.nil_prefix))⟩
            obtain ⟨dst, op, type, pos, aft, g⟩ := o
            obtain ⟨callee, as, ts⟩ := c
            simp only at hc hf
            subst hc hf
            unfold Oper.quietAt
            rw [run_enter hcb hva]
            exact ⟨rfl, (h2 w' hw).mono fun e w'' ⟨he, hA⟩ => ⟨he, hw.trans hA⟩⟩
          · exact h.elim
        · exact plain h
      · exact plain h
    simp only [vcQ] at h
    unfold wpQuiet
    split at h
    · rename_i hg
      rw [if_pos (by simp [Region.wanted, hg])]
      exact step h
    · rename_i j want hg
      unfold guardK at h
      split at h
      · rename_i b hb
        have hy := gval_yielded hS hb
        by_cases hw : b = want
        · rw [if_pos (by simp [Region.wanted, hg, hy, hw])]
          exact step (h.1 hw)
        · rw [if_neg (by simp [Region.wanted, hg, hy, hw])]
          have hb' : b = !want := by cases b <;> cases want <;> simp_all
          exact vcQ_sound hR rest _ _ hp.2 (h.2 hb') (hS.put o.dst hS.hs (Adv.refl _ _) (List.prefix_refl _) rep_undef)
      · rename_i hb
        have hy := gval_und hS hb
        rw [if_neg (by simp [Region.wanted, hg, hy])]
        exact vcQ_sound hR rest _ _ hp.2 h (hS.put o.dst hS.hs (Adv.refl _ _) (List.prefix_refl _) rep_undef)
      · exact h.elim

theorem awp_draw {P : Program} {X : Ctx} {id : Nat} {ops : Array Oper} {Q : AX → S → Prop} {s : S} (hm : P.follows .mixedOrders = true) (hB : Region.lexB .any ops = true) (hp : pureB ops.toList = true) (h : vcQ P ops (Q .normal) ops.toList s) : awp P X (.region id ops true) Q s := by
  intro a w μ hS
  refine wp_region_quiet hm hB (C := fun w' => Adv w NoF w' NoF) (Adv.drew NoF) ?_
  exact vcQ_sound (fun s a w' _ hQ hS' => ⟨.normal, s, μ, rfl, hQ, hS'⟩) _ s a hp h hS

/-- Operations that write nothing, then so many in forced order. -/
theorem awp_draw_tail {P : Program} {X : Ctx} {id : Nat} {l : List Oper} {Q : AX → S → Prop} {s : S} (n : Nat) (hm : P.follows .mixedOrders = true) (hB : Region.lexTailB .any l.toArray n = true) (hp : pureB (l.take n) = true) (hc : (l.take n).all (fun o => match o.op with | .call c => (match c.callee with | .value _ => false | _ => true) | _ => true) = true)
    (h : vcQ P l.toArray (vcOps P l.toArray Q (l.drop n)) (l.take n) s) : awp P X (.region id l.toArray true) Q s := by
  intro a w μ hS
  have key : ∀ (l1 : List Oper) (s : S) (a : Act), pureB l1 = true → l1.all (fun o => match o.op with | .call c => (match c.callee with | .value _ => false | _ => true) | _ => true) = true →
      vcQ P l.toArray (vcOps P l.toArray Q (l.drop n)) l1 s → Sim P X s a w.drew μ → wpStill P l.toArray w.drew (fun a' => wpList P l.toArray (lift P X Q) (l.drop n) a' w.drew) l1 a := by
    intro l1
    induction l1 with
    | nil => intro s a _ _ h hS; exact vcOps_sound _ _ h _ _ μ hS
    | cons o rest ih =>
      intro s a hp hc h hS
      simp only [pureB, Bool.and_eq_true] at hp
      simp only [List.all_cons, Bool.and_eq_true] at hc
      have step : stepQ P o (vcQ P l.toArray (vcOps P l.toArray Q (l.drop n)) rest) s → o.still P a w.drew (wpStill P l.toArray w.drew (fun a' => wpList P l.toArray (lift P X Q) (l.drop n) a' w.drew) rest) := by
        intro h
        have h' : obind (aop P s.h (ev s.t) o.op) (finK o.dst (vcQ P l.toArray (vcOps P l.toArray Q (l.drop n)) rest) s.t) := by
          unfold stepQ at h
          split at h
          · rename_i c hcc
            split at h
            · rename_i f hf
              have := hc.1
              simp [hcc, hf] at this
            · exact h
          · exact h
        cases hop : aop P s.h (ev s.t) o.op with
        | none => rw [hop] at h'; exact h'.elim
        | some y =>
          obtain ⟨r, H'⟩ := y
          rw [hop] at h'
          obtain ⟨rfl, v, h1, h2⟩ := s_pure (a := a) o hp.1 hS.hs hS.eval hop
          unfold Oper.still
          rw [h1 _ (Adv.refl _ _), Oper.stillUpon_value]
          exact ih _ _ hp.2 hc.2 h' (hS.put o.dst hS.hs (Adv.refl _ _) (List.prefix_refl _) h2)
      simp only [vcQ] at h
      unfold wpStill
      split at h
      · rename_i hg
        rw [if_pos (by simp [Region.wanted, hg])]
        exact step h
      · rename_i j want hg
        unfold guardK at h
        split at h
        · rename_i b hb
          have hy := gval_yielded hS hb
          by_cases hw : b = want
          · rw [if_pos (by simp [Region.wanted, hg, hy, hw])]
            exact step (h.1 hw)
          · rw [if_neg (by simp [Region.wanted, hg, hy, hw])]
            have hb' : b = !want := by cases b <;> cases want <;> simp_all
            exact ih _ _ hp.2 hc.2 (h.2 hb') (hS.put o.dst hS.hs (Adv.refl _ _) (List.prefix_refl _) rep_undef)
        · rename_i hb
          have hy := gval_und hS hb
          rw [if_neg (by simp [Region.wanted, hg, hy])]
          exact ih _ _ hp.2 hc.2 h (hS.put o.dst hS.hs (Adv.refl _ _) (List.prefix_refl _) rep_undef)
        · exact h.elim
  refine wp_region_still_tail n hm hB ?_
  refine key _ s a hp hc h ?_
  exact ⟨hS.len, fun i x hx => (hS.rep i x hx).adv ((Adv.drew NoF).ofNo _) (List.prefix_refl _), hS.hs.ofNo (Adv.drew NoF), hS.adv.trans ((Adv.drew NoF).ofNo _), hS.pre, hS.defers⟩

theorem vc_sound {P : Program} {X : Ctx} (hm : P.follows .mixedOrders = true) : ∀ (c : Code) (Q : AX → S → Prop) (s : S), allLex c = true → vc P X c Q s → awp P X c Q s
  | .skip, Q, s, _, h => awp_skip h
  | .region id ops false, Q, s, _, h => fun a w μ hS => wp_region_list (vcOps_sound _ _ h a w μ hS)
  | .region id ops true, Q, s, hl, h => by
    simp only [vc] at h
    split at h
    · rename_i hp
      simp only [allLex, hp, Bool.not_true, Bool.false_or] at hl
      exact awp_draw hm hl hp h
    · exact h
  | .seq x y, Q, s, hl, h => by
    simp only [allLex, Bool.and_eq_true] at hl
    exact awp_seq (awp_mono (vc_sound hm x _ _ hl.1 h) fun e s' h' => by
      cases e with
      | normal => exact vc_sound hm y _ _ hl.2 h'
      | exit id => exact h'
      | ret => exact h')
  | .cond c x y, Q, s, hl, h => by
    simp only [allLex, Bool.and_eq_true] at hl
    exact awp_cond (by
      revert h
      simp only [vc]
      unfold condK
      split
      · exact fun h => ⟨fun hb => vc_sound hm x _ _ hl.1 (h.1 hb), fun hb => vc_sound hm y _ _ hl.2 (h.2 hb)⟩
      · exact fun h => ⟨vc_sound hm x _ _ hl.1 h.1, vc_sound hm y _ _ hl.2 h.2⟩
      · exact id)
  | .block id c, Q, s, hl, h => awp_block (vc_sound hm c _ _ hl h)
  | .exit id, Q, s, _, h => awp_exit h
  | .ret, Q, s, _, h => awp_ret h
  | .loop _, _, _, _, h => h
  | .rangeFunc .., _, _, _, h => h
  | .scope _, _, _, _, h => h
  | .label _, _, _, _, h => h
  | .goto _, _, _, _, h => h
  | .refuse _, _, _, _, h => h

/-- Out of a contract that tells the result, a number say: one value. -/
theorem ecall_of {P : Program} {f : FuncId} {args : List A} {r : A} (h : FCall P f args (fun x => x = r)) (hs : scal r = true) : ECall P f args r := by
  have uniq : ∀ {w w' : World} {F F' : Fz} {μ μ' : Mu} {v v' : Value}, Rep P w F μ r v → Rep P w' F' μ' r v' → v = v' := by
    intro w w' F F' μ μ' v v' h1 h2
    have one : ∀ {c : A} {u u' : Value}, (match c with | .int .. | .bool _ | .str _ => true | _ => false) = true → Rep P w F μ c u → Rep P w' F' μ' c u' → u = u' := by
      intro c u u' hc g1 g2
      cases g1 <;> cases g2 <;> first | rfl | (simp at hc)
    have many : ∀ {cs : List A} {us us' : List Value}, (cs.all fun c => match c with | .int .. | .bool _ | .str _ => true | _ => false) = true → us.length = cs.length → us'.length = cs.length → (∀ (i : Nat) (c : A) (u : Value), cs[i]? = some c → us[i]? = some u → Rep P w F μ c u) → (∀ (i : Nat) (c : A) (u : Value), cs[i]? = some c → us'[i]? = some u → Rep P w' F' μ' c u) → us = us' := by
      intro cs us us' hc l1 l2 g1 g2
      apply List.ext_getElem?
      intro i
      by_cases hi : i < cs.length
      · have e0 : cs[i]? = some cs[i] := List.getElem?_eq_getElem hi
        have e1 : us[i]? = some us[i] := List.getElem?_eq_getElem (by omega)
        have e2 : us'[i]? = some us'[i] := List.getElem?_eq_getElem (by omega)
        rw [e1, e2, one (List.all_eq_true.1 hc _ (List.getElem_mem hi)) (g1 i _ _ e0 e1) (g2 i _ _ e0 e2)]
      · rw [List.getElem?_eq_none (by omega), List.getElem?_eq_none (by omega)]
    cases h1 with
    | int => cases h2; rfl
    | bool => cases h2; rfl
    | str => cases h2; rfl
    | agg _ _ us hl1 _ g1 => cases h2 with | agg _ _ us' hl2 _ g2 => rw [many hs hl1 hl2 g1 g2]
    | tup _ _ us hl1 g1 => cases h2 with | tup _ _ us' hl2 g2 => rw [many hs hl1 hl2 g1 g2]
    | _ => simp [AL.scal] at hs
  have mk : ∀ (w : World) (F : Fz), ∃ v, Rep P w F [] r v := by
    intro w F
    have one : ∀ c : A, (match c with | .int .. | .bool _ | .str _ => true | _ => false) = true → ∃ u, Rep P w F [] c u ∧ u.oneCell' = true := by
      intro c hc
      cases c <;> first | exact ⟨_, .int _ _ _, rfl⟩ | exact ⟨_, .bool _ _, rfl⟩ | exact ⟨_, .str _ _, rfl⟩ | (simp at hc)
    have many : ∀ cs : List A, (cs.all fun c => match c with | .int .. | .bool _ | .str _ => true | _ => false) = true → ∃ us, RepL P w F [] cs us ∧ ∀ u ∈ us, u.oneCell' = true := by
      intro cs
      induction cs with
      | nil => intro _; exact ⟨[], trivial, by simp⟩
      | cons c cs ih =>
        intro hc
        simp only [List.all_cons, Bool.and_eq_true] at hc
        obtain ⟨u, h1, h2⟩ := one c hc.1
        obtain ⟨us, h3, h4⟩ := ih hc.2
        exact ⟨u :: us, ⟨h1, h3⟩, by intro x hx; rcases List.mem_cons.1 hx with rfl | hx; exact h2; exact h4 x hx⟩
    cases r <;> first | exact ⟨_, .int _ _ _⟩ | exact ⟨_, .bool _ _⟩ | exact ⟨_, .str _ _⟩ | (simp [AL.scal] at hs; done) | skip
    · obtain ⟨us, h1, h2⟩ := many _ hs; have := RepL.get h1; exact ⟨_, .agg _ _ us this.1 h2 this.2⟩
    · obtain ⟨us, h1, _⟩ := many _ hs; have := RepL.get h1; exact ⟨_, .tup _ _ us this.1 this.2⟩
  refine ⟨h.1, fun w F0 vs hb hl => ?_⟩
  obtain ⟨v, hv⟩ := mk w F0
  have repL_adv : ∀ {w' : World} {xs : List A} {us : List Value}, Adv w NoF w' NoF → RepL P w F0 [] xs us → RepL P w' F0 [] xs us := by
    intro w' xs
    induction xs with
    | nil => intro us _ h; cases us with | nil => trivial | cons u us => exact h.elim
    | cons x xs ih => intro us hA h; cases us with | nil => exact h.elim | cons u us => exact ⟨h.1.adv (hA.ofNo _) (List.prefix_refl _), ih hA h.2⟩
  refine ⟨v, hv, fun w' hA => (h.2 w' F0 vs (fun b o hf => Nat.lt_of_lt_of_le (hb b o hf) hA.size) (repL_adv hA hl)).mono ?_⟩
  rintro e w'' ⟨v', r', rfl, rfl, h1, h2⟩
  exact ⟨by rw [uniq h1 hv], h2⟩

/-! Results. -/
def ares1 (P : Program) (H : List Row) (t : List A) : ResultVar → Option A
  | .tmp x => some (t.getD x .any)
  | .cell a ty => aload P H ty (t.getD a .any)

def ares (P : Program) (H : List Row) (t : List A) (rs : Array ResultVar) : Option A :=
  match rs.toList with
  | [x] => ares1 P H t x
  | l => (l.mapM (ares1 P H t)).map .tup

def resSem (tmps : Array Value) : ResultVar → Sem Value
  | .tmp t => pure (tmps.getD t undef)
  | .cell b t => do loadVar t (← asAddr (tmps.getD b undef))

theorem results_eq (fn : Func) (tmps : Array Value) : results fn tmps = (do let vs ← fn.results.mapM (resSem tmps); pure (if h : vs.size = 1 then vs[0] else .tuple vs)) := by
  unfold results
  congr 1

theorem s_ares {P : Program} {X : Ctx} {s : S} {a : Act} {w : World} {μ : Mu} (hS : Sim P X s a w μ) {fn : Func} {r : A} (h : ares P s.h s.t fn.results = some r) :
    ∃ v, (results fn a.tmps).run P w = .ok v w ∧ Rep P w (Ft X.F0 μ s.h) μ r v := by
  have one : ∀ (x : ResultVar) (r : A), ares1 P s.h s.t x = some r → ∃ v, (resSem a.tmps x).run P w = .ok v w ∧ Rep P w (Ft X.F0 μ s.h) μ r v := by
    intro x r hx
    cases x with
    | tmp t => cases hx; exact ⟨_, rfl, hS.eval (.tmp t)⟩
    | cell b t =>
      obtain ⟨u, h1, h2⟩ := s_aload hS.hs (hS.eval (.tmp b)) hx
      refine ⟨u, ?_, h2⟩
      have e : a.eval (.tmp b) = a.tmps.getD b undef := rfl
      have h1 := h1 w (Adv.refl _ _)
      rw [e] at h1
      simp only [resSem]
      generalize a.tmps.getD b undef = vb at h1
      cases vb with
      | pointer p =>
        cases p with
        | some p => simpa [Instr.loadAt, Instr.sureAddr, asAddr] using h1
        | none => simp [Instr.loadAt, Instr.sureAddr, stuck, Sem.run, Result.andThen] at h1
      | _ => simp [Instr.loadAt, Instr.sureAddr, stuck, Sem.run, Result.andThen] at h1
  have all : ∀ (l : List ResultVar) (rs : List A), l.mapM (ares1 P s.h s.t) = some rs → ∃ vs : List Value, (l.mapM (resSem a.tmps)).run P w = .ok vs w ∧ RepL P w (Ft X.F0 μ s.h) μ rs vs := by
    intro l
    induction l with
    | nil => intro rs h; simp at h; subst h; exact ⟨[], by simp, trivial⟩
    | cons x l ih =>
      intro rs h
      simp only [List.mapM_cons, Option.bind_eq_bind, Option.pure_def] at h
      obtain ⟨b, hb, h⟩ := Option.bind_eq_some_iff.1 h
      obtain ⟨bs, hbs, h⟩ := Option.bind_eq_some_iff.1 h
      cases h
      obtain ⟨v, h1, h2⟩ := one x b hb
      obtain ⟨vs, h3, h4⟩ := ih bs hbs
      refine ⟨v :: vs, ?_, h2, h4⟩
      rw [List.mapM_cons, Sem.run_bind, h1]
      simp only [Result.andThen]
      rw [Sem.run_bind, h3]
      rfl
  have hmap : ∀ vs : List Value, (fn.results.toList.mapM (resSem a.tmps)).run P w = .ok vs w →
      (results fn a.tmps).run P w = .ok (if h : vs.toArray.size = 1 then vs.toArray[0] else .tuple vs.toArray) w := by
    intro vs h
    rw [results_eq, Sem.run_bind, Array.mapM_eq_mapM_toList]
    rw [map_eq_pure_bind, Sem.run_bind, h]
    rfl
  unfold ares at h
  split at h
  · rename_i x hx
    obtain ⟨v, h1, h2⟩ := one x r h
    refine ⟨v, ?_, h2⟩
    have := hmap [v] (by rw [hx, List.mapM_cons, Sem.run_bind, h1]; rfl)
    simpa using this
  · rename_i l hl
    obtain ⟨rs, hrs, h⟩ := Option.map_eq_some_iff.1 h
    subst h
    obtain ⟨vs, h1, h2⟩ := all _ rs hrs
    have hg := RepL.get h2
    have hlen : vs.length ≠ 1 := by
      rw [hg.1, (mapM_get hrs).1]
      intro h1
      match hfl : fn.results.toList, h1 with
      | [x], _ => exact hl x hfl
    have := hmap vs h1
    refine ⟨.tuple ⟨vs⟩, ?_, .tup _ rs vs hg.1 hg.2⟩
    rw [this]
    simp [hlen]

def retX (P : Program) (rs : Array ResultVar) (R : A → List Row → Prop) : AX → S → Prop
  | .exit _, _ => False
  | _, s => obind (ares P s.h s.t rs) fun r => R r s.h

def retF (P : Program) (rs : Array ResultVar) (R : A → Prop) : AX → S → Prop
  | .exit _, _ => False
  | _, s => obind (ares P s.h s.t rs) fun r => obind (resA P s.h 4 r) fun r => R (wkA r)

theorem sim_start {P : Program} {w : World} {F0 : Fz} {μ : Mu} {H : List Row} (hs : HS P w F0 μ H) {args : List A} {vs : List Value} (hl : RepL P w (Ft F0 μ H) μ args vs) (n : Nat) :
    Sim P ⟨w, μ, Fof μ H, F0⟩ ⟨args ++ List.replicate (n - args.length) .any, H⟩ { tmps := (⟨vs⟩ : Array Value) ++ Array.replicate (n - (⟨vs⟩ : Array Value).size) undef, defers := [] } w μ where
  len := by have := (RepL.get hl).1; simp [this]
  rep := by
    obtain ⟨h1, h2⟩ := RepL.get hl
    intro i x hx
    by_cases hi : i < args.length
    · rw [List.getElem?_append_left hi] at hx
      have hv : vs[i]? = some vs[i] := List.getElem?_eq_getElem (by omega)
      have hlt : i < vs.length := by omega
      have e : ((⟨vs⟩ : Array Value) ++ Array.replicate (n - (⟨vs⟩ : Array Value).size) undef).getD i undef = vs[i] := by
        simp [Array.getD_eq_getD_getElem?, Array.getElem?_append, hlt]
      simp only
      rw [e]
      exact h2 i x _ hx hv
    · rw [List.getElem?_append_right (by omega)] at hx
      rw [List.getElem?_replicate] at hx
      split at hx
      · cases hx; exact .any _ _
      · cases hx
  hs := hs
  adv := Adv.refl _ _
  pre := List.prefix_refl _
  defers := rfl

/-- A contract out of a condition on the body. -/
theorem xcall_of {P : Program} {f : FuncId} {fn : Func} {c : Code} {args : List A} {H : List Row} {R : A → List Row → Prop} (hf : P.funcs[f]? = some fn) (hb : fn.body = some c) (hn : (fn.name == "runtime.NumGoroutine") = false) (hm : P.follows .mixedOrders = true) (hlx : allLex c = true)
    (h : ∀ X : Ctx, X.μ.length ≤ H.length → vc P X c (retX P fn.results R) ⟨args ++ List.replicate (fn.ntmps - args.length) .any, H⟩) : XCall P f args H R := by
  refine ⟨by simp [callable, hf, hb, hn], fun w F0 μ vs hs hl => ?_⟩
  refine calls_of_wp hf hb (Code.wp_mono ?_ (vc_sound hm c _ _ hlx (h ⟨w, μ, Fof μ H, F0⟩ (by simp [hs.len])) _ _ μ (sim_start hs hl fn.ntmps)))
  rintro e a' w' ⟨x, s', μ', rfl, hQ, hS⟩
  have fin : obind (ares P s'.h s'.t fn.results) (fun r => R r s'.h) → a'.defers = [] ∧ ∃ v, (results fn a'.tmps).run P w' = .ok v w' ∧ ∃ v' r H', Ending.returned v = .returned v' ∧ R r H' ∧ Res P w F0 μ H v' w' r H' := by
    intro hQ
    refine ⟨hS.defers, ?_⟩
    cases hr : ares P s'.h s'.t fn.results with
    | none => rw [hr] at hQ; exact hQ.elim
    | some r =>
      rw [hr] at hQ
      obtain ⟨v, h1, h2⟩ := s_ares hS hr
      exact ⟨v, h1, v, r, s'.h, rfl, hQ, μ', hS.hs, hS.adv, hS.pre, h2⟩
  cases x with
  | normal => exact fin hQ
  | ret => exact fin hQ
  | exit id => exact hQ.elim

/-- The same, nothing handed over: what comes back is read off the rows. -/
theorem fcall_of {P : Program} {f : FuncId} {fn : Func} {c : Code} {args : List A} {R : A → Prop} (hf : P.funcs[f]? = some fn) (hb : fn.body = some c) (hn : (fn.name == "runtime.NumGoroutine") = false) (hm : P.follows .mixedOrders = true) (hlx : allLex c = true)
    (h : ∀ X : Ctx, X.μ.length ≤ 0 → vc P X c (retF P fn.results R) ⟨args ++ List.replicate (fn.ntmps - args.length) .any, []⟩) : FCall P f args R := by
  have hx : XCall P f args [] (fun r H => obind (resA P H 4 r) fun r => R (wkA r)) := by
    refine xcall_of hf hb hn hm hlx fun X hX => ?_
    have : retX P fn.results (fun r H => obind (resA P H 4 r) fun r => R (wkA r)) = retF P fn.results R := by
      funext x s
      cases x <;> rfl
    rw [this]
    exact h X hX
  refine ⟨hx.1, fun w F0 vs hbd hl => ?_⟩
  have hnil : ∀ b o, ¬ Fof ([] : Mu) [] b o := by rintro b o ⟨i, r, bs, h1, _⟩; simp at h1
  refine (hx.2 w F0 [] vs (HS.nil hbd) ?_).mono ?_
  · have e : Ft F0 [] [] = F0 := by funext b o; exact propext ⟨fun h => h.elim id fun h => (hnil b o h).elim, .inl⟩
    rw [e]; exact hl
  · rintro e w' ⟨v, r, H', rfl, hR, μ', h1, h2, h3, h4⟩
    cases hr : resA P H' 4 r with
    | none => rw [hr] at hR; exact hR.elim
    | some r' =>
      rw [hr] at hR
      refine ⟨v, wkA r', rfl, hR, (s_resA h1 (fun b o hf => .inl hf) (fun i x b bs o hx hl hb _ => h1.sep i x b bs o hx hl hb) h4 hr).wk, ?_⟩
      exact ⟨h2.os, h2.tape, h2.output, h2.size, fun b o u hc _ => h2.cell b o u hc (hnil b o), fun _ _ _ hf => hf.elim, h2.shape, fun b hb _ => h2.block b hb fun o => hnil b o⟩
end Go.AL
