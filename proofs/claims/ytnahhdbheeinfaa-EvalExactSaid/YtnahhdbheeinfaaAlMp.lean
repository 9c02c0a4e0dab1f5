/- An abstract layer over the walk, 9c: maps, whose keys are numbers, texts, or pairs of numbers. No program in sight. -/
import Derived.Test.YtnahhdbheeinfaaAlApp
import Derived.MapKept
namespace Go.AL

/-! Values without live rows in them. -/
mutual
def A.noid : A → Bool
  | .own .. => false
  | .pto .. => false
  | .mp _ => false
  | .agg cs => noidL cs
  | .tup cs => noidL cs
  | .fn _ cs => noidL cs
  | _ => true
def noidL : List A → Bool
  | [] => true
  | x :: xs => x.noid && noidL xs
end

theorem noidL_get : ∀ {xs : List A}, noidL xs = true → ∀ (i : Nat) (x : A), xs[i]? = some x → x.noid = true
  | [], _, i, x, h => by simp at h
  | y :: ys, hn, 0, x, h => by simp at h; subst h; simp [noidL] at hn; exact hn.1
  | y :: ys, hn, i + 1, x, h => by simp at h; simp [noidL] at hn; exact noidL_get hn.2 i x h

theorem Rep.noid {P : Program} {w : World} {F : Fz} {μ : Mu} {a : A} {v : Value} (h : Rep P w F μ a v) (hn : a.noid = true) : Rep P w F [] a v := by
  induction h with
  | int μ k n => exact .int _ k n
  | bool μ b => exact .bool _ b
  | ub μ b => exact .ub _ b
  | str μ l => exact .str _ l
  | slnil μ full a => exact .slnil _ full a
  | sl μ full es b off n cap sz V hl hcap hmax hfull hsz hrep hcell ih => exact .sl _ full es b off n cap sz V hl hcap hmax hfull hsz hrep hcell
  | own => simp [A.noid] at hn
  | ownn => simp [A.noid] at hn
  | ptr μ d b off v hrep hnc hcell ih => exact .ptr _ d b off v hrep hnc hcell
  | pto => simp [A.noid] at hn
  | mp => simp [A.noid] at hn
  | nptr μ => exact .nptr _
  | agg μ cs vs hl h1 h ih => exact .agg _ cs vs hl h1 (fun i c u hc hu => ih i c u hc hu (noidL_get (by simpa [A.noid] using hn) i c hc))
  | tup μ cs vs hl h ih => exact .tup _ cs vs hl (fun i c u hc hu => ih i c u hc hu (noidL_get (by simpa [A.noid] using hn) i c hc))
  | fn μ f cs vs hl h ih => exact .fn _ f cs vs hl (fun i c u hc hu => ih i c u hc hu (noidL_get (by simpa [A.noid] using hn) i c hc))
  | nfn μ => exact .nfn _
  | any μ v => exact .any _ v

/-- A map's row: its entries, pairs of a key and a value. -/
def RMp (es : List A) : Row := ⟨4294967295, 0, es, 0, true⟩

def isIntD (P : Program) (t : TypeId) : Bool := match P.underlying t with | some (.int _) => true | _ => false
/-- What kind of keys? 1: numbers, 3: texts, 2: pairs of numbers. -/
def keyT (P : Program) (t : TypeId) : Nat :=
  match P.underlying t with
  | some (.int _) => 1
  | some .string => 3
  | some (.struct fs) =>
    match fs.toList with
    | [f0, f1] => if (f0.name ≠ "_" ∧ f1.name ≠ "_" ∧ f0.offset = 0 ∧ f1.offset = 1) ∧ (isIntD P f0.type = true ∧ isIntD P f1.type = true ∧ P.cellsOf f0.type = 1 ∧ P.cellsOf f1.type = 1) ∧ eqT P t = some [0, 0] then 2 else 0
    | _ => 0
  | _ => 0

def keq (P : Program) (t : TypeId) (x y : A) : Option Bool :=
  match x, y with
  | .int k a, .int k' b => if keyT P t = 1 ∧ k = k' then some (decide (a = b)) else none
  | .str a, .str b => if keyT P t = 3 then some (decide (a = b)) else none
  | .agg [.int k a, .int l b], .agg [.int k' a', .int l' b'] => if keyT P t = 2 ∧ k = k' ∧ l = l' then some (decide (a = a') && decide (b = b')) else none
  | _, _ => none
/-- Can it be a key? -/
def keyOK (P : Program) (t : TypeId) (x : A) : Bool :=
  match x with
  | .int _ _ => keyT P t == 1
  | .str _ => keyT P t == 3
  | .agg [.int _ _, .int _ _] => keyT P t == 2
  | _ => false

def afind (eq : A → Option Bool) : List A → Option (Option (Nat × A))
  | [] => some none
  | .tup [ka, va] :: es =>
    match eq ka with
    | some true => some (some (0, va))
    | some false => (afind eq es).map (Option.map fun p => (p.1 + 1, p.2))
    | none => none
  | _ => none

section
variable {P : Program} {w : World} {F : Fz}

theorem MEnt.cons {e : A} {es : List A} {m : MapEntry} {ms : List MapEntry} (h : MEnt P w F (e :: es) (m :: ms)) : (∃ ka va, e = .tup [ka, va] ∧ Rep P w F [] ka m.key ∧ Rep P w F [] va m.val) ∧ MEnt P w F es ms :=
  ⟨h.2 0 e m rfl rfl, by simpa using h.1, fun k e' m' he hm => h.2 (k + 1) e' m' (by simpa using he) (by simpa using hm)⟩

/-- What was found, and what stands there. -/
def FR (P : Program) (w : World) (F : Fz) (vk : Value) (r : Option (Nat × A)) (r' : Option (Nat × Value)) (i : Nat) (ms : List MapEntry) : Prop :=
  (r = none ∧ r' = none) ∨ ∃ j va m, r = some (j, va) ∧ r' = some (i + j, m.val) ∧ ms[j]? = some m ∧ m.key = vk ∧ Rep P w F [] va m.val

theorem FR.succ {vk : Value} {r : Option (Nat × A)} {r' : Option (Nat × Value)} {i : Nat} {m : MapEntry} {ms : List MapEntry} (h : FR P w F vk r r' (i + 1) ms) : FR P w F vk (r.map fun p => (p.1 + 1, p.2)) r' i (m :: ms) := by
  rcases h with ⟨rfl, rfl⟩ | ⟨j, va, m', rfl, rfl, h1, h2, h3⟩
  · exact .inl ⟨rfl, rfl⟩
  · exact .inr ⟨j + 1, va, m', rfl, by rw [show i + 1 + j = i + (j + 1) by omega], by simpa using h1, h2, h3⟩

theorem findNow_of {d : TypeDesc} {kt : TypeId} {k : A} {vk : Value} (step : ∀ ka vka b, Rep P w F [] ka vka → keq P kt k ka = some b → Instr.sameNow d vk vka = some b ∧ (b = true → vka = vk)) :
    ∀ (es : List A) (ms : List MapEntry) (i : Nat) (r : Option (Nat × A)), MEnt P w F es ms → afind (keq P kt k) es = some r → ∃ r', Instr.findNow d vk ms i = some r' ∧ FR P w F vk r r' i ms
  | [], [], i, r, _, h => by simp [afind] at h; subst h; exact ⟨none, rfl, .inl ⟨rfl, rfl⟩⟩
  | [], _ :: _, _, _, hm, _ => by have := hm.1; simp at this
  | _ :: _, [], _, _, hm, _ => by have := hm.1; simp at this
  | e :: es, m :: ms, i, r, hm, h => by
    obtain ⟨⟨ka, va, rfl, h1, h2⟩, h3⟩ := hm.cons
    simp only [afind] at h
    split at h
    · rename_i hq
      cases h
      obtain ⟨s1, s2⟩ := step ka m.key true h1 hq
      exact ⟨some (i, m.val), by simp [Instr.findNow, s1], .inr ⟨0, va, m, rfl, rfl, rfl, s2 rfl, h2⟩⟩
    · rename_i hq
      obtain ⟨r0, hr0, rfl⟩ := Option.map_eq_some_iff.1 h
      obtain ⟨s1, _⟩ := step ka m.key false h1 hq
      obtain ⟨r', hr', hf⟩ := findNow_of step es ms (i + 1) r0 h3 hr0
      exact ⟨r', by simp [Instr.findNow, s1, hr'], hf.succ⟩
    · cases h

theorem findAsking_of {kt : TypeId} {k : A} {vk : Value} (step : ∀ ka vka b, Rep P w F [] ka vka → keq P kt k ka = some b → (Op.equal kt vk vka).run P w = .ok b w ∧ (b = true → vka = vk)) :
    ∀ (es : List A) (ms : List MapEntry) (i : Nat) (r : Option (Nat × A)), MEnt P w F es ms → afind (keq P kt k) es = some r → ∃ r', (Instr.findAsking kt vk ms i).run P w = .ok r' w ∧ FR P w F vk r r' i ms
  | [], [], i, r, _, h => by simp [afind] at h; subst h; exact ⟨none, by simp [Instr.findAsking], .inl ⟨rfl, rfl⟩⟩
  | [], _ :: _, _, _, hm, _ => by have := hm.1; simp at this
  | _ :: _, [], _, _, hm, _ => by have := hm.1; simp at this
  | e :: es, m :: ms, i, r, hm, h => by
    obtain ⟨⟨ka, va, rfl, h1, h2⟩, h3⟩ := hm.cons
    simp only [afind] at h
    split at h
    · rename_i hq
      cases h
      obtain ⟨s1, s2⟩ := step ka m.key true h1 hq
      exact ⟨some (i, m.val), by simp [Instr.findAsking, s1], .inr ⟨0, va, m, rfl, rfl, rfl, s2 rfl, h2⟩⟩
    · rename_i hq
      obtain ⟨r0, hr0, rfl⟩ := Option.map_eq_some_iff.1 h
      obtain ⟨s1, _⟩ := step ka m.key false h1 hq
      obtain ⟨r', hr', hf⟩ := findAsking_of step es ms (i + 1) r0 h3 hr0
      exact ⟨r', by simp [Instr.findAsking, s1, hr'], hf.succ⟩
    · cases h

theorem keyT_pair {t : TypeId} (h : keyT P t = 2) : ∃ fs f0 f1, P.underlying t = some (.struct fs) ∧ fs.toList = [f0, f1] ∧ (f0.name ≠ "_" ∧ f1.name ≠ "_" ∧ f0.offset = 0 ∧ f1.offset = 1) ∧ (isIntD P f0.type = true ∧ isIntD P f1.type = true ∧ P.cellsOf f0.type = 1 ∧ P.cellsOf f1.type = 1) ∧ eqT P t = some [0, 0] := by
  unfold keyT at h
  split at h
  · cases h
  · cases h
  · rename_i fs hu
    split at h
    · rename_i f0 f1 hl
      split at h
      · rename_i hc; exact ⟨fs, f0, f1, hu, hl, hc.1, hc.2.1, hc.2.2⟩
      · cases h
    · cases h
  · cases h
theorem keyT_int {t : TypeId} (h : keyT P t = 1) : ∃ k, P.underlying t = some (.int k) := by
  unfold keyT at h
  split at h
  · rename_i k hu; exact ⟨k, hu⟩
  · cases h
  · split at h
    · split at h <;> cases h
    · cases h
  · cases h
theorem keyT_str {t : TypeId} (h : keyT P t = 3) : P.underlying t = some .string := by
  unfold keyT at h
  split at h
  · cases h
  · rename_i hu; exact hu
  · split at h
    · split at h <;> cases h
    · cases h
  · cases h

theorem s_findKey {kt : TypeId} {k : A} {vk : Value} {es : List A} {ms : List MapEntry} {r : Option (Nat × A)} (hok : keyOK P kt k = true) (hk : Rep P w F [] k vk) (hm : MEnt P w F es ms) (h : afind (keq P kt k) es = some r) :
    ∃ r', (Instr.findKey kt vk ms).run P w = .ok r' w ∧ FR P w F vk r r' 0 ms := by
  unfold keyOK at hok
  split at hok
  · rename_i kk a
    have hT : keyT P kt = 1 := by simpa using hok
    obtain ⟨k0, hu⟩ := keyT_int hT
    cases hk
    obtain ⟨r', h1, h2⟩ := findNow_of (d := .int k0) (vk := .int kk a) (fun ka vka b hr hq => by
      unfold keq at hq
      split at hq
      · rename_i heq; cases heq; cases hr
        split at hq
        · rename_i hc
          obtain ⟨_, rfl⟩ := hc
          cases hq
          simp [Instr.sameNow]
          refine ⟨by rw [Bool.eq_iff_iff]; simp, fun e => e.symm⟩
        · cases hq
      · rename_i heq; cases heq
      · rename_i heq; cases heq
      · cases hq) es ms 0 r hm h
    exact ⟨r', by simp [Instr.findKey, run_underlying hu, Result.andThen, h1], h2⟩
  · rename_i a
    have hT : keyT P kt = 3 := by simpa using hok
    have hu := keyT_str hT
    cases hk
    obtain ⟨r', h1, h2⟩ := findNow_of (d := .string) (vk := .string ⟨⟨a⟩⟩) (fun ka vka b hr hq => by
      unfold keq at hq
      split at hq
      · rename_i heq; cases heq
      · rename_i heq; cases heq; cases hr
        rename_i c
        rw [if_pos hT] at hq
        cases hq
        simp only [Instr.sameNow, Option.some.injEq]
        refine ⟨?_, ?_⟩
        · rw [Bool.eq_iff_iff, MapKept.bytes_beq]
          simp
        · intro e; simp at e; rw [e]
      · rename_i heq; cases heq
      · cases hq) es ms 0 r hm h
    exact ⟨r', by simp [Instr.findKey, run_underlying hu, Result.andThen, h1], h2⟩
  · rename_i kk a ll b
    have hT : keyT P kt = 2 := by simpa using hok
    obtain ⟨fs, f0, f1, hu, _, _, _, hE⟩ := keyT_pair hT
    have hk0 := hk
    have hE0 := hE
    unfold eqT at hE
    split at hE
    case isFalse => cases hE
    rename_i hag
    obtain ⟨ks, hks, hE⟩ := Option.bind_eq_some_iff.1 hE
    split at hE
    case isFalse => cases hE
    rename_i hkl
    cases hE
    cases hk with | agg _ _ vs hl h1 hh =>
    have step : ∀ ka vka b', Rep P w F [] ka vka → keq P kt (.agg [.int kk a, .int ll b]) ka = some b' → (Op.equal kt (.agg ⟨vs⟩) vka).run P w = .ok b' w ∧ (b' = true → vka = .agg ⟨vs⟩) := by
      intro ka vka b' hr hq
      unfold keq at hq
      split at hq
      · rename_i heq; cases heq
      · rename_i heq; cases heq
      · rename_i heq
        cases heq
        rename_i k' a' l' b''
        split at hq
        case isFalse => cases hq
        rename_i hc
        obtain ⟨_, rfl, rfl⟩ := hc
        cases hq
        cases hr with | agg _ _ us hl' h1' hh' =>
        have hv : aeqs [0, 0] [.int kk a, .int ll b] [.int kk a', .int ll b''] = some (decide (a = a') && decide (b = b'')) := by
          simp [aeqs, eqPair]
        have := run_eqK 9990 10 kt [0, 0] vs us _ w hks hkl (aeqs_V hl hl' hh hh' hv)
        refine ⟨by simpa [packV, hag.1, Op.equal, Op.maxDepth] using this, ?_⟩
        intro e
        simp only [Bool.and_eq_true, decide_eq_true_eq] at e
        obtain ⟨rfl, rfl⟩ := e
        match vs, us, hl, hl', hh, hh' with
        | [v0, v1], [u0, u1], _, _, hh, hh' =>
          have e0 := (hh 0 _ v0 rfl rfl).int_inv
          have e1 := (hh 1 _ v1 rfl rfl).int_inv
          have e2 := (hh' 0 _ u0 rfl rfl).int_inv
          have e3 := (hh' 1 _ u1 rfl rfl).int_inv
          subst e0 e1 e2 e3
          rfl
      · cases hq
    have hfn : ∀ m ms', Instr.findNow (.struct fs) (.agg ⟨vs⟩) (m :: ms') 0 = none := by
      intro m ms'
      simp [Instr.findNow, Instr.sameNow]
    cases ms with
    | nil =>
      have hes : es = [] := List.eq_nil_of_length_eq_zero (by have := hm.1; simpa using this.symm)
      subst hes
      simp [afind] at h
      subst h
      exact ⟨none, by simp [Instr.findKey, run_underlying hu, Result.andThen, Instr.findNow], .inl ⟨rfl, rfl⟩⟩
    | cons m ms =>
      obtain ⟨r', g1, g2⟩ := findAsking_of step es (m :: ms) 0 r hm h
      exact ⟨r', by simp only [Instr.findKey, Sem.run_bind, run_underlying hu, Result.andThen, hfn]; exact g1, g2⟩
  · cases hok

theorem run_checkKeyN {kt : TypeId} {k : A} {vk : Value} (hok : keyOK P kt k = true) (hk : Rep P w F [] k vk) (e : Bool) (n : Nat) : (Instr.checkKey e (n + 2) kt vk).run P w = .ok () w := by
  have one : ∀ (t : TypeId) (k0 : IntKind) (v : Value), P.underlying t = some (.int k0) → (Instr.checkKey e (n + 1) t v).run P w = .ok () w := by
    intro t k0 v hu
    unfold Instr.checkKey
    simp only [Sem.run_bind, run_underlying hu, Result.andThen]
    cases v <;> rfl
  unfold keyOK at hok
  split at hok
  · obtain ⟨k0, hu⟩ := keyT_int (by simpa using hok)
    cases hk
    unfold Instr.checkKey
    simp only [Sem.run_bind, run_underlying hu, Result.andThen]
    rfl
  · have hu := keyT_str (by simpa using hok)
    cases hk
    unfold Instr.checkKey
    simp only [Sem.run_bind, run_underlying hu, Result.andThen]
    rfl
  · obtain ⟨fs, f0, f1, hu, hl, ⟨n0, n1, o0, o1⟩, ⟨i0, i1, c0, c1⟩, _⟩ := keyT_pair (by simpa using hok)
    cases hk with | agg _ _ vs hlen h1 hh =>
    have hfs : fs = #[f0, f1] := by cases fs; simpa using hl
    subst hfs
    unfold isIntD at i0 i1
    split at i0
    case h_2 => cases i0
    rename_i k0 hu0
    split at i1
    case h_2 => cases i1
    rename_i k1 hu1
    have p0 := run_part_pack (P := P) (d := 1) (t := f0.type) (k := [0]) (by simp [eqK, hu0, c0]) vs 0 (by rw [c0, hlen]; simp) w
    have p1 := run_part_pack (P := P) (d := 1) (t := f1.type) (k := [0]) (by simp [eqK, hu1, c1]) vs 1 (by rw [c1, hlen]; simp) w
    have q0 := fun v => one f0.type k0 v hu0
    have q1 := fun v => one f1.type k1 v hu1
    unfold Instr.checkKey
    simp only [Sem.run_bind, run_underlying hu, Result.andThen]
    simp [n0, n1, o0, o1, p0, p1, q0, q1, Result.andThen]
  · cases hok
theorem run_checkKeyA {kt : TypeId} {k : A} {vk : Value} (hok : keyOK P kt k = true) (hk : Rep P w F [] k vk) (e : Bool) : (Instr.checkKey e 10000 kt vk).run P w = .ok () w := run_checkKeyN hok hk e 9998
end

/-! The operations. -/
def amkmap (P : Program) (H : List Row) (_t : TypeId) : Option (A × List Row) := if P.cellsOf 4294967295 = 0 then some (.mp H.length, H ++ [RMp []]) else none

def alookup (P : Program) (H : List Row) (t : TypeId) (x k : A) (ok : Bool) : Option A :=
  match P.underlying t, x with
  | some (.map kt et), .mp id => (H[id]?).bind fun r =>
    if r.live = true ∧ r.sz = 0 ∧ keyOK P kt k = true ∧ k.noid = true then
      (afind (keq P kt k) r.es).bind fun f =>
        match f with
        | some p => some (if ok then .tup [p.2, .bool true] else p.2)
        | none => (zbox P et).map fun z => if ok then .tup [z.1, .bool false] else z.1
    else none
  | _, _ => none

def amapset (P : Program) (H : List Row) (t : TypeId) (x k v : A) : Option (List Row) :=
  match P.underlying t, x with
  | some (.map kt _), .mp id => (H[id]?).bind fun r =>
    if r.live = true ∧ r.sz = 0 ∧ keyOK P kt k = true ∧ k.noid = true ∧ v.noid = true then
      (afind (keq P kt k) r.es).map fun f =>
        match f with
        | some p => H.set id { r with es := r.es.set p.1 (.tup [k, v]) }
        | none => H.set id { r with es := r.es ++ [.tup [k, v]] }
    else none
  | _, _ => none

section
variable {P : Program} {w : World} {F0 : Fz} {μ : Mu} {H : List Row}

theorem HS.mapOK (hs : HS P w F0 μ H) {i : Nat} {r : Row} {b bs : Nat} (hr : H[i]? = some r) (hl : r.live = true) (hb : μ[i]? = some (b, bs)) (hz : r.sz = 0) : MapOK P w (Ft F0 μ H) r b bs := by
  rcases hs.row i r b bs hr hl hb with ⟨_, _, _, h, _⟩ | h
  · exact (h hz).elim
  · exact h

theorem HS.newMap {w' : World} (hs : HS P w F0 μ H) (hp : Pushed w w' (.map #[] 0)) (hc : P.cellsOf 4294967295 = 0) :
    HS P w' F0 (μ ++ [(w.heap.size, 0)]) (H ++ [RMp []]) ∧ Adv w (Fof μ H) w' (Fof (μ ++ [(w.heap.size, 0)]) (H ++ [RMp []])) := by
  have hmono : ∀ b x, b < w.heap.size → Fof (μ ++ [(w.heap.size, 0)]) (H ++ [RMp []]) b x → Fof μ H b x := by
    intro b x hb hf
    rcases Fof_app hs.len hf with h | ⟨rfl, _, _⟩
    · exact h
    · omega
  have hA := hp.adv (Fof μ H) hmono
  have hpre : μ <+: μ ++ [(w.heap.size, 0)] := List.prefix_append _ _
  have old : ∀ (i : Nat) (r : Row) (b bs : Nat), (H ++ [RMp []])[i]? = some r → r.live = true → (μ ++ [(w.heap.size, 0)])[i]? = some (b, bs) → (i < H.length ∧ H[i]? = some r ∧ μ[i]? = some (b, bs) ∧ b < w.heap.size) ∨ (i = H.length ∧ r = RMp [] ∧ b = w.heap.size ∧ bs = 0) := by
    intro i r b bs hr hlive hb
    by_cases hi : i < H.length
    · rw [List.getElem?_append_left hi] at hr
      rw [List.getElem?_append_left (by rw [hs.len]; exact hi)] at hb
      exact .inl ⟨hi, hr, hb, hs.lt (o := bs + r.f * r.sz) (.inr ⟨i, r, bs, hr, hlive, hb, Nat.le_refl _⟩)⟩
    · rw [List.getElem?_append_right (by omega)] at hr
      rw [List.getElem?_append_right (by rw [hs.len]; omega), hs.len] at hb
      have : i - H.length = 0 := by
        rcases Nat.eq_zero_or_pos (i - H.length) with h0 | h0
        · exact h0
        · rw [List.getElem?_eq_none (by simp; omega)] at hr; cases hr
      rw [this] at hr hb
      simp at hr hb
      exact .inr ⟨by omega, hr.symm, hb.1.symm, hb.2.symm⟩
  refine ⟨⟨by simp [hs.len], fun b o h => by rw [hp.size]; have := hs.bound b o h; omega, ?_, ?_, ?_⟩, hA⟩
  · intro i r b bs hr hl hb
    rcases old i r b bs hr hl hb with ⟨_, h2, h3, h4⟩ | ⟨_, rfl, rfl, rfl⟩
    · rcases hs.row i r b bs h2 hl h3 with k | k
      · exact .inl (k.adv (hA.join F0) hpre (hp.old h4))
      · exact .inr (k.adv (hA.join F0) (hp.old h4))
    · exact .inr ⟨hc, rfl, rfl, #[], 0, hp.new, rfl, by intro k e m he; simp [RMp] at he⟩
  · intro i j r r' b bs bs' hr hlr hr' hlr' hb hb'
    rcases old i r b bs hr hlr hb with ⟨h1, h2, h3, h4⟩ | ⟨h1, _, h2, _⟩ <;> rcases old j r' b bs' hr' hlr' hb' with ⟨k1, k2, k3, k4⟩ | ⟨k1, _, k2, _⟩
    · exact hs.inj i j r r' b bs bs' h2 hlr k2 hlr' h3 k3
    · omega
    · omega
    · omega
  · intro i r b bs o hr hlive hb hf
    have hlt := hs.bound b o hf
    rcases old i r b bs hr hlive hb with ⟨h1, h2, h3, h4⟩ | ⟨h1, _, h2, _⟩
    · exact hs.sep i r b bs o h2 hlive h3 hf
    · omega

theorem s_amkmap {H' : List Row} {t : TypeId} {r : A} (hs : HS P w F0 μ H) (h : amkmap P H t = some (r, H')) :
    ∃ v' w', (Instr.makeMap t none).run P w = .ok v' w' ∧ Res P w F0 μ H v' w' r H' ∧ Adv w NoF w' NoF := by
  unfold amkmap at h
  split at h
  · rename_i hc; cases h
    have hp : Pushed w (w.alloc (.map #[] 0)) (.map #[] 0) := pushed_alloc w _
    obtain ⟨h1, h2⟩ := hs.newMap hp hc
    refine ⟨.map (some w.heap.size), w.alloc (.map #[] 0), by simp [Instr.makeMap, Result.andThen], ⟨_, h1, h2, List.prefix_append _ _, ?_⟩, hp.adv NoF fun _ _ _ h => h⟩
    exact .mp _ _ _ (by rw [List.getElem?_append_right (by rw [hs.len]; exact Nat.le_refl _), hs.len]; simp)
  · cases h

theorem s_alookup {t : TypeId} {x k r : A} {ok : Bool} {vx vk : Value} (hs : HS P w F0 μ H) (hx : Rep P w (Ft F0 μ H) μ x vx) (hk : Rep P w (Ft F0 μ H) μ k vk) (h : alookup P H t x k ok = some r) :
    ∃ v, (∀ w', Adv w NoF w' NoF → (Instr.lookup t vx vk ok).run P w' = .ok v w') ∧ Rep P w (Ft F0 μ H) μ r v := by
  unfold alookup at h
  split at h
  · rename_i kt et id hu
    obtain ⟨row, hrow, h⟩ := Option.bind_eq_some_iff.1 h
    split at h
    case isFalse => cases h
    rename_i hc
    obtain ⟨hl, hz, hok, hn⟩ := hc
    obtain ⟨f, hf, h⟩ := Option.bind_eq_some_iff.1 h
    cases hx with | mp _ _ b hμ =>
    obtain ⟨_, _, _, ms, clock, hb, hm⟩ := hs.mapOK hrow hl hμ hz
    have hk0 := hk.noid hn
    obtain ⟨r', _, h2⟩ := s_findKey hok hk0 hm hf
    have hgetQ : ∀ w', Adv w NoF w' NoF → (getObj b).run P w' = .ok (.map ms clock) w' := fun w' hA =>
      MapKept.run_getObj_map (P := P) (by rw [hA.block b (Array.getElem?_eq_some_iff.1 hb).1 (fun _ hf => hf)]; exact hb)
    have hckQ : ∀ w', Adv w NoF w' NoF → (Instr.checkKey ms.isEmpty 10000 kt vk).run P w' = .ok () w' := fun w' hA => run_checkKeyA hok (hk0.adv (hA.ofNo _) (List.prefix_refl _)) ms.isEmpty
    have hfkQ : ∀ w', Adv w NoF w' NoF → (Instr.findKey kt vk ms.toList).run P w' = .ok r' w' := fun w' hA => by
      obtain ⟨r2, g1, g2⟩ := s_findKey hok (hk0.adv (hA.ofNo _) (List.prefix_refl _)) (hm.adv (hA.ofNo _)) hf
      rw [g1]
      rcases h2 with ⟨rfl, rfl⟩ | ⟨j, va, m, rfl, rfl, h3, _⟩ <;> rcases g2 with ⟨k1, rfl⟩ | ⟨j2, va2, m2, k1, rfl, k3, _⟩
      · rfl
      · cases k1
      · cases k1
      · cases k1
        rw [h3] at k3
        cases k3
        rfl
    rcases h2 with ⟨rfl, rfl⟩ | ⟨j, va, m, rfl, rfl, h3, h4, h5⟩
    · obtain ⟨z, hzb, h⟩ := Option.map_eq_some_iff.1 h
      obtain ⟨inf, zv, hi, hzz, _, hz1, _⟩ := zbox_some hzb
      have hzr : ∀ w', (zeroValue et).run P w' = .ok zv w' := fun w' => by simp [zeroValue, typeInfo, hi, hzz]
      have hzrep : Rep P w (Ft F0 μ H) μ z.1 zv := by rw [hz1]; exact rep_ofV zv
      cases ok
      · simp at h; subst h
        exact ⟨zv, fun w' hA => by simp [Instr.lookup, run_underlying hu, hgetQ w' hA, hckQ w' hA, hfkQ w' hA, hzr, Result.andThen], hzrep⟩
      · simp at h; subst h
        refine ⟨.tuple #[zv, .bool false], fun w' hA => by simp [Instr.lookup, run_underlying hu, hgetQ w' hA, hckQ w' hA, hfkQ w' hA, hzr, Result.andThen], ?_⟩
        refine .tup _ _ [zv, .bool false] rfl ?_
        intro i c u hc hu'
        match i with
        | 0 => simp at hc hu'; subst hc hu'; exact hzrep
        | 1 => simp at hc hu'; subst hc hu'; exact .bool _ _
        | n + 2 => simp at hc
    · have hva : Rep P w (Ft F0 μ H) μ va m.val := h5.mono (fun _ _ _ h => h) List.nil_prefix
      cases ok
      · simp at h; subst h
        exact ⟨m.val, fun w' hA => by simp [Instr.lookup, run_underlying hu, hgetQ w' hA, hckQ w' hA, hfkQ w' hA, Result.andThen], hva⟩
      · simp at h; subst h
        refine ⟨.tuple #[m.val, .bool true], fun w' hA => by simp [Instr.lookup, run_underlying hu, hgetQ w' hA, hckQ w' hA, hfkQ w' hA, Result.andThen], ?_⟩
        refine .tup _ _ [m.val, .bool true] rfl ?_
        intro i c u hc hu'
        match i with
        | 0 => simp at hc hu'; subst hc hu'; exact hva
        | 1 => simp at hc hu'; subst hc hu'; exact .bool _ _
        | n + 2 => simp at hc
  · cases h

theorem HS.mwrite (hs : HS P w F0 μ H) {id b bs : Nat} {r : Row} {ms ms' : Array MapEntry} {clock clock' : Nat} {es' : List A} (hr : H[id]? = some r) (hl : r.live = true) (hb : μ[id]? = some (b, bs)) (hz : r.sz = 0) (hc : w.heap[b]? = some (.map ms clock))
    (hm : MEnt P w (Ft F0 μ H) es' ms'.toList) :
    HS P { w with heap := w.heap.setIfInBounds b (.map ms' clock') } F0 μ (H.set id { r with es := es' }) ∧ Adv w (Fof μ H) { w with heap := w.heap.setIfInBounds b (.map ms' clock') } (Fof μ (H.set id { r with es := es' })) := by
  obtain ⟨hw1, hw2⟩ := MapKept.heap_set (o' := .map ms' clock') hc
  have hmo : ∀ b o, Fof μ (H.set id { r with es := es' }) b o → Fof μ H b o := fun b o h => Fof_set (r' := { r with es := es' }) hr ⟨hl, Nat.le_refl _⟩ h
  have hA : Adv w (Fof μ H) { w with heap := w.heap.setIfInBounds b (.map ms' clock') } (Fof μ (H.set id { r with es := es' })) := by
    refine ⟨rfl, rfl, rfl, by simp, ?_, fun b o _ h => hmo b o h, ?_, ?_⟩
    · intro b' o u hu _
      by_cases hbb : b' = b
      · subst hbb; simp [World.cell?, hc] at hu
      · rw [← hu]; exact cell_eq (hw2 b' hbb) o
    · intro b' t n hsh
      by_cases hbb : b' = b
      · subst hbb; simp [World.shape?, hc] at hsh
      · rw [← hsh]; exact shape_eq (hw2 b' hbb)
    · intro b' _ hf
      refine hw2 b' ?_
      rintro rfl
      exact hf _ ⟨id, r, bs, hr, hl, hb, Nat.le_refl _⟩
  have get : ∀ (i : Nat) (x : Row), (H.set id { r with es := es' })[i]? = some x → (i = id ∧ x = { r with es := es' }) ∨ (i ≠ id ∧ H[i]? = some x) := by
    intro i x hx
    rw [List.getElem?_set] at hx
    split at hx
    · rename_i hi
      split at hx
      · cases hx; exact .inl ⟨hi.symm, rfl⟩
      · cases hx
    · rename_i hi; exact .inr ⟨fun h => hi h.symm, hx⟩
  have get2 : ∀ (i : Nat) (x : Row), (H.set id { r with es := es' })[i]? = some x → x.live = true → ∃ y, H[i]? = some y ∧ y.live = true := by
    intro i x hx hlx
    rcases get i x hx with ⟨rfl, rfl⟩ | ⟨_, h⟩
    · exact ⟨r, hr, hl⟩
    · exact ⟨x, h, hlx⟩
  refine ⟨⟨by simp [hs.len], fun b o h => by simpa using hs.bound b o h, ?_, ?_, ?_⟩, hA⟩
  · intro i x b1 bs1 hx hlx hb1
    rcases get i x hx with ⟨rfl, rfl⟩ | ⟨hne, h⟩
    · rw [hb] at hb1; cases hb1
      obtain ⟨g1, _, g3, _⟩ := hs.mapOK hr hl hb hz
      exact .inr ⟨g1, hz, g3, ms', clock', hw1, hm.adv (hA.join F0)⟩
    · have hbne : b1 ≠ b := by
        rintro rfl
        exact hne (hs.inj i id x r b1 bs1 bs h hlx hr hl hb1 hb)
      rcases hs.row i x b1 bs1 h hlx hb1 with k | k
      · exact .inl (k.adv (hA.join F0) (List.prefix_refl _) (hw2 b1 hbne))
      · exact .inr (k.adv (hA.join F0) (hw2 b1 hbne))
  · intro i j x x' b1 bs1 bs2 hx hl1 hx' hl2 hb1 hb2
    obtain ⟨y, hy, hyl⟩ := get2 i x hx hl1
    obtain ⟨y', hy', hyl'⟩ := get2 j x' hx' hl2
    exact hs.inj i j y y' b1 bs1 bs2 hy hyl hy' hyl' hb1 hb2
  · intro i x b1 bs1 o hx hl1 hb1
    obtain ⟨y, hy, hyl⟩ := get2 i x hx hl1
    exact hs.sep i y b1 bs1 o hy hyl hb1

theorem sameBits_key {kt : TypeId} {F : Fz} {k : A} {vk : Value} (hok : keyOK P kt k = true) (hk : Rep P w F [] k vk) : Instr.sameBits 10000 vk vk = true := by
  unfold keyOK at hok
  split at hok
  · cases hk; simp [Instr.sameBits]
  · cases hk; unfold Instr.sameBits; exact (MapKept.bytes_beq _ _).2 rfl
  · cases hk with | agg _ _ vs hlen h1 hh =>
    match vs, hlen, hh with
    | [v0, v1], _, hh =>
      have e0 := (hh 0 _ v0 rfl rfl).int_inv
      have e1 := (hh 1 _ v1 rfl rfl).int_inv
      subst e0 e1
      show Instr.sameBits (9999 + 1) _ _ = true
      unfold Instr.sameBits
      simp [Instr.sameBits]
  · cases hok

theorem s_amapset {H' : List Row} {t : TypeId} {x k v : A} {vx vk vv : Value} (hs : HS P w F0 μ H) (hx : Rep P w (Ft F0 μ H) μ x vx) (hk : Rep P w (Ft F0 μ H) μ k vk) (hv : Rep P w (Ft F0 μ H) μ v vv) (h : amapset P H t x k v = some H') :
    ∃ w', (Instr.mapUpdate t vx vk vv).run P w = .ok () w' ∧ HS P w' F0 μ H' ∧ Adv w (Fof μ H) w' (Fof μ H') := by
  unfold amapset at h
  split at h
  · rename_i kt et id hu
    obtain ⟨row, hrow, h⟩ := Option.bind_eq_some_iff.1 h
    split at h
    case isFalse => cases h
    rename_i hc
    obtain ⟨hl, hz, hok, hnk, hnv⟩ := hc
    obtain ⟨f, hf, h⟩ := Option.map_eq_some_iff.1 h
    cases hx with | mp _ _ b hμ =>
    obtain ⟨_, _, _, ms, clock, hb, hm⟩ := hs.mapOK hrow hl hμ hz
    have hk0 := hk.noid hnk
    have hv0 := hv.noid hnv
    obtain ⟨r', h1, h2⟩ := s_findKey hok hk0 hm hf
    have hck := run_checkKeyA hok hk0 false
    have hget := MapKept.run_getObj_map (P := P) hb
    rcases h2 with ⟨rfl, rfl⟩ | ⟨j, va, m, rfl, rfl, h3, h4, h5⟩
    · simp only at h
      subst h
      obtain ⟨g1, g2⟩ := hs.mwrite (ms' := ms.push { key := vk, val := vv, born := clock }) (clock' := clock + 1) (es' := row.es ++ [.tup [k, v]]) hrow hl hμ hz hb (by
        refine ⟨by simp [hm.1], ?_⟩
        intro i e m he hm'
        rw [Array.toList_push] at hm'
        rcases Nat.lt_or_ge i row.es.length with hi | hi
        · rw [List.getElem?_append_left hi] at he
          rw [List.getElem?_append_left (by rw [hm.1]; exact hi)] at hm'
          exact hm.2 i e m he hm'
        · rw [List.getElem?_append_right hi] at he
          rw [List.getElem?_append_right (by rw [hm.1]; exact hi), hm.1] at hm'
          have : i - row.es.length = 0 := by
            rcases Nat.eq_zero_or_pos (i - row.es.length) with h0 | h0
            · exact h0
            · rw [List.getElem?_eq_none (by simp; omega)] at he; cases he
          rw [this] at he hm'
          simp at he hm'
          subst he hm'
          exact ⟨k, v, rfl, hk0, hv0⟩)
      refine ⟨_, ?_, g1, g2⟩
      simp [Instr.mapUpdate, run_underlying hu, hget, hck, h1, MapKept.run_setObj_map _ hb, Result.andThen]
    · simp only [Nat.zero_add] at h h1
      subst h
      have hms : ms[j]? = some m := by simpa using h3
      have hstay : (Instr.keyThatStays m.key vk).run P w = .ok vk w := by
        rw [h4]; simp [Instr.keyThatStays, sameBits_key hok hk0]
      obtain ⟨g1, g2⟩ := hs.mwrite (ms' := ms.modify j fun e => { e with key := vk, val := vv }) (clock' := clock) (es' := row.es.set j (.tup [k, v])) hrow hl hμ hz hb (by
        refine ⟨by simpa using hm.1, ?_⟩
        intro i e m' he hm'
        rw [Array.getElem?_toList, Array.getElem?_modify] at hm'
        rw [List.getElem?_set] at he
        by_cases hij : j = i
        · subst hij
          rw [if_pos rfl] at he hm'
          split at he
          · cases he
            rw [hms] at hm'
            simp at hm'
            subst hm'
            exact ⟨k, v, rfl, hk0, hv0⟩
          · cases he
        · rw [if_neg hij] at he hm'
          exact hm.2 i e m' he (by simpa using hm'))
      refine ⟨_, ?_, g1, g2⟩
      simp [Instr.mapUpdate, run_underlying hu, hget, hck, h1, hms, hstay, MapKept.run_setObj_map _ hb, Result.andThen]
  · cases h
end
end Go.AL
