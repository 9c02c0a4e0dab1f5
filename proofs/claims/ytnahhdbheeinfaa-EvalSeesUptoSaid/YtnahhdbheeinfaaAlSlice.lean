/- An abstract layer over the walk, 5: slices of slices and of strings; structs that are built; function values. No program in sight. -/
import Derived.Test.YtnahhdbheeinfaaAlLoad
namespace Go.AL

def abnd (x : Option A) (d : Nat) : Option Nat :=
  match x with
  | none => some d
  | some (.int _ n) => if 0 ≤ n then some n.toNat else none
  | _ => none

/-- The bound that an operand gives. -/
def Bnd (v : Option Value) (d n : Nat) : Prop := (v = none ∧ n = d) ∨ ∃ k i, v = some (.int k i) ∧ 0 ≤ i ∧ i.toNat = n

def RepO (P : Program) (w : World) (F : Fz) (μ : Mu) : Option A → Option Value → Prop
  | none, none => True
  | some x, some v => Rep P w F μ x v
  | _, _ => False

theorem s_abnd {P : Program} {w : World} {F : Fz} {μ : Mu} {x : Option A} {v : Option Value} {d n : Nat} (hr : RepO P w F μ x v) (h : abnd x d = some n) : Bnd v d n := by
  cases x with
  | none =>
    cases v with
    | none => simp [abnd] at h; exact .inl ⟨rfl, h.symm⟩
    | some v => exact hr.elim
  | some x =>
    cases v with
    | none => exact hr.elim
    | some v =>
      unfold abnd at h
      split at h
      · rename_i h1; cases h1
      · rename_i k i h1
        cases h1
        cases hr
        split at h
        · rename_i h0; cases h; exact .inr ⟨_, _, rfl, h0, rfl⟩
        · cases h
      · cases h

theorem run_sliceBound {P : Program} {k : IntKind} {i : Int} {y n : Nat} {code : BoundsCode} (h0 : 0 ≤ i) (hn : i.toNat = n) (h : n ≤ y) (w : World) : (Instr.sliceBound (.int k i) y code).run P w = .ok n w := by
  have h1 : i ≤ y := by omega
  simp [Instr.sliceBound, asIntOf, h0, h1, hn]

theorem run_bounds_plain {P : Program} {b : Bool} {len cap l h : Nat} {lo hi : Option Value} (hl : Bnd lo 0 l) (hh : Bnd hi len h) (h1 : l ≤ h) (h2 : h ≤ cap) (w : World) :
    (Instr.sliceBounds b len cap lo hi none).run P w = .ok (l, h, cap) w := by
  rcases hl with ⟨rfl, rfl⟩ | ⟨k, i, rfl, h3, h4⟩ <;> rcases hh with ⟨rfl, rfl⟩ | ⟨k', i', rfl, h5, h6⟩
  · simp [Instr.sliceBounds]
  · simp [Instr.sliceBounds, run_sliceBound h5 h6 h2]
  · simp [Instr.sliceBounds, run_sliceBound h3 h4 h1]
  · simp [Instr.sliceBounds, run_sliceBound h5 h6 h2, run_sliceBound h3 h4 h1]

theorem run_bounds_max {P : Program} {b : Bool} {len cap l h m d : Nat} {lo hi mx : Option Value} (hl : Bnd lo 0 l) (hh : Bnd hi len h) (hhi : hi ≠ none) (hm : Bnd mx d m) (hmx : mx ≠ none) (h1 : l ≤ h) (h2 : h ≤ m) (h3 : m ≤ cap) (w : World) :
    (Instr.sliceBounds b len cap lo hi mx).run P w = .ok (l, h, m) w := by
  rcases hh with ⟨rfl, _⟩ | ⟨k', i', rfl, h5, h6⟩
  · exact (hhi rfl).elim
  rcases hm with ⟨rfl, _⟩ | ⟨k3, i3, rfl, h7, h8⟩
  · exact (hmx rfl).elim
  rcases hl with ⟨rfl, rfl⟩ | ⟨k, i, rfl, h9, h4⟩
  · simp [Instr.sliceBounds, run_sliceBound h5 h6 h2, run_sliceBound h7 h8 h3]
  · simp [Instr.sliceBounds, run_sliceBound h5 h6 h2, run_sliceBound h7 h8 h3, run_sliceBound h9 h4 h1]

def aslice (P : Program) (t : TypeId) (x : A) (lo hi mx : Option A) : Option A :=
  match P.underlying t, x with
  | some .string, .str s =>
    (abnd lo 0).bind fun l => (abnd hi s.length).bind fun h => if mx.isNone ∧ l ≤ h ∧ h ≤ s.length then some (.str ((s.drop l).take (h - l))) else none
  | some (.slice e), .sl full es =>
    (abnd lo 0).bind fun l => (abnd hi es.length).bind fun h => (abnd mx es.length).bind fun m =>
      if P.cellsOf e ≠ 0 ∧ l ≤ h ∧ h ≤ m ∧ m ≤ es.length ∧ (mx.isSome → hi.isSome) ∧ (l = 0 ∨ es.all (fun x => x.ncells == P.cellsOf e)) then
        some (.sl (if mx.isSome then m == h else full && h == es.length) ((es.drop l).take (h - l)))
      else none
  | some (.slice e), .own id off len cb ex =>
    (abnd lo 0).bind fun l => (abnd hi len).bind fun h => (abnd mx cb).bind fun m =>
      if P.cellsOf e ≠ 0 ∧ l ≤ h ∧ h ≤ m ∧ m ≤ cb ∧ (mx.isSome → hi.isSome) then
        some (if cb = 0 ∧ ex = true then .own id off 0 0 true else .own id (off + l) (h - l) (m - l) (ex || mx.isSome))
      else none
  | _, _ => none

theorem run_slice_sl {P : Program} {t e : TypeId} (hu : P.underlying t = some (.slice e)) {inf : TypeInfo} (hi : P.info? e = some inf) {a : Option Addr} {len cap l h m : Nat} {lo hi' mx : Option Value} {w : World}
    (hb : (Instr.sliceBounds true len cap lo hi' mx).run P w = .ok (l, h, m) w) :
    (Instr.sliceAt t (.slice a len cap) lo hi' mx).run P w = .ok (.slice (if m = l then a else a.map (·.add (l * inf.size))) (h - l) (m - l)) w := by
  simp [Instr.sliceAt, Instr.slice, run_underlying hu, hb, run_sizeOf hi]

theorem s_aslice {P : Program} {H : List Row} {t : TypeId} {x r : A} {lo hi mx : Option A} {v : Value} {vl vh vm : Option Value} {w : World} {F0 : Fz} {μ : Mu} (hs : HS P w F0 μ H)
    (hty : ∀ e, P.underlying t = some (.slice e) → ∀ id off len cb ex, x = .own id off len cb ex → ¬ (cb = 0 ∧ ex = true) → ∃ r, H[id]? = some r ∧ r.live = true ∧ r.ty = e)
    (hx : Rep P w (Ft F0 μ H) μ x v) (hl : RepO P w (Ft F0 μ H) μ lo vl) (hh : RepO P w (Ft F0 μ H) μ hi vh) (hm : RepO P w (Ft F0 μ H) μ mx vm) (h : aslice P t x lo hi mx = some r) :
    ∃ u, (∀ w', Cn w w' → (Instr.sliceAt t v vl vh vm).run P w' = .ok u w') ∧ Rep P w (Ft F0 μ H) μ r u := by
  have hvm : mx.isSome = vm.isSome := by cases mx <;> cases vm <;> first | rfl | exact hm.elim
  have hvh : hi.isSome = vh.isSome := by cases hi <;> cases vh <;> first | rfl | exact hh.elim
  unfold aslice at h
  split at h
  · rename_i s hu
    obtain ⟨l, hl1, h⟩ := Option.bind_eq_some_iff.1 h
    obtain ⟨hh', hh1, h⟩ := Option.bind_eq_some_iff.1 h
    split at h
    · rename_i hc; cases h; cases hx
      have hvn : vm = none := by have := hc.1; cases mx <;> cases vm <;> simp_all
      subst hvn
      have hb := run_bounds_plain (P := P) (b := false) (len := s.length) (cap := s.length) (s_abnd hl hl1) (s_abnd hh hh1) hc.2.1 hc.2.2
      refine ⟨.string ⟨⟨(s.drop l).take (hh' - l)⟩⟩, fun w' _ => ?_, .str _ _⟩
      have hsz : (⟨⟨s⟩⟩ : ByteArray).size = s.length := rfl
      have he : (⟨⟨s⟩⟩ : ByteArray).extract l hh' = ⟨⟨(s.drop l).take (hh' - l)⟩⟩ := by rw [Lib.extract_eq]
      simp only [Instr.sliceAt, Instr.slice, Sem.run_bind, run_underlying hu, Result.andThen, hsz]
      simp
      rw [hb w']
      simp only [Result.andThen, he]
    · cases h
  · rename_i e full es hu
    obtain ⟨l, hl1, h⟩ := Option.bind_eq_some_iff.1 h
    obtain ⟨hh', hh1, h⟩ := Option.bind_eq_some_iff.1 h
    obtain ⟨m, hm1, h⟩ := Option.bind_eq_some_iff.1 h
    split at h
    · rename_i hc
      obtain ⟨hinf, c1, c2, c3, c4, c5⟩ := hc
      obtain ⟨inf, hinf, _⟩ := info_of_cells hinf
      cases h
      have key : ∀ (n cap : Nat) (a : Option Addr), v = .slice a n cap → n = es.length → n ≤ cap → ∃ m', (∀ w', (Instr.sliceAt t v vl vh vm).run P w' = .ok (.slice (if m' = l then a else a.map (·.add (l * inf.size))) (hh' - l) (m' - l)) w') ∧ (vm = none → m' = cap) ∧ (vm ≠ none → m' = m) ∧ hh' ≤ m' ∧ m' ≤ cap := by
        intro n cap a hv hn hcap
        subst hv
        by_cases hvn : vm = none
        · subst hvn
          have hb := run_bounds_plain (P := P) (b := true) (len := n) (cap := cap) (s_abnd hl hl1) (by rw [hn]; exact s_abnd hh hh1) c1 (by omega)
          exact ⟨cap, fun w' => run_slice_sl hu hinf (hb w'), fun _ => rfl, fun h => (h rfl).elim, by omega, Nat.le_refl _⟩
        · have hs1 : mx.isSome = true := by rw [hvm]; cases vm <;> simp_all
          have hh2 : vh ≠ none := by have := c4 hs1; rw [hvh] at this; intro e; rw [e] at this; simp at this
          have hb := run_bounds_max (P := P) (b := true) (len := n) (cap := cap) (s_abnd hl hl1) (by rw [hn]; exact s_abnd hh hh1) hh2 (s_abnd hm hm1) hvn c1 c2 (by omega)
          exact ⟨m, fun w' => run_slice_sl hu hinf (hb w'), fun h => (hvn h).elim, fun _ => rfl, c2, by omega⟩
      cases hx with
      | slnil _ _ a =>
        obtain ⟨m', h1, h2, h3, h4, h5⟩ := key 0 0 a rfl rfl (Nat.le_refl _)
        have hm0 : m' = 0 := by omega
        have hh0 : hh' = 0 := by omega
        have hl0 : l = 0 := by omega
        subst hm0 hh0 hl0
        refine ⟨_, fun w' _ => h1 w', ?_⟩
        simp
        exact .slnil _ _ _
      | sl _ _ _ b off n cap sz V hn hcap hmax hfull hsz hrep hcell =>
        obtain ⟨m', h1, h2, h3, h4, h5⟩ := key n cap _ rfl hn hcap
        refine ⟨_, fun w' _ => h1 w', ?_⟩
        have haddr : ∃ off', (if m' = l then some (⟨b, off, none⟩ : Addr) else (some (⟨b, off, none⟩ : Addr)).map (·.add (l * inf.size))) = some ⟨b, off', none⟩ ∧ (l < hh' → off' = off + l * inf.size) := by
          split
          · exact ⟨off, rfl, fun h => by omega⟩
          · exact ⟨off + l * inf.size, by simp [Addr.add_lit], fun _ => rfl⟩
        obtain ⟨off', ho, ho'⟩ := haddr
        rw [ho]
        have hget : ∀ (i : Nat) (e' : A), ((es.drop l).take (hh' - l))[i]? = some e' → es[l + i]? = some e' ∧ i < hh' - l := by
          intro i e' he
          simp only [List.getElem?_take, List.getElem?_drop] at he
          split at he
          · exact ⟨he, by assumption⟩
          · cases he
        have hszl : ∀ (i : Nat) (e' : A), es[l + i]? = some e' → l = 0 ∨ sz = inf.size := by
          intro i e' he
          rcases c5 with c5 | c5
          · exact .inl c5
          · right
            have := hsz _ _ he
            rw [List.all_eq_true] at c5
            have := c5 e' (List.mem_of_getElem? he)
            simp at this
            rw [cellsOf_info hinf] at this
            omega
        refine .sl _ _ _ b off' (hh' - l) (m' - l) sz (fun i => V (l + i)) (by simp; omega) (by omega) (by omega) ?_ (fun i e' he => hsz _ _ (hget i e' he).1) (fun i e' he => hrep _ _ (hget i e' he).1) ?_
        · intro hf
          by_cases hvn : vm = none
          · have : mx.isSome = false := by rw [hvm, hvn]; rfl
            simp [this] at hf
            have := hfull hf.1
            have := h2 hvn
            omega
          · have : mx.isSome = true := by rw [hvm]; cases vm <;> simp_all
            simp [this] at hf
            have := h3 hvn
            omega
        · intro i e' he j u hu'
          obtain ⟨he2, hi2⟩ := hget i e' he
          have := hcell _ _ he2 j u hu'
          rw [ho' (by omega)]
          rcases hszl i e' he2 with hl0 | hzz
          · subst hl0; simpa using this
          · rw [hzz] at this ⊢
            rw [show off + l * inf.size + i * inf.size + j = off + (l + i) * inf.size + j by rw [Nat.add_mul]; omega]
            exact this
    · cases h
  · rename_i e id off len cb ex hu
    obtain ⟨l, hl1, h⟩ := Option.bind_eq_some_iff.1 h
    obtain ⟨hh', hh1, h⟩ := Option.bind_eq_some_iff.1 h
    obtain ⟨m, hm1, h⟩ := Option.bind_eq_some_iff.1 h
    split at h
    · rename_i hc
      obtain ⟨hinf, c1, c2, c3, c4⟩ := hc
      obtain ⟨inf, hinf, _⟩ := info_of_cells hinf
      by_cases hroom : cb = 0 ∧ ex = true
      · rw [if_pos hroom] at h
        cases h
        obtain ⟨rfl, rfl⟩ := hroom
        have hm0 : m = 0 := by omega
        subst hm0
        have hh0 : hh' = 0 := by omega
        subst hh0
        have hl0 : l = 0 := by omega
        subst hl0
        have hv : ∃ a : Option Addr, v = .slice a 0 0 := by
          cases hx with
          | own _ _ _ _ _ _ b bs cap ty n hμ hsh hfit hlen hcb hmax hex ao hat =>
            have := hex rfl
            subst this
            have : len = 0 := by omega
            subst this
            exact ⟨_, rfl⟩
          | ownn _ _ _ a => exact ⟨a, rfl⟩
        obtain ⟨a, rfl⟩ := hv
        have hlen0 : len = 0 := by cases hx <;> omega
        subst hlen0
        have hrun : ∀ w', (Instr.sliceAt t (.slice a 0 0) vl vh vm).run P w' = .ok (.slice a 0 0) w' := by
          intro w'
          by_cases hvn : vm = none
          · subst hvn
            have hb := run_bounds_plain (P := P) (b := true) (len := 0) (cap := 0) (s_abnd hl hl1) (s_abnd hh hh1) (Nat.le_refl _) (Nat.le_refl _) w'
            simpa using run_slice_sl (a := a) hu hinf hb
          · have hs1 : mx.isSome = true := by rw [hvm]; cases vm <;> simp_all
            have hh2 : vh ≠ none := by have := c4 hs1; rw [hvh] at this; intro e; rw [e] at this; simp at this
            have hb := run_bounds_max (P := P) (b := true) (len := 0) (cap := 0) (s_abnd hl hl1) (s_abnd hh hh1) hh2 (s_abnd hm hm1) hvn (Nat.le_refl _) (Nat.le_refl _) (Nat.le_refl _) w'
            simpa using run_slice_sl (a := a) hu hinf hb
        exact ⟨_, fun w' _ => hrun w', .ownn _ _ _ a⟩
      rw [if_neg hroom] at h
      cases h
      obtain ⟨row, hrow, hlive, hrty⟩ := hty e hu _ _ _ _ _ rfl hroom
      cases hx with | ownn _ _ _ a => exact (hroom ⟨rfl, rfl⟩).elim | own _ _ _ _ _ _ b bs cap ty n hμ hsh hfit hlen hcb hmax hex ao hat =>
      have htye : ty = e := by
        obtain ⟨cur, hc, _⟩ := hs.cells hrow hlive hμ hsh
        simp only [World.shape?, hc] at hsh
        simp at hsh; rw [← hsh.1, hrty]
      subst htye
      have key : ∃ m', (∀ w', (Instr.sliceAt t (.slice (some ⟨b, ao, none⟩) len cap) vl vh vm).run P w' = .ok (.slice (if m' = l then some ⟨b, ao, none⟩ else (some (⟨b, ao, none⟩ : Addr)).map (·.add (l * inf.size))) (hh' - l) (m' - l)) w') ∧ m ≤ m' ∧ m' ≤ cap ∧ (vm = none → m' = cap ∧ m = cb) ∧ (vm ≠ none → m' = m) := by
        by_cases hvn : vm = none
        · have hmn : mx = none := by cases mx <;> simp_all
          subst hmn; subst hvn
          simp [abnd] at hm1; subst hm1
          have hb := run_bounds_plain (P := P) (b := true) (len := len) (cap := cap) (s_abnd hl hl1) (s_abnd hh hh1) c1 (by omega)
          exact ⟨cap, fun w' => run_slice_sl hu hinf (hb w'), hcb, Nat.le_refl _, fun _ => ⟨rfl, rfl⟩, fun h => (h rfl).elim⟩
        · have hs1 : mx.isSome = true := by rw [hvm]; cases vm <;> simp_all
          have hh2 : vh ≠ none := by have := c4 hs1; rw [hvh] at this; intro e; rw [e] at this; simp at this
          have hb := run_bounds_max (P := P) (b := true) (len := len) (cap := cap) (s_abnd hl hl1) (s_abnd hh hh1) hh2 (s_abnd hm hm1) hvn c1 c2 (by omega)
          exact ⟨m, fun w' => run_slice_sl hu hinf (hb w'), Nat.le_refl _, by omega, fun h => (hvn h).elim, fun _ => rfl⟩
      obtain ⟨m', h1, h2, h3, h4, h5⟩ := key
      refine ⟨_, fun w' _ => h1 w', ?_⟩
      have hci := cellsOf_info hinf
      have ha : (if m' = l then some (⟨b, ao, none⟩ : Addr) else (some (⟨b, ao, none⟩ : Addr)).map (·.add (l * inf.size))) = some ⟨b, if m' = l then ao else ao + l * inf.size, none⟩ := by
        split
        · rfl
        · simp only [Option.map_some, Addr.add_lit]
      rw [ha]
      refine .own _ _ _ _ _ _ b bs (m' - l) ty n hμ hsh ?_ (by omega) (by omega) (by omega) ?_ _ ?_
      · have : (off + l + (m' - l)) * P.cellsOf ty ≤ (off + cap) * P.cellsOf ty := Nat.mul_le_mul_right _ (by omega)
        omega
      · intro hex'
        by_cases hvn : vm = none
        · have hmn : mx.isSome = false := by rw [hvm, hvn]; rfl
          simp [hmn] at hex'
          have := hex hex'
          obtain ⟨h41, h42⟩ := h4 hvn
          omega
        · rw [h5 hvn]
      · intro hne
        rw [if_neg (by omega), hat (by omega), hci, Nat.add_mul]
        omega
    · cases h
  · cases h

/-! A struct or an array that is built of its parts. -/
def PR (P : Program) (w : World) (F : Fz) (μ : Mu) (cs : List A) (vs : List Value) : Prop :=
  vs.length = cs.length ∧ (∀ u ∈ vs, u.oneCell' = true) ∧ ∀ (i : Nat) (c : A) (u : Value), cs[i]? = some c → vs[i]? = some u → Rep P w F μ c u

theorem PR.agg {P : Program} {w : World} {F : Fz} {μ : Mu} {cs : List A} {vs : List Value} (h : PR P w F μ cs vs) : Rep P w F μ (.agg cs) (.agg ⟨vs⟩) := .agg _ _ _ h.1 h.2.1 h.2.2

theorem PR.cells {P : Program} {w : World} {F : Fz} {μ : Mu} {a : A} {v : Value} (h : Rep P w F μ a v) (hn : a.ncells ≠ 0) : PR P w F μ a.cells v.cells.toList := by
  obtain ⟨h1, h2, h3⟩ := h.cells (.inl hn)
  exact ⟨by simpa using h1, h2, fun i c u hc hu => h3 i c u hc (by simpa using hu)⟩

theorem PR.app {P : Program} {w : World} {F : Fz} {μ : Mu} {cs ds : List A} {vs us : List Value} (h : PR P w F μ cs vs) (k : PR P w F μ ds us) : PR P w F μ (cs ++ ds) (vs ++ us) := by
  refine ⟨by simp [h.1, k.1], ?_, ?_⟩
  · intro u hu
    rcases List.mem_append.1 hu with hu | hu
    · exact h.2.1 u hu
    · exact k.2.1 u hu
  · intro i c u hc hu
    by_cases hi : i < cs.length
    · rw [List.getElem?_append_left hi] at hc
      rw [List.getElem?_append_left (by rw [h.1]; exact hi)] at hu
      exact h.2.2 i c u hc hu
    · rw [List.getElem?_append_right (by omega)] at hc
      rw [List.getElem?_append_right (by rw [h.1]; omega), h.1] at hu
      exact k.2.2 _ c u hc hu

theorem PR.take {P : Program} {w : World} {F : Fz} {μ : Mu} {cs : List A} {vs : List Value} (h : PR P w F μ cs vs) (n : Nat) : PR P w F μ (cs.take n) (vs.take n) := by
  refine ⟨by simp [h.1], fun u hu => h.2.1 u (List.mem_of_mem_take hu), ?_⟩
  intro i c u hc hu
  simp only [List.getElem?_take] at hc hu
  split at hc
  · rename_i hi; rw [if_pos hi] at hu; exact h.2.2 i c u hc hu
  · cases hc

theorem PR.drop {P : Program} {w : World} {F : Fz} {μ : Mu} {cs : List A} {vs : List Value} (h : PR P w F μ cs vs) (n : Nat) : PR P w F μ (cs.drop n) (vs.drop n) := by
  refine ⟨by simp [h.1], fun u hu => h.2.1 u (List.mem_of_mem_drop hu), ?_⟩
  intro i c u hc hu
  simp only [List.getElem?_drop] at hc hu
  exact h.2.2 _ c u hc hu

theorem foldl_cells : ∀ (vs : List Value) (k off : Nat) (cs : Array Value), off + k + vs.length ≤ cs.size →
    ((vs.zipIdx k).foldl (fun cs (c, j) => cs.setIfInBounds (off + j) c) cs).toList = cs.toList.take (off + k) ++ vs ++ cs.toList.drop (off + k + vs.length)
  | [], k, off, cs, _ => by simp
  | v :: vs, k, off, cs, h => by
    simp only [List.length_cons] at h
    have ih := foldl_cells vs (k + 1) off (cs.setIfInBounds (off + k) v) (by simp; omega)
    simp only [List.zipIdx_cons, List.foldl_cons]
    rw [ih]
    simp only [Array.toList_setIfInBounds, List.length_cons]
    have hlt : off + k < cs.toList.length := by simp; omega
    rw [List.set_eq_take_append_cons_drop, if_pos hlt]
    have e1 : (List.take (off + k) cs.toList ++ v :: List.drop (off + k + 1) cs.toList).take (off + (k + 1)) = List.take (off + k) cs.toList ++ [v] := by
      rw [List.take_append, List.take_of_length_le (by simp; omega)]
      have : off + (k + 1) - (List.take (off + k) cs.toList).length = 1 := by simp; omega
      rw [this]; simp
    have e2 : (List.take (off + k) cs.toList ++ v :: List.drop (off + k + 1) cs.toList).drop (off + (k + 1) + vs.length) = List.drop (off + k + (vs.length + 1)) cs.toList := by
      rw [List.drop_append, List.drop_of_length_le (by simp; omega)]
      have : off + (k + 1) + vs.length - (List.take (off + k) cs.toList).length = vs.length + 1 := by simp; omega
      rw [this]
      simp [List.drop_drop]
      congr 1; omega
    rw [e1, e2]; simp

def afill (place : Nat → Option (Nat × Nat)) (cells : List A) : List (Nat × A) → Option (List A)
  | [] => some cells
  | (i, v) :: rest =>
    match place i with
    | none => none
    | some (off, size) =>
      if v.ncells ≠ size ∨ size = 0 ∨ off + size > cells.length then none
      else afill place (cells.take off ++ v.cells ++ cells.drop (off + size)) rest

def RepPs (P : Program) (w : World) (F : Fz) (μ : Mu) : List (Nat × A) → List (Nat × Value) → Prop
  | [], [] => True
  | x :: xs, v :: vs => x.1 = v.1 ∧ Rep P w F μ x.2 v.2 ∧ RepPs P w F μ xs vs
  | _, _ => False

theorem s_afill {P : Program} {w : World} {F : Fz} {μ : Mu} {place : Nat → Option (Nat × Nat)} : ∀ {parts : List (Nat × A)} {vparts : List (Nat × Value)} {cs cs' : List A} {vs : Array Value},
    PR P w F μ cs vs.toList → RepPs P w F μ parts vparts → afill place cs parts = some cs' → ∃ vs', Instr.fill place vs vparts = some vs' ∧ PR P w F μ cs' vs'.toList
  | [], [], cs, cs', vs, h, _, hf => by cases hf; exact ⟨vs, rfl, h⟩
  | (i, x) :: rest, (i', v) :: vrest, cs, cs', vs, h, hp, hf => by
    obtain ⟨rfl, hx, hrest⟩ := hp
    simp only [afill] at hf
    simp only [Instr.fill]
    cases hpl : place i with
    | none => simp [hpl] at hf
    | some os =>
      obtain ⟨off, size⟩ := os
      simp only [hpl] at hf ⊢
      split at hf
      · cases hf
      · rename_i hc
        have hc1 : x.ncells = size := by omega
        have hc2 : x.ncells ≠ 0 := by omega
        have hc3 : off + size ≤ cs.length := by omega
        have hpc := PR.cells hx hc2
        have hsz : v.cells.size = size := by have := hpc.1; rw [A.ncells_eq hc2, hc1] at this; simpa using this
        have hvl : vs.size = cs.length := by have := h.1; simpa using this
        rw [if_neg (by rw [hsz, hvl]; simp; omega)]
        refine s_afill ?_ hrest hf
        have hz : (v.cells.zipIdx.foldl (fun cs (c, j) => cs.setIfInBounds (off + j) c) vs).toList = vs.toList.take off ++ v.cells.toList ++ vs.toList.drop (off + size) := by
          have := foldl_cells v.cells.toList 0 off vs (by simp; omega)
          rw [← Array.foldl_toList, Array.toList_zipIdx, this]
          simp [hsz]
        rw [hz]
        exact ((h.take off).app hpc).app (h.drop (off + size))
  | [], _ :: _, _, _, _, _, hp, _ => hp.elim
  | _ :: _, [], _, _, _, _, hp, _ => hp.elim

def zcells (z : Value) : Option (List A) := if z.cells.toList.all (·.oneCell') then some (z.cells.toList.map ofV1) else none

theorem zcells_PR {P : Program} {w : World} {F : Fz} {μ : Mu} {z : Value} {zc : List A} (h : zcells z = some zc) : PR P w F μ zc z.cells.toList := by
  unfold zcells at h
  split at h
  · rename_i ha; cases h
    refine ⟨by simp, List.all_eq_true.1 ha, ?_⟩
    intro i c u hc hu
    simp at hc
    obtain ⟨y, hy, rfl⟩ := hc
    simp at hu
    rw [hu] at hy; cases hy
    exact rep_ofV1 _
  · cases h

/-- What a struct is built of: its zero cells, where its fields lie. -/
def bplan (P : Program) (t : TypeId) : Option (List A × List (Nat × Nat)) :=
  match P.info? t, P.underlying t with
  | some it, some (.struct fields) =>
    match it.zero, fields.toList.mapM (fun f => (P.info? f.type).map fun i => (f.offset, i.size)) with
    | some z, some places => (zcells z).map fun zc => (zc, places)
    | _, _ => none
  | _, _ => none

def aplan (P : Program) (t : TypeId) : Option (List A × Nat) :=
  match P.info? t, P.underlying t with
  | some it, some (.array _ e) =>
    match it.zero, P.info? e with
    | some z, some ie => (zcells z).map fun zc => (zc, ie.size)
    | _, _ => none
  | _, _ => none

def abuilt (P : Program) (t : TypeId) (parts : List (Nat × A)) : Option A :=
  match bplan P t with
  | some p => (afill (p.2[·]?) p.1 parts).map .agg
  | none => (aplan P t).bind fun p => (afill (fun i => some (i * p.2, p.2)) p.1 parts).map .agg

theorem s_abuilt {P : Program} {w : World} {F : Fz} {μ : Mu} {t : TypeId} {parts : List (Nat × A)} {vparts : Array (Nat × Value)} {r : A} (hp : RepPs P w F μ parts vparts.toList) (h : abuilt P t parts = some r) :
    ∃ u, (∀ w', Cn w w' → (Instr.build t vparts).run P w' = .ok u w') ∧ Rep P w F μ r u := by
  unfold abuilt at h
  split at h
  · rename_i p hpl
    unfold bplan at hpl
    split at hpl
    · rename_i it fields hit hu'
      split at hpl
      · rename_i z places hz hpl2
        obtain ⟨zc, hzc, rfl⟩ := Option.map_eq_some_iff.1 hpl
        obtain ⟨cs, hcs, rfl⟩ := Option.map_eq_some_iff.1 h
        obtain ⟨vs, h1, h2⟩ := s_afill (zcells_PR hzc) hp hcs
        refine ⟨.agg vs, fun w' _ => run_build w' t vparts vs ?_, h2.agg⟩
        simp only [Program.built, hit, hu', hz, hpl2, List.getElem?_toArray, h1]
      · cases hpl
    · cases hpl
  · obtain ⟨p, hpl, h⟩ := Option.bind_eq_some_iff.1 h
    unfold aplan at hpl
    split at hpl
    · rename_i it n' e' hit hu'
      split at hpl
      · rename_i z ie hz hie
        obtain ⟨zc, hzc, rfl⟩ := Option.map_eq_some_iff.1 hpl
        obtain ⟨cs, hcs, rfl⟩ := Option.map_eq_some_iff.1 h
        obtain ⟨vs, h1, h2⟩ := s_afill (zcells_PR hzc) hp hcs
        exact ⟨.agg vs, fun w' _ => run_build w' t vparts vs (by simp [Program.built, hit, hu', hz, hie, h1]), h2.agg⟩
      · cases hpl
    · cases hpl
end Go.AL
