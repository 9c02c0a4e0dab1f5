/- An abstract layer over the walk, 8: boxes, literals of slices, make, stores, clear. No program in sight. -/
import Derived.Test.YtnahhdbheeinfaaAlWrite
namespace Go.AL

def abox (P : Program) (H : List Row) (t : TypeId) (x : A) : Option (A × List Row) :=
  if P.cellsOf t ≠ 0 ∧ shp P t x then some (.pto H.length (P.cellsOf t) 0 0, H ++ [⟨t, P.cellsOf t, [x], 0, true⟩]) else none

theorem s_newVar {P : Program} {w : World} {F0 : Fz} {μ : Mu} {H H' : List Row} {t : TypeId} {x r : A} {v : Value} (hs : HS P w F0 μ H) (hx : Rep P w (Ft F0 μ H) μ x v) (h : abox P H t x = some (r, H')) :
    ∃ v' w', (do pure (.pointer (some (← newVar t v))) : Sem Value).run P w = .ok v' w' ∧ Res P w F0 μ H v' w' r H' ∧ Adv w NoF w' NoF := by
  unfold abox at h
  split at h
  · rename_i hc; cases h
    have hsz := (shp_cells hc.2 hx hc.1).1
    obtain ⟨h1, h2⟩ := hs.newRow (cells := v.cells) (es := [x]) (f := 0) (pushed_alloc w (.cells v.cells t)) rfl hc.1 (by simp [hsz]) (by
      intro k e he
      cases k with
      | zero => simp at he; subst he; exact ⟨hc.2, v, hx, fun j u hu => by simpa using hu⟩
      | succ k => simp at he)
    refine ⟨.pointer (some ⟨w.heap.size, 0, none⟩), w.alloc (.cells v.cells t), by simp [newVar, newRow], ⟨_, h1, h2, List.prefix_append _ _, ?_⟩, (pushed_alloc w _).adv NoF fun _ _ _ h => h⟩
    have := Rep.pto (P := P) (w := w.alloc (.cells v.cells t)) (F := Ft F0 (μ ++ [(w.heap.size, 0)]) (H ++ [⟨t, P.cellsOf t, [x], 0, true⟩])) (μ ++ [(w.heap.size, 0)]) H.length (P.cellsOf t) 0 0 w.heap.size 0 (by
      rw [List.getElem?_append_right (by rw [hs.len]; exact Nat.le_refl _), hs.len]; simp)
    simpa using this
  · cases h

def aalloc (P : Program) (H : List Row) (t : TypeId) : Option (A × List Row) :=
  (zbox P t).bind fun z => abox P H t z.1

theorem s_aalloc {P : Program} {w : World} {F0 : Fz} {μ : Mu} {H H' : List Row} {t : TypeId} {r : A} (hs : HS P w F0 μ H) (h : aalloc P H t = some (r, H')) :
    ∃ v' w', (Instr.alloc t true (.tuple #[])).run P w = .ok v' w' ∧ Res P w F0 μ H v' w' r H' ∧ Adv w NoF w' NoF := by
  obtain ⟨⟨z0, n⟩, hzb, h⟩ := Option.bind_eq_some_iff.1 h
  obtain ⟨inf, z, hi, hz, _, rfl, _⟩ := zbox_some hzb
  obtain ⟨v', w', h1, h2⟩ := s_newVar hs (rep_ofV z) h
  refine ⟨v', w', ?_, h2⟩
  simpa [Instr.alloc, zeroValue, typeInfo, hi, hz] using h1

/-! Cells of so many zero values. -/
theorem zeros_get (z : Array Value) (n k j : Nat) (u : Value) (hk : k < n) (hu : z[j]? = some u) : ((Array.range (n * z.size)).map (fun i => z[i % z.size]!))[k * z.size + j]? = some u := by
  have hj := (Array.getElem?_eq_some_iff.1 hu).1
  have hlt : k * z.size + j < n * z.size := by
    have := Nat.mul_le_mul_right z.size (show k + 1 ≤ n by omega)
    rw [Nat.add_mul] at this; omega
  have hm : (k * z.size + j) % z.size = j := by rw [Nat.mul_add_mod']; exact Nat.mod_eq_of_lt hj
  rw [Array.getElem?_map, Array.getElem?_range, if_pos hlt]
  simp only [Option.map_some, hm]
  rw [getElem!_def, hu]

def amake (P : Program) (H : List Row) (t : TypeId) (l c : A) : Option (A × List Row) :=
  match P.underlying t, l, c with
  | some (.slice e), .int .i64 l, .int .i64 c =>
    match zbox P e with
    | some (z, bytes) => if P.cellsOf e ≠ 0 ∧ shp P e z ∧ 0 ≤ l ∧ l ≤ c ∧ c ≤ 9223372036854775807 ∧ bytes * c ≤ 281474976710656 then
          some (.own H.length 0 l.toNat c.toNat true, H ++ [⟨e, P.cellsOf e, List.replicate c.toNat z, 0, true⟩]) else none
    | none => none
  | _, _, _ => none

theorem run_askRoom {P : Program} (w : World) (n : Nat) : (askRoom n).run P w = .ok () w := by
  unfold askRoom
  split
  · rfl
  · rfl

theorem s_amake {P : Program} {w : World} {F0 : Fz} {μ : Mu} {H H' : List Row} {t : TypeId} {l c r : A} {vl vc : Value} (hs : HS P w F0 μ H) (hl : Rep P w (Ft F0 μ H) μ l vl) (hc : Rep P w (Ft F0 μ H) μ c vc) (h : amake P H t l c = some (r, H')) :
    ∃ v' w', (Instr.makeSlice t vl vc).run P w = .ok v' w' ∧ Res P w F0 μ H v' w' r H' ∧ Adv w NoF w' NoF := by
  unfold amake at h
  split at h
  case h_2 => cases h
  rename_i e l c hu
  cases hl; cases hc
  split at h
  case h_2 => cases h
  rename_i z0 bytes hzb
  obtain ⟨inf, z, hi, hz, hzs, rfl, rfl⟩ := zbox_some hzb
  split at h
  case isFalse => cases h
  rename_i hcond
  obtain ⟨hnz, hsh, h0, hlc, hc63, hby⟩ := hcond
  cases h
  obtain ⟨L, rfl⟩ := Int.eq_ofNat_of_zero_le h0
  obtain ⟨C, rfl⟩ := Int.eq_ofNat_of_zero_le (show 0 ≤ c by omega)
  have hci := cellsOf_info hi
  have w1 : IntKind.i64.wrap (L : Int) = L := IntWalk.i64_in _ (by omega)
  have w2 : IntKind.i64.wrap (C : Int) = C := IntWalk.i64_in _ (by omega)
  have hrun : (Instr.makeSlice t (.int .i64 L) (.int .i64 C)).run P w = .ok (.slice (some ⟨w.heap.size, 0, none⟩) L C) (w.alloc (.cells ((Array.range (C * inf.size)).map (fun i => z.cells[i % z.cells.size]!)) e)) := by
    have hn1 : ¬ ((C : Int) < 0) := by omega
    have hn2 : ¬ (281474976710656 < (inf.bytes : Int) * C) := by omega
    have hn3 : ¬ ((L : Int) < 0) := by omega
    have hn4 : ¬ ((C : Int) < L) := by omega
    have hn4' : ¬ (C < L) := by omega
    by_cases hC : C = 0
    · subst hC
      have hL : L = 0 := by omega
      subst hL
      have w0 : IntKind.i64.wrap 0 = 0 := IntWalk.i64_in _ (by omega)
      simp [Instr.makeSlice, run_underlying hu, asInt, asIntOf, typeInfo, hi, w0, sizeOf, newRow]
      have hr0 : Array.range 0 = #[] := rfl
      rw [hr0]; simp only [Array.map_empty]
    · have hne : ¬ (C * inf.size = 0) := by
        intro h; rcases Nat.mul_eq_zero.1 h with h | h
        · exact hC h
        · rw [hci] at hnz; exact hnz h
      simp [Instr.makeSlice, run_underlying hu, asInt, asIntOf, typeInfo, hi, w1, w2, hn1, hn2, hn3, hn4', sizeOf, newRow, zeroValue, hz]
      intro hh; exact (hne hh).elim
  refine ⟨_, _, hrun, ?_, (pushed_alloc w _).adv NoF fun _ _ _ h => h⟩
  simp only [Int.toNat_natCast]
  have hfit : (List.replicate C (ofV z)).length * P.cellsOf e ≤ ((Array.range (C * inf.size)).map (fun i => z.cells[i % z.cells.size]!)).size := by simp [hci]
  obtain ⟨h1, h2⟩ := hs.newRow (es := List.replicate C (ofV z)) (f := 0) (pushed_alloc w (.cells ((Array.range (C * inf.size)).map (fun i => z.cells[i % z.cells.size]!)) e)) rfl hnz hfit (by
    intro k x hx
    have hk : k < C := by have := (List.getElem?_eq_some_iff.1 hx).1; simpa using this
    simp [hk] at hx
    subst hx
    refine ⟨hsh, z, rep_ofV z, fun j u hu' => ?_⟩
    have := zeros_get z.cells C k j u hk hu'
    rw [Nat.zero_add, hci, ← hzs]
    exact this)
  refine ⟨_, h1, h2, List.prefix_append _ _, ?_⟩
  have := Rep.own (P := P) (w := w.alloc (.cells ((Array.range (C * inf.size)).map (fun i => z.cells[i % z.cells.size]!)) e)) (F := Ft F0 (μ ++ [(w.heap.size, 0)]) (H ++ [⟨e, P.cellsOf e, List.replicate C (ofV z), 0, true⟩])) (μ ++ [(w.heap.size, 0)]) H.length 0 L C true w.heap.size 0 C e (C * inf.size) (by
      rw [List.getElem?_append_right (by rw [hs.len]; exact Nat.le_refl _), hs.len]; simp) (by
      simp only [World.shape?, (pushed_alloc w _).new]; simp) (by simp [hci]) (by omega) (Nat.le_refl _) (by rw [maxLen_eq]; omega) (by simp)
  simpa using this 0 (fun _ => by simp)

/-! A literal of a slice: every place is given, in order. -/
def apartsIn (P : Program) (e : TypeId) : Nat → List (Nat × A) → Bool
  | _, [] => true
  | k, (i, x) :: rest => i == k && shp P e x && apartsIn P e (k + 1) rest

def abuildSlice (P : Program) (H : List Row) (t : TypeId) (n : Nat) (parts : List (Nat × A)) : Option (A × List Row) :=
  match P.underlying t with
  | some (.slice e) =>
    match zbox P e with
    | some _ => if P.cellsOf e ≠ 0 ∧ n * P.cellsOf e ≤ 16777216 ∧ parts.length = n ∧ apartsIn P e 0 parts then
        some (.own H.length 0 n n true, H ++ [⟨e, P.cellsOf e, parts.map (·.2), 0, true⟩]) else none
    | none => none
  | _ => none

theorem s_fillAll {P : Program} {w : World} {F : Fz} {μ : Mu} {e : TypeId} (hnz : P.cellsOf e ≠ 0) : ∀ (parts : List (Nat × A)) (vparts : List (Nat × Value)) (k : Nat) (done : List A) (cs : Array Value),
    RepPs P w F μ parts vparts → apartsIn P e k parts = true → cs.size = (k + parts.length) * P.cellsOf e → Flat P w F μ e (P.cellsOf e) done (cs.toList.take (k * P.cellsOf e)) → done.length = k →
    ∃ vs', Instr.fill (fun i => some (i * P.cellsOf e, P.cellsOf e)) cs vparts = some vs' ∧ Flat P w F μ e (P.cellsOf e) (done ++ parts.map (·.2)) vs'.toList
  | [], [], k, done, cs, _, _, hsz, hfl, _ => by
    refine ⟨cs, rfl, ?_⟩
    rw [List.take_of_length_le (by simp at hsz ⊢; omega)] at hfl
    simpa using hfl
  | (i, x) :: rest, (i', v) :: vrest, k, done, cs, hp, hin, hsz, hfl, hd => by
    obtain ⟨rfl, hx, hrest⟩ := hp
    simp only [apartsIn, Bool.and_eq_true, beq_iff_eq] at hin
    obtain ⟨⟨rfl, hsh⟩, hin⟩ := hin
    simp only at hx hrest
    obtain ⟨hvs, hone⟩ := shp_cells hsh hx hnz
    have e1 : (i + (rest.length + 1)) * P.cellsOf e = i * P.cellsOf e + P.cellsOf e + rest.length * P.cellsOf e := by rw [Nat.add_mul, Nat.add_mul]; omega
    simp only [List.length_cons] at hsz
    simp only [Instr.fill]
    rw [if_neg (by simp; omega)]
    have hz : (v.cells.zipIdx.foldl (fun cs (c, j) => cs.setIfInBounds (i * P.cellsOf e + j) c) cs).toList = cs.toList.take (i * P.cellsOf e) ++ v.cells.toList ++ cs.toList.drop (i * P.cellsOf e + P.cellsOf e) := by
      have := foldl_cells v.cells.toList 0 (i * P.cellsOf e) cs (by simp; omega)
      rw [← Array.foldl_toList, Array.toList_zipIdx, this]
      simp [hvs]
    have hsz2 : (v.cells.zipIdx.foldl (fun cs (c, j) => cs.setIfInBounds (i * P.cellsOf e + j) c) cs).size = cs.size := by
      rw [← Array.length_toList, hz]; simp; omega
    obtain ⟨vs', h1, h2⟩ := s_fillAll hnz rest vrest (i + 1) (done ++ [x]) (v.cells.zipIdx.foldl (fun cs (c, j) => cs.setIfInBounds (i * P.cellsOf e + j) c) cs) hrest hin (by rw [hsz2, hsz]; congr 1; omega) (by
      rw [hz, Nat.add_mul, Nat.one_mul]
      have hl : (cs.toList.take (i * P.cellsOf e) ++ v.cells.toList).length = i * P.cellsOf e + P.cellsOf e := by simp; omega
      rw [List.take_append_of_le_length (by omega), List.take_of_length_le (by omega)]
      exact hfl.app ⟨v, [], by simp, hsh, hx, hvs, hone, rfl⟩) (by simp [hd])
    exact ⟨vs', h1, by simpa using h2⟩
  | [], _ :: _, _, _, _, hp, _, _, _, _ => hp.elim
  | _ :: _, [], _, _, _, hp, _, _, _, _ => hp.elim

theorem s_abuildSlice {P : Program} {w : World} {F0 : Fz} {μ : Mu} {H H' : List Row} {t : TypeId} {n : Nat} {parts : List (Nat × A)} {vparts : Array (Nat × Value)} {r : A} (hs : HS P w F0 μ H) (hp : RepPs P w (Ft F0 μ H) μ parts vparts.toList) (h : abuildSlice P H t n parts = some (r, H')) :
    ∃ v' w', (Instr.buildSlice t n vparts).run P w = .ok v' w' ∧ Res P w F0 μ H v' w' r H' ∧ Adv w NoF w' NoF := by
  unfold abuildSlice at h
  split at h
  case h_2 => cases h
  rename_i e hu
  split at h
  case h_2 => cases h
  rename_i zb hzb
  obtain ⟨z0, bytes⟩ := zb
  obtain ⟨inf, z, hi, hz, hzs, _, _⟩ := zbox_some hzb
  split at h
  case isFalse => cases h
  rename_i hc
  obtain ⟨hnz, hsm, hlen, hin⟩ := hc
  cases h
  have hci := cellsOf_info hi
  have key : ∀ zs : Array Value, ∃ vs', Instr.fill (fun i => some (i * P.cellsOf e, P.cellsOf e)) ((Array.range (n * P.cellsOf e)).map (fun i => zs[i % zs.size]!)) vparts.toList = some vs' ∧ Flat P w (Ft F0 μ H) μ e (P.cellsOf e) (parts.map (·.2)) vs'.toList := by
    intro zs
    have := s_fillAll (P := P) (w := w) (F := Ft F0 μ H) (μ := μ) hnz parts vparts.toList 0 [] ((Array.range (n * P.cellsOf e)).map (fun i => zs[i % zs.size]!)) hp hin (by simp [hlen]) (by simp [Flat]) rfl
    simpa using this
  have hrun : ∃ vs', Flat P w (Ft F0 μ H) μ e (P.cellsOf e) (parts.map (·.2)) vs'.toList ∧ (Instr.buildSlice t n vparts).run P w = .ok (.slice (some ⟨w.heap.size, 0, none⟩) n n) (w.alloc (.cells vs' e)) := by
    have hsm' : ¬ (16777216 < n * inf.size) := by rw [← hci]; omega
    by_cases hn : n * inf.size = 0
    · obtain ⟨vs', k1, k2⟩ := key #[]
      refine ⟨vs', k2, ?_⟩
      rw [hci] at k1
      simp only [hn] at k1
      simp [Instr.buildSlice, run_underlying hu, sizeOf, typeInfo, hi, hn, newRow]
      simp at k1
      rw [k1]; rfl
    · obtain ⟨vs', k1, k2⟩ := key z.cells
      refine ⟨vs', k2, ?_⟩
      rw [hci] at k1
      simp [Instr.buildSlice, run_underlying hu, sizeOf, typeInfo, hi, newRow, hsm', zeroValue, hz, hn]
      rw [k1]; rfl
  obtain ⟨vs', hfl, hrun⟩ := hrun
  refine ⟨_, _, hrun, ?_, (pushed_alloc w _).adv NoF fun _ _ _ h => h⟩
  have hlm : (parts.map (·.2)).length = n := by simp [hlen]
  have hfll := hfl.len
  have := newOwn hs (e := e) (cap := n) (es := parts.map (·.2)) (vals := vs'.toList) (pad := #[]) hnz hfl (by
      rw [maxLen_eq]
      have : n ≤ n * P.cellsOf e := Nat.le_mul_of_pos_right n (by omega)
      omega) (by rw [hfll, hlm]; simp) n true 0 (by omega) (Nat.le_refl _) (by simp) (w.alloc (.cells vs' e)) (by simpa using pushed_alloc w (.cells vs' e))
  obtain ⟨k1, k2, k3⟩ := this
  refine ⟨_, k1, k2, List.prefix_append _ _, ?_⟩
  rw [hlm] at k3
  exact k3
end Go.AL
