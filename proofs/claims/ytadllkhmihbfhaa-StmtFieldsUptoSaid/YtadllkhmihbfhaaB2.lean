/- What came in, of whatever type, and its bulk: the reading of the layer (AL/Open), with what the reading weighs. -/
import Derived.Test.YtadllkhmihbfhaaB1
namespace Go.Proofs.Ytadllkhmihbfhaa
open Go.AL Go.ChangeShapes Go.WideShapes Go.ChangeAt Go.RowKit

theorem bulk_pos {H : Type} (d : DataW H) : 1 ≤ Rows.uptoBulk d := by
  cases d with
  | lit l => cases l <;> simp [Rows.uptoBulk]
  | _ => simp [Rows.uptoBulk]
theorem wC_pack {P : Program} (e : TypeId) (cs : List A) : wC (packA P e cs) ≤ wK cs := by
  unfold packA
  split
  · rw [wC_agg]; exact Nat.le_refl _
  · cases cs with
    | nil => rw [wK_nil]; simp [wC]
    | cons c cs => rw [wK_cons]; exact Nat.le_add_right _ _
theorem wS_bulk {H : Type} : ∀ (xs : List A) (ds : List (DataW H)), xs.length = ds.length → (∀ (i : Nat) (x : A) (d : DataW H), xs[i]? = some x → ds[i]? = some d → 1 + wC x ≤ Rows.uptoBulk d) → wS xs ≤ Rows.uptoBulkAll ds
  | [], ds, _, _ => by rw [wS_nil]; omega
  | x :: xs, [], h, _ => by simp at h
  | x :: xs, d :: ds, h, hh => by
    rw [wS_cons]
    simp only [Rows.uptoBulkAll]
    have h1 := hh 0 x d rfl rfl
    have h2 := wS_bulk xs ds (by simpa using h) fun i y e hy he => hh (i + 1) y e (by simpa using hy) (by simpa using he)
    omega
/-- What is read as data, stands for an abstract value of its type. -/
theorem open_cellsB {H : Type} {enc : TypeId × Value → H} {P : Program} {w : World} {S : List TypeId} (hS : ∀ t ∈ S, plainT P S t = true) (hNA : ∀ t ∈ S, ∀ m e, P.underlying t ≠ some (.array m e)) :
    ∀ (fuel : Nat) (t : TypeId) (vs : List Value) (d : DataW H) (ps : List MemPlace), t ∈ S → DataW.trod enc P w 0 (fun _ => true) true fuel t vs = some (d, ps) →
      vs.length = P.cellsOf t ∧ ∃ cs, RepCs P w cs vs ∧ WTc P fuel t cs ∧ wK cs + 1 ≤ Rows.uptoBulk d
  | 0, _, _, _, _, _, h => by cases h
  | n + 1, t, vs, d, ps, ht, h => by
    have hbp := bulk_pos d
    have hp := hS t ht
    unfold DataW.trod at h
    unfold plainT at hp
    have one : ∀ {v : Value} {a : A}, v.oneCell' = true → Rep P w NoF [] a v → RepCs P w [a] [v] := by
      intro v a h1 hr
      refine ⟨rfl, by simpa using h1, ?_⟩
      intro i c u hc hu
      cases i with
      | zero => simp at hc hu; subst hc hu; exact hr
      | succ i => simp at hc
    cases hu : P.underlying t with
    | none => rw [hu] at hp; cases hp
    | some k =>
      rw [hu] at h hp
      cases k with
      | bool =>
        obtain ⟨b, rfl⟩ : ∃ b, vs = [.bool b] := by split at h <;> simp_all
        simp at hp
        exact ⟨by simp [hp], [.bool b], one rfl (.bool _ _), by simp [WTc, hu], by simp only [wK_cons, wK_nil, wC]; omega⟩
      | int k =>
        obtain ⟨z, rfl, hw⟩ : ∃ z, vs = [.int k z] ∧ (Lit.int k z).wf = true := by
          split at h <;> simp_all
        simp at hp
        exact ⟨by simp [hp], [.int k z], one rfl (.int _ _ _), by simp [WTc, hu, hw], by simp only [wK_cons, wK_nil, wC]; omega⟩
      | string =>
        obtain ⟨s, rfl, hl⟩ : ∃ s, vs = [.string s] ∧ s.size ≤ maxLen := by
          split at h <;> simp_all
        simp at hp
        obtain ⟨⟨l⟩⟩ := s
        exact ⟨by simp [hp], [.str l], one rfl (.str _ _), by simp only [WTc, hu]; exact ⟨l, rfl, hl⟩, by simp only [wK_cons, wK_nil, wC]; omega⟩
      | slice e =>
        simp only [Bool.and_eq_true, beq_iff_eq, bne_iff_ne, List.contains_iff_mem] at hp
        obtain ⟨⟨hp1, hp2⟩, hp3⟩ := hp
        have hcase : vs = [.slice none 0 0] ∨ ∃ a len cap, vs = [.slice (some a) len cap] := by
          split at h <;> simp_all
        rcases hcase with rfl | ⟨a, len, cap, rfl⟩
        · refine ⟨by simp [hp1], [.sl false []], one rfl (.slnil _ _ _), ?_, by simp only [wK_cons, wK_nil, wC, wS_nil]; omega⟩
          simp only [WTc, hu]
          exact ⟨[], by simp, by simp, by simp⟩
        · simp only at h
          split at h
          case isFalse => cases h
          rename_i hb
          obtain ⟨elems, hel, h⟩ := Option.bind_eq_some_iff.1 h
          obtain ⟨rest, hrest, h⟩ := Option.map_eq_some_iff.1 h
          refine ⟨by simp [hp1], ?_⟩
          have hat : ∀ i, ∃ q : List A × List Value, i < cap → RepCs P w q.1 q.2 ∧ q.2.length = P.cellsOf e ∧ WTc P n e q.1 ∧ (∀ hx : i < elems.length, wK q.1 + 1 ≤ Rows.uptoBulk elems[i].1) ∧ ∀ j, j < P.cellsOf e → w.cell? ((a.add (i * P.cellsOf e)).add j) = q.2[j]? := by
            intro i
            by_cases hi : i < cap
            · have hy : ∃ y, (w.cells? 0 (a.add (i * P.cellsOf e)) (P.cellsOf e)).bind (DataW.trod enc P w 0 (fun _ => true) true n e) = some y ∧ ∀ hx : i < elems.length, y = elems[i] := by
                by_cases hil : i < len
                · have := mapM_some_get hel i i (by simp [hil])
                  rw [List.getElem?_eq_getElem (by rw [mapM_some_length hel]; simpa using hil)] at this
                  exact ⟨_, this, fun _ => rfl⟩
                · rw [if_pos trivial] at hrest
                  have := mapM_some_get hrest (i - len) (i - len) (List.getElem?_range (by omega))
                  rw [List.getElem?_eq_getElem (by rw [mapM_some_length hrest, List.length_range]; omega)] at this
                  rw [show len + (i - len) = i by omega] at this
                  exact ⟨_, this, fun hx => by rw [mapM_some_length hel, List.length_range] at hx; omega⟩
              obtain ⟨y, hy, hye⟩ := hy
              obtain ⟨us, hus, hy⟩ := Option.bind_eq_some_iff.1 hy
              obtain ⟨_, h2, h3⟩ := World.cells?_some hus
              obtain ⟨h4, cs, h5, h6, h7⟩ := open_cellsB hS hNA n e us y.1 y.2 hp3 hy
              exact ⟨(cs, us), fun _ => ⟨h5, h4, h6, fun hx => by rw [← hye hx]; exact h7, h3⟩⟩
            · exact ⟨([], []), fun h => (hi h).elim⟩
          by_cases hcap : cap = 0
          · have hl : len = 0 := by omega
            subst hl hcap
            refine ⟨[.sl false []], one rfl (.slnil _ _ _), ?_, by simp only [wK_cons, wK_nil, wC, wS_nil]; omega⟩
            simp only [WTc, hu]
            exact ⟨[], by simp, by simp, by simp⟩
          · obtain ⟨f, hf⟩ := Classical.axiomOfChoice hat
            have hspot : a.spot = none := by
              obtain ⟨_, h4, _, _, h3⟩ := hf 0 (by omega)
              have := h3 0 (by omega)
              rw [List.getElem?_eq_getElem (by omega)] at this
              simp only [Nat.zero_mul, Addr.add, if_true] at this
              unfold World.cell? at this
              split at this
              · split at this
                · cases this
                · rename_i hns; simpa using hns
              · cases this
            obtain ⟨b, off, sp⟩ := a
            simp only at hspot
            subst hspot
            have hpe := hS e hp3
            have hpk : ∀ i, i < cap → (packA P e (f i).1).ncells = P.cellsOf e ∧ (packV P e (f i).2).cells.toList = (f i).2 := by
              intro i hi
              obtain ⟨g1, g2, g3, _, _⟩ := hf i hi
              unfold packA packV
              cases hag : aggT P e with
              | true => simp only [if_true, A.ncells, Value.cells]; exact ⟨by rw [← g1.1, g2], trivial⟩
              | false =>
                have h1 := plainT_one hpe hag
                rw [h1] at g2
                have hcl : (f i).1.length = 1 := by rw [← g1.1, g2]
                generalize (f i).1 = cs at g1 g3 hcl
                generalize (f i).2 = us at g1 g2
                match cs, us, hcl, g2 with
                | [c], [u], _, _ =>
                  have hone := g1.2.1 u (by simp)
                  refine ⟨?_, ?_⟩
                  · simp only [Bool.false_eq_true, if_false, List.headD_cons]
                    rw [h1]
                    cases n with
                    | zero => exact g3.elim
                    | succ n =>
                      unfold WTc at g3
                      unfold aggT at hag
                      split at g3
                      · obtain ⟨_, g3⟩ := g3; cases g3; rfl
                      · obtain ⟨_, g3, _⟩ := g3; cases g3; rfl
                      · obtain ⟨_, g3, _⟩ := g3; cases g3; rfl
                      · obtain ⟨_, g3, _⟩ := g3; cases g3; rfl
                      · rename_i hh; rw [hh] at hag; cases hag
                      · rename_i hh; rw [hh] at hag; cases hag
                      · exact g3.elim
                  · simp only [Bool.false_eq_true, if_false, List.headD_cons]
                    cases u <;> simp_all [Value.cells, Value.oneCell']
            refine ⟨[.sl false (((List.range len).map fun i => (f i).1).map (packA P e))], one rfl ?_, ?_, ?_⟩
            · have hget : ∀ (i : Nat) (x : A), (((List.range len).map fun i => (f i).1).map (packA P e))[i]? = some x → i < len ∧ x = packA P e (f i).1 := by
                intro i x hx
                simp only [List.getElem?_map, List.map_map] at hx
                obtain ⟨k, hk, rfl⟩ := Option.map_eq_some_iff.1 hx
                obtain ⟨hk1, hk2⟩ := List.getElem?_eq_some_iff.1 hk
                simp at hk1 hk2
                subst hk2
                exact ⟨hk1, rfl⟩
              refine .sl _ _ _ b off len cap (P.cellsOf e) (fun i => packV P e (f i).2) (by simp) hb.2.1 hb.2.2 (by simp) ?_ ?_ ?_
              · intro i x hx
                obtain ⟨hi, rfl⟩ := hget i x hx
                exact (hpk i (by omega)).1
              · intro i x hx
                obtain ⟨hi, rfl⟩ := hget i x hx
                obtain ⟨g1, g2, _, _⟩ := hf i (by omega)
                exact g1.pack fun hag => by rw [← g1.1, g2, plainT_one hpe hag]
              · intro i x hx j u hju
                obtain ⟨hi, rfl⟩ := hget i x hx
                obtain ⟨g1, g2, _, _, g4⟩ := hf i (by omega)
                have hju' : (f i).2[j]? = some u := by rw [← (hpk i (by omega)).2]; simpa using hju
                have hj : j < P.cellsOf e := by rw [← g2]; exact (List.getElem?_eq_some_iff.1 hju').1
                refine ⟨g1.2.1 u (List.mem_of_getElem? hju'), ?_, fun hf => hf⟩
                have := g4 j hj
                rw [Addr.add_lit, Addr.add_lit] at this
                rw [this, hju']
            · simp only [WTc, hu]
              refine ⟨(List.range len).map fun i => (f i).1, rfl, by simp; omega, ?_⟩
              intro el hel
              obtain ⟨i, hi, rfl⟩ := List.mem_map.1 hel
              exact (hf i (by have := List.mem_range.1 hi; omega)).2.2.1
            · simp only [Prod.mk.injEq] at h
              rw [← h.1]
              simp only [wK_cons, wK_nil, wC_sl, Rows.uptoBulk]
              have hell : elems.length = len := by rw [mapM_some_length hel, List.length_range]
              have := wS_bulk (((List.range len).map fun i => (f i).1).map (packA P e)) (elems.map (·.1)) (by simp [hell]) (fun i x d hx hd => by
                simp only [List.getElem?_map, List.map_map] at hx
                obtain ⟨k, hk, rfl⟩ := Option.map_eq_some_iff.1 hx
                obtain ⟨hk1, hk2⟩ := List.getElem?_eq_some_iff.1 hk
                simp at hk1 hk2
                subst hk2
                rw [List.getElem?_map, List.getElem?_eq_getElem (by rw [hell]; exact hk1)] at hd
                cases hd
                have h1 := (hf i (by omega)).2.2.2.1 (by rw [hell]; exact hk1)
                have h2 := wC_pack (P := P) e (f i).1
                exact Nat.le_trans (Nat.add_le_add_left h2 1) (by rw [Nat.add_comm]; exact h1))
              omega
      | struct fs =>
        simp only at h
        split at h
        case isFalse => cases h
        rename_i hl
        obtain ⟨xs, hxs, h⟩ := Option.map_eq_some_iff.1 h
        refine ⟨hl, ?_⟩
        have le : ∀ (fs : List Field) (o m : Nat), tiled P S fs o m = true → o ≤ m := by
          intro fs
          induction fs with
          | nil => intro o m h; simp [tiled] at h; omega
          | cons g gs ih => intro o m h; simp only [tiled, Bool.and_eq_true] at h; have := ih _ _ h.2; omega
        have key : ∀ (fs : List Field) (off : Nat) (xs : List (DataW H × List MemPlace)), tiled P S fs off (P.cellsOf t) = true → fs.mapM (fun f => DataW.trod enc P w 0 (fun _ => true) true n f.type ((vs.drop f.offset).take (P.cellsOf f.type))) = some xs →
            ∃ cs, RepCs P w cs (vs.drop off) ∧ (∀ f ∈ fs, off ≤ f.offset ∧ WTc P n f.type ((cs.drop (f.offset - off)).take (P.cellsOf f.type))) ∧ wK cs ≤ Rows.uptoBulkAll (xs.map (·.1)) := by
          intro fs
          induction fs with
          | nil =>
            intro off xs ht _
            simp [tiled] at ht
            refine ⟨[], ?_, by simp, by rw [wK_nil]; omega⟩
            rw [List.drop_eq_nil_of_le (by omega)]
            exact ⟨rfl, by simp, by simp⟩
          | cons g gs ih =>
            intro off xs ht hx
            simp only [tiled, Bool.and_eq_true, beq_iff_eq, List.contains_iff_mem] at ht
            obtain ⟨⟨h1, h2⟩, h3⟩ := ht
            rw [List.mapM_cons] at hx
            simp only [bind, Option.bind_eq_some_iff, pure, Option.some.injEq] at hx
            obtain ⟨y, hy, ys, hys, rfl⟩ := hx
            obtain ⟨k1, cs1, k2, k3, k6⟩ := open_cellsB hS hNA n g.type _ y.1 y.2 h2 hy
            obtain ⟨cs2, k4, k5, k7⟩ := ih _ ys h3 hys
            rw [h1] at k1 k2
            have hcl : cs1.length = P.cellsOf g.type := by rw [← k2.1, k1]
            have hsplit : vs.drop off = (vs.drop off).take (P.cellsOf g.type) ++ vs.drop (off + P.cellsOf g.type) := by
              rw [← List.drop_drop, List.take_append_drop]
            refine ⟨cs1 ++ cs2, by rw [hsplit]; exact k2.app k4, ?_, by rw [wK_app, List.map_cons]; simp only [Rows.uptoBulkAll]; omega⟩
            intro f hf
            rcases List.mem_cons.1 hf with rfl | hf
            · refine ⟨by omega, ?_⟩
              rw [h1, Nat.sub_self, List.drop_zero, List.take_append_of_le_length (by omega), List.take_of_length_le (by omega)]
              exact k3
            · obtain ⟨g1, g2⟩ := k5 f hf
              refine ⟨by omega, ?_⟩
              rw [List.drop_append, List.drop_eq_nil_of_le (by omega), List.nil_append, show f.offset - off - cs1.length = f.offset - (off + P.cellsOf g.type) by omega]
              exact g2
        obtain ⟨cs, k1, k2, k8⟩ := key fs.toList 0 xs hp hxs
        refine ⟨cs, by simpa using k1, ?_, by simp only [Prod.mk.injEq] at h; rw [← h.1]; simp only [Rows.uptoBulk]; omega⟩
        simp only [WTc, hu]
        refine ⟨by rw [← k1.1]; simpa using hl, fun f hf => ?_⟩
        have := (k2 f hf).2
        simpa using this
      | array m e => exact absurd hu (hNA t ht m e)
      | _ => cases hp
theorem open_allB {H : Type} {enc : TypeId × Value → H} {P : Program} {w : World} {r : Reach} {base : Nat} {S : List TypeId} (hS : ∀ t ∈ S, plainT P S t = true) (hNA : ∀ t ∈ S, ∀ m e, P.underlying t ≠ some (.array m e)) : ∀ {params : List TypeId} {vs : List Value} {ds : List (DataW H)} {ps : List MemPlace}, (∀ t ∈ params, t ∈ S) →
    (∀ (j : Nat) t v, params[j]? = some t → vs[j]? = some v → Value.okWide P w r base t v) → DataW.TrodAll enc P w 0 (fun _ => true) true params vs ds ps → ∃ az, RepL P w NoF [] az vs ∧ WTL P params az ∧ wK az ≤ Rows.uptoBulkAll ds
  | [], [], [], _, _, _, _ => ⟨[], trivial, trivial, by rw [wK_nil]; omega⟩
  | t :: ts, v :: vs, d :: ds, ps, hp, hv, h => by
    obtain ⟨p, q, h1, h2, _⟩ := h
    obtain ⟨fuel, hf⟩ := h1
    obtain ⟨az, k1, k2, k3⟩ := open_allB hS hNA (fun t ht => hp t (by simp [ht])) (fun j t v ht hv' => hv (j + 1) t v (by simpa using ht) (by simpa using hv')) h2
    have ht := hp t (by simp)
    obtain ⟨hl, cs, g1, g2, g3⟩ := open_cellsB hS hNA fuel t _ _ _ ht hf
    have hpk := okWide_pack (hS t ht) (hv 0 t v rfl rfl)
    have hr := g1.pack (e := t) fun hag => by rw [← g1.1, hl]; exact plainT_one (hS t ht) hag
    rw [← hpk] at hr
    have hw := wC_pack (P := P) t cs
    exact ⟨_ :: az, ⟨hr, k1⟩, ⟨⟨fuel, cs, g2, rfl⟩, k2⟩, by rw [wK_cons]; simp only [Rows.uptoBulkAll]; omega⟩
  | [], _ :: _, _, _, _, _, h => h.elim
  | [], [], _ :: _, _, _, _, h => h.elim
  | _ :: _, [], _, _, _, _, h => h.elim
  | _ :: _, _ :: _, [], _, _, _, h => h.elim
end Go.Proofs.Ytadllkhmihbfhaa
