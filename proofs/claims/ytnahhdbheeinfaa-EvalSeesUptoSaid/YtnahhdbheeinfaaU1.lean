/- What came in, and its bulk: the slices in a struct are no longer than the bulk of what is read. -/
import Derived.Test.YtnahhdbheeinfaaRows
import Derived.Test.YtnahhdbheeinfaaTy
namespace Go.Proofs.Ytnahhdbheeinfaa
open Go.AL Go.ChangeShapes Go.WideShapes Go.ChangeAt Go.RowKit

theorem bulk_pos {H : Type} (d : DataW H) : 1 ≤ Rows.uptoBulk d := by
  cases d with
  | lit l => cases l <;> simp [Rows.uptoBulk]
  | _ => simp [Rows.uptoBulk]
theorem bulkAll_len {H : Type} : ∀ l : List (DataW H), l.length ≤ Rows.uptoBulkAll l
  | [] => by simp
  | d :: r => by
    have h1 := bulk_pos d
    have h2 := bulkAll_len r
    simp only [List.length_cons, Rows.uptoBulkAll]
    omega
theorem bulkAll_mem {H : Type} : ∀ {l : List (DataW H)} {d : DataW H}, d ∈ l → Rows.uptoBulk d ≤ Rows.uptoBulkAll l
  | [], _, hd => by cases hd
  | x :: r, d, hd => by
    simp only [Rows.uptoBulkAll]
    rcases List.mem_cons.1 hd with rfl | hd
    · omega
    · have := bulkAll_mem hd
      omega
theorem bulk_slice {H : Type} {enc : TypeId × Value → H} {P : Program} {w : World} {fuel : Nat} {t e : TypeId} {v : Value} {d : DataW H} {ps : List MemPlace} {f : Bool} {es : List A} (ht : P.underlying t = some (.slice e)) (hd : DataW.trod enc P w 0 (fun _ => true) true fuel t [v] = some (d, ps)) (hr : Rep P w NoF [] (.sl f es) v) : es.length ≤ Rows.uptoBulk d := by
  cases fuel with
  | zero => cases hd
  | succ n =>
    cases hr with
    | slnil => simp
    | sl _ _ _ b off len cap sz V hn hcap hmax hfull hsz hrep hcell =>
      unfold DataW.trod at hd
      rw [ht] at hd
      simp only at hd
      split at hd
      case isFalse => cases hd
      obtain ⟨elems, hel, hd⟩ := Option.bind_eq_some_iff.1 hd
      obtain ⟨rest, hrest, hd⟩ := Option.map_eq_some_iff.1 hd
      have h1 := mapM_some_length hel
      have h2 := bulkAll_len (elems.map (·.1))
      simp only [Prod.mk.injEq] at hd
      rw [← hd.1]
      simp only [Rows.uptoBulk]
      simp only [List.length_range, List.length_map] at h1 h2
      omega
theorem bulk_field {H : Type} {enc : TypeId × Value → H} {P : Program} {w : World} {t e e' : TypeId} {off : Nat} {v : Value} {d : DataW H} {ps : List MemPlace} {cs : List A} {f : Bool} {es : List A} {l : List (TypeId × Nat)} (hl : ftl P t = some l) (hm : (e, off) ∈ l) (he : P.underlying e = some (.slice e')) (h1 : P.cellsOf e = 1) (hc : cs[off]? = some (.sl f es)) (hd : DataW.Trod enc P w 0 (fun _ => true) true t v d ps) (hr : Rep P w NoF [] (.agg cs) v) : es.length ≤ Rows.uptoBulk d := by
  obtain ⟨fuel, hd⟩ := hd
  cases hr with
  | agg _ _ vs hlen hone hrep =>
    cases fuel with
    | zero => cases hd
    | succ n =>
      unfold ftl at hl
      split at hl
      case h_2 => cases hl
      rename_i fs hfs
      cases hl
      unfold DataW.trod at hd
      rw [hfs] at hd
      simp only at hd
      split at hd
      case isFalse => cases hd
      obtain ⟨xs, hxs, hd⟩ := Option.map_eq_some_iff.1 hd
      simp only [Prod.mk.injEq] at hd
      rw [← hd.1]
      obtain ⟨fd, hfd, hq⟩ := List.mem_map.1 hm
      obtain ⟨i, hi, rfl⟩ := List.getElem_of_mem hfd
      have hget := mapM_some_get hxs i _ (List.getElem?_eq_getElem hi)
      have hix : i < xs.length := by rw [mapM_some_length hxs]; exact hi
      rw [List.getElem?_eq_getElem hix] at hget
      simp only [Prod.mk.injEq] at hq
      rw [hq.1, hq.2, h1] at hget
      have hoff : off < vs.length := by rw [hlen]; exact (List.getElem?_eq_some_iff.1 hc).1
      have hu : (vs.drop off).take 1 = [vs[off]] := by rw [List.drop_eq_getElem_cons hoff]; rfl
      have hv : (Value.agg ⟨vs⟩).cells.toList = vs := rfl
      rw [hv, hu] at hget
      have h2 := bulk_slice he (d := xs[i].1) (ps := xs[i].2) hget (hrep off _ _ hc (List.getElem?_eq_getElem hoff))
      have h3 := bulkAll_mem (List.mem_map.2 ⟨xs[i], List.getElem_mem hix, rfl⟩ : xs[i].1 ∈ xs.map (·.1))
      simp only [Rows.uptoBulk]
      omega
end Go.Proofs.Ytnahhdbheeinfaa
