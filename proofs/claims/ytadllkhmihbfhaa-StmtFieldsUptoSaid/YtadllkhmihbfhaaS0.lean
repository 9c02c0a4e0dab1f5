/- The library's sort of texts, as a contract on one live row. -/
import Derived.Test.YtadllkhmihbfhaaTy
import Derived.Sort.Row
import Derived.Sort.Grow
import Derived.Sort.EncStr
namespace Go.Proofs.Ytadllkhmihbfhaa
open Go.AL

/-- What the library's sort does to texts in memory: the kit's contract. -/
def SortAt (P : Program) (f : FuncId) : Prop := callable P f = true ∧ ∀ (blk off cap : Nat) (ss : List (List UInt8)) (w : World), Go.Sort.Holds Go.Proofs.encStr w blk off ss.toArray → blk < w.heap.size → ss.length < 4611686018427387904 →
  Calls P f #[.slice (some ⟨blk, off, none⟩) ss.length cap] w fun e w' => e = .returned (.tuple #[]) ∧ ∃ n os, w' = Go.Sort.grow (Go.Sort.putRow Go.Proofs.encStr (Go.Sort.ahead w n) blk off (ss.mergeSort fun x y => decide (x ≤ y)).toArray) os
theorem putRow_eq (w : World) (n b off : Nat) (cur : Array Value) (t : TypeId) (fr : Nat × Nat) (d : Array (List UInt8)) (hc : w.heap[b]? = some (.cells cur t fr)) :
    Go.Sort.putRow Go.Proofs.encStr (Go.Sort.ahead w n) b off d = Go.Sort.ahead (w.setRow b (Go.Sort.putCells Go.Proofs.encStr off d cur)) n := by
  have hlt : b < w.heap.size := (Array.getElem?_eq_some_iff.1 hc).1
  have hv : w.heap[b] = .cells cur t fr := (Array.getElem?_eq_some_iff.1 hc).2
  unfold Go.Sort.putRow Go.Sort.mapBlock Go.Sort.ahead World.setRow
  simp only
  congr 1
  apply Array.ext
  · simp
  · intro i h1 h2
    simp only [Array.getElem_modify]
    split
    · rename_i hi
      subst hi
      rw [hv]
      rfl
    · rfl
theorem adv_grow (w : World) (n : Nat) (os : Array Obj) : Adv w NoF (Go.Sort.grow (Go.Sort.ahead w n) os) NoF := by
  have hb : ∀ b, b < w.heap.size → (Go.Sort.grow (Go.Sort.ahead w n) os).heap[b]? = w.heap[b]? := fun b hb => by
    show (w.heap ++ os)[b]? = _
    rw [Array.getElem?_append_left hb]
  refine ⟨rfl, rfl, rfl, ?_, ?_, fun _ _ _ h => h, ?_, fun b h _ => hb b h⟩
  · show w.heap.size ≤ (w.heap ++ os).size
    simp
  · intro b o u hu _
    have h1 := lt_of_cell hu
    simp only [World.cell?] at hu ⊢
    rw [hb b h1]
    exact hu
  · intro b t m hs
    unfold World.shape? at hs ⊢
    cases hq : w.heap[b]? with
    | none => rw [hq] at hs; cases hs
    | some o => rw [hb b (Array.getElem?_eq_some_iff.1 hq).1]; exact hs
theorem xc_sort {P : Program} {f : FuncId} {ty : TypeId} (hsa : SortAt P f) (hz : P.cellsOf ty = 1) (hag : aggT P ty = false) (l : List (List UInt8)) (hne : l ≠ []) (hlen : l.length < 4611686018427387904) :
    XCall P f [B 0 l] [RF ty l 0] (fun r H' => r = .tup [] ∧ H' = [RF ty (l.mergeSort fun x y => decide (x ≤ y)) 0]) := by
  refine ⟨hsa.1, fun w F0 μ vs hS hr => ?_⟩
  match vs, hr with
  | [v], hr =>
    obtain ⟨hr, _⟩ := hr
    have hrow : ([RF ty l 0] : List Row)[0]? = some ⟨ty, 1, l.map Enc.enc, 0, true⟩ := by rw [RF_ne hne]; rfl
    unfold B at hr
    have hie : l.isEmpty = false := by cases l with | nil => exact absurd rfl hne | cons _ _ => rfl
    rw [hie] at hr
    generalize hnn : l.length = nn at hr
    cases hr with
    | own _ _ _ _ _ _ b bs cap ty' n' hμ hsh hfit hlen' hcb hmax hex ao hat =>
      subst hnn
      obtain ⟨cur, c1, c2, c3, c4, c5⟩ := hS.cells hrow rfl hμ hsh
      simp only at c1 c2 c3 c4 c5
      have hcap : cap ≠ 0 := by
        have : 0 < l.length := List.length_pos_iff.2 hne
        omega
      have hty : ty' = ty := by
        simp only [World.shape?, c1] at hsh
        injection hsh with hsh
        injection hsh with h1 h2
        exact h1.symm
      subst hty
      have hao : ao = bs := by rw [hat hcap]; simp
      subst hao
      have hcell : ∀ j (hj : j < l.length), cur[ao + j]? = some (Go.Proofs.encStr l[j]) := fun j hj => by
        obtain ⟨_, V, k2, k3⟩ := c5 j (.str l[j]) (by rw [List.getElem?_map, List.getElem?_eq_getElem hj]; rfl)
        cases k2
        have := k3 0 (Go.Proofs.encStr l[j]) rfl
        simpa using this
      have hH : Go.Sort.Holds Go.Proofs.encStr w b ao l.toArray := fun j hj => by
        have hj' : j < l.length := by simpa using hj
        refine ⟨?_, ?_⟩
        · simp only [World.cell?, c1]
          have := hcell j hj'
          simp only [List.getElem!_toArray, hj', getElem!_pos]
          simpa using this
        · simp [World.frozen?, c1]
      have hlt : b < w.heap.size := (Array.getElem?_eq_some_iff.1 c1).1
      refine (hsa.2 b ao cap l w hH hlt hlen).mono ?_
      rintro e w' ⟨rfl, n, os, rfl⟩
      refine ⟨_, .tup [], _, rfl, ⟨rfl, rfl⟩, ?_⟩
      have hsl : (l.mergeSort fun x y => decide (x ≤ y)).length = l.length := List.length_mergeSort l
      have hsne : (l.mergeSort fun x y => decide (x ≤ y)) ≠ [] := by
        intro q
        rw [q] at hsl
        have : 0 < l.length := List.length_pos_iff.2 hne
        simp at hsl
        omega
      generalize (l.mergeSort fun x y => decide (x ≤ y)) = m at *
      have hput : ∀ k, (Go.Sort.putCells Go.Proofs.encStr ao m.toArray cur)[k]? = if ao ≤ k ∧ k < ao + m.length then (if k < cur.size then some (Go.Proofs.encStr m.toArray[k - ao]!) else none) else cur[k]? := fun k => by
        unfold Go.Sort.putCells
        rw [Array.getElem?_mapIdx]
        by_cases hk : k < cur.size
        · rw [Array.getElem?_eq_getElem hk]
          simp only [Option.map_some, List.size_toArray, hk, if_true]
          split <;> rfl
        · rw [Array.getElem?_eq_none (by omega)]
          simp [hk]
      have hwr := hS.write (es' := m.map Enc.enc) hrow rfl hμ c1 (w' := w.setRow b (Go.Sort.putCells Go.Proofs.encStr ao m.toArray cur)) rfl (by simp [Go.Sort.putCells]) (by
        intro o ho
        simp only [Nat.zero_mul, Nat.add_zero] at ho
        rw [hput, if_neg (by omega)]) (by simpa [hsl] using c4) (by
        intro k e he
        rw [List.getElem?_map] at he
        obtain ⟨y, hy, rfl⟩ := Option.map_eq_some_iff.1 he
        obtain ⟨hk, rfl⟩ := List.getElem?_eq_some_iff.1 hy
        refine ⟨by simp [shp, hag, hz, Enc.enc], Go.Proofs.encStr m[k], .str _ _, fun j u hu => ?_⟩
        have hj : j = 0 := by
          have := (Array.getElem?_eq_some_iff.1 hu).1
          simp [Value.cells] at this
          exact this
        subst hj
        have hu' : u = Go.Proofs.encStr m[k] := by simpa [Value.cells] using hu.symm
        have hb1 : ao + k < cur.size := by simp at c4; omega
        show (Go.Sort.putCells Go.Proofs.encStr ao m.toArray cur)[ao + k * 1 + 0]? = some u
        rw [Nat.mul_one, Nat.add_zero, hput, if_pos (by omega), if_pos (by omega), hu']
        simp [hk])
      obtain ⟨g1, g2⟩ := hwr
      rw [putRow_eq w n b ao cur ty' (0, 0) _ c1]
      have hadv := adv_grow (w.setRow b (Go.Sort.putCells Go.Proofs.encStr ao m.toArray cur)) n os
      have hset : ([RF ty' l 0] : List Row).set 0 ⟨ty', 1, m.map Enc.enc, 0, true⟩ = [RF ty' m 0] := by rw [RF_ne hsne]; rfl
      simp only at g1 g2
      rw [hset] at g1 g2
      exact ⟨μ, g1.ofNo hadv, g2.trans (hadv.ofNo _), List.prefix_refl _, .tup _ [] [] rfl (by simp)⟩
  | [], hr => exact hr.elim
  | _ :: _ :: _, hr => exact hr.2.elim

end Go.Proofs.Ytadllkhmihbfhaa
