/- Chapter 41: seq.Order, over any program that has the text. -/
import Derived.Test.YtacfckmhnnhllaaE14
import Derived.Test.YtacfckmhnnhllaaT5
namespace Go.Proofs.Ytacfckmhnnhllaa
open Go.AL
variable {P : Program} [h : Facts P]

def enN (es : List TEvent) : List Tentry := es.map fun e => ⟨e, []⟩
theorem enN_take {es : List TEvent} {k : Nat} (hk : k < es.length) : enN (es.take (k + 1)) = enN (es.take k) ++ [⟨es[k], []⟩] := by
  unfold enN
  rw [List.take_succ_eq_append_getElem hk, List.map_append]
  rfl
theorem enN_nil : enN [] = [] := rfl
theorem enN_len (es : List TEvent) : (enN es).length = es.length := by simp [enN]
theorem leRow_snoc {α : Type} [Enc α] {ids : List Nat} {n : Nat} {H : List Row} {j : Nat} (ty : TypeId) (l : List α) (x : α) (a : A) (f f' : Nat) (hf : f' ≤ f) (ha : leA ids a (Enc.enc x)) (h : H[j]? = some ⟨ty, Enc.sz α, l.map Enc.enc ++ [a], f', true⟩) : leRow ids n H j (RF ty (l ++ [x]) f) := by
  rw [RF_ne (by simp)]
  refine .inr (.inl ⟨_, h, rfl, rfl, rfl, hf, ?_, ?_, ?_, ?_⟩)
  · simp only [List.map_append, List.map_cons, List.map_nil]
    exact leL_app (leL_noid (noidL_enc l)) ⟨ha, trivial⟩
  · exact hasRL_noid (noidL_enc _)
  · simp
  · exact Enc.pos
theorem noid_RF {α : Type} [Enc α] (ty : TypeId) (m : List α) : noidL (RF ty m 0).es = true := by
  cases m with
  | nil => rfl
  | cons x m =>
    rw [RF_ne (by simp)]
    exact noidL_enc _
theorem RF_live {α : Type} [Enc α] (ty : TypeId) (l : List α) : (RF ty l 0).live = !l.isEmpty := by cases l <;> rfl
theorem reA_tup (id : Nat) : reA id (.tup []) = .tup [] := rfl
/-- A sort on one row, as a call on it among others. -/
theorem sort_frame {α : Type} [Enc α] {P : Program} {f : FuncId} {gs : List A} {ty : TypeId} {l l' : List α} (e : l'.length = l.length) (hx : XCall P f gs [RF ty l 0] (fun r H' => r = .tup [] ∧ H' = [RF ty l' 0])) :
    XCall P f gs [RF ty l 0] (fun r H' => ∃ r1 k, H' = r1 :: List.replicate k dead0 ∧ (r1.live = true → (RF ty l 0).live = true) ∧ noidL r1.es = true ∧ frmd r = true ∧ (r = .tup [] ∧ r1 = RF ty l' 0)) := by
  refine hx.mono ?_
  rintro _ _ ⟨rfl, rfl⟩
  refine ⟨_, 0, rfl, fun g => ?_, noid_RF ty l', rfl, rfl, rfl⟩
  rw [RF_live] at g ⊢
  have : l'.isEmpty = l.isEmpty := by rw [Bool.eq_iff_iff, List.isEmpty_iff_length_eq_zero, List.isEmpty_iff_length_eq_zero, e]
  rw [← this]
  exact g
set_option maxHeartbeats 4000000 in
theorem c_Order (es : List TEvent) (hl : es.length ≤ 100000) : FCall P 43 [Ls false es, .sl false []] (fun r => r = .agg [Ls false (isrt (ltOf ofE) es), .sl false []]) := by
  refine fcall_of h.f43 rfl (by decide) h.mo (by kernel_rfl) fun X hX => ?_
  simp
  refine awp_loop (σ := Nat) (fun k => (⟨[.any, .sl false [], .any, .any, .pto 0 2 0 0, B 1 (enN (es.take k)), .any, .any, .any, .any, .any, .any, Ls false es, .int .i64 es.length, .int .i64 k, .any, .any, .any, .any, .any, .any, .any, .any, .any, .any, .any, .any, .any, .any, .any, .any, .any, .any, .any, .any, .any, .any, .any, .any, .any, .any, .any, .any, .any, .any, .any, .any, .any, .any, .any, .any, .any, .any, .any, .any, .any, .any, .any], [⟨25, 2, [.agg [.sl true [], .sl true []]], 0, true⟩, RF 82 (enN (es.take k)) 0]⟩ : S)) (fun k => k ≤ es.length) (fun k => es.length - k) 0 (Wk.ren 0 [0, 1] hX rfl (by decide) (by simp [enN_nil]) (by simp) (by simp) (by simp [enN_nil])) (by omega) ?_
  rintro k hk
  refine vc_sound h.mo _ _ _ (by kernel_rfl) ?_
  rcases Nat.lt_or_ge k es.length with hlt | hge
  · have hk1 := wrap_succ hlt (by omega)
    have htk := enN_take hlt
    have hal : (enN (es.take k)).length ≤ 100000 := by rw [enN_len, List.length_take]; omega
    generalize enN (es.take k) = acc at *
    have hki : ¬ (k : Int) < 0 := by omega
    simp [hlt, hki]
    refine ⟨⟨by omega, by omega⟩, ?_⟩
    exact ⟨k + 1, Wk.ren 0 [0, 5] hX rfl (by decide) (by simp [hk1, htk]) (by simp) (by simp) (by simp [htk]; exact leRow_snoc _ acc ⟨es[k], []⟩ _ _ _ (by simp) (by simp) rfl), by omega, by omega⟩
  have hkl : k = es.length := by omega
  subst hkl
  rw [List.take_length]
  have hel := enN_len es
  have hlt0 : ltZ (czOf fun z : Tentry => ofE z.fEvent) = ltOf fun z : Tentry => ofE z.fEvent := ltZ_of _
  have hst := c_StabN (P := P) 60 (czOf fun z => ofE z.fEvent) (by rw [hlt0]; exact ord_of _) c_cmpN (enN es) (by omega)
  have him : isrt (ltOf fun z : Tentry => ofE z.fEvent) (enN es) = enN (isrt (ltOf ofE) es) := isrt_map _ (fun a b => rfl) es
  rw [hlt0, him] at hst
  have hsl : (enN (isrt (ltOf ofE) es)).length = (enN es).length := by rw [enN_len, isrt_len, enN_len]
  have hsl2 : (isrt (ltOf ofE) es).length = es.length := isrt_len _ _
  simp
  refine xcall_frame 1 (sort_frame hsl hst) (by simp) (noid_RF _ _) (by simp) (by simp) ?_
  rintro _ _ ⟨rfl, rfl⟩
  rw [reA_tup, B_len 1 hsl.symm]
  generalize isrt (ltOf ofE) es = xs at *
  have hxl := enN_len xs
  have hgx : ∀ (k : Nat) (hk : k < xs.length) (hk2 : k < (enN xs).length), (enN xs)[k] = ⟨xs[k], []⟩ := fun k hk hk2 => by simp [enN]
  generalize enN xs = ns at *
  simp
  refine awp_loop (σ := Nat) (fun k => (⟨[.any, .any, .any, .any, .pto 0 2 0 0, .any, .any, .any, .any, .pto 2 2 0 0, .any, .any, .any, .any, .any, .any, .any, .any, .any, .any, .any, .any, .any, .any, .any, .any, .any, .any, .any, .any, .any, .any, .any, .any, .any, .any, .any, B 1 ns, .int .i64 ns.length, .int .i64 k, .any, .any, .any, .any, .any, .any, .any, .any, .any, .any, .any, .any, .any, .any, .any, .any, .any, .any], [⟨25, 2, [.agg [.sl true [], .sl true []]], 0, true⟩, RF 82 ns 0, ⟨25, 2, [.agg [B 3 (xs.take k), .own 4 0 0 0 true]], 0, true⟩, RF 44 (xs.take k) 0, dead0]⟩ : S)) (fun k => k ≤ xs.length) (fun k => xs.length - k) 0 (Wk.ren 0 [0, 1, 2, 3, 4] hX rfl (by decide) (by simp) (by simp) (by simp) (by simp)) (by omega) ?_
  rintro k hk
  refine vc_sound h.mo _ _ _ (by kernel_rfl) ?_
  rcases Nat.lt_or_ge k xs.length with hlt | hge
  · have hlt2 : k < ns.length := by omega
    have hk1 := wrap_succ hlt (by omega)
    have hg := hgx k hlt hlt2
    have hne : ns ≠ [] := by rintro rfl; simp at hlt2
    have hem : ns.isEmpty = false := by cases ns with | nil => exact (hne rfl).elim | cons _ _ => rfl
    have htk : xs.take (k + 1) = xs.take k ++ [xs[k]] := List.take_succ_eq_append_getElem hlt
    have hal : (xs.take k).length ≤ 100000 := by rw [List.length_take]; omega
    generalize xs.take k = acc at *
    rw [RF_ne hne]
    simp [hlt2, hg]
    refine ⟨⟨by omega, by omega⟩, ?_⟩
    exact ⟨k + 1, Wk.ren 0 [0, 1, 2, 7, 8] hX rfl (by decide) (by simp [hk1]) (by simp) (by simp) (by simp [htk]), by omega, by omega⟩
  · have hkl : k = xs.length := by omega
    subst hkl
    rw [List.take_length]
    have hxn : ¬ xs.length < ns.length := by omega
    simp [hxl]
end Go.Proofs.Ytacfckmhnnhllaa
