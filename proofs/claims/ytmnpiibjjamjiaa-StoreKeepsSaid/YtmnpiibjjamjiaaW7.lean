/- Chapter 21: stores: Get, over any program that has the text. -/
import Derived.Test.YtmnpiibjjamjiaaW6
namespace Go.Proofs.Ytmnpiibjjamjiaa
open Go.AL
variable {P : Program} [h : Facts P]

theorem first_int {s : TStore} (_hv : V s) (hf : (firstP s).2 = true) : (firstP s).1 = (firstN s : Int) := by
  unfold firstN
  unfold firstP at hf ⊢
  split at hf
  · cases hf
  rename_i h0
  rw [if_neg h0]
  simp only
  split
  · omega
  · split
    · omega
    · rfl
set_option maxHeartbeats 2000000 in
theorem c_Get (s : TStore) (proc : Int) (hs : fitS s) : FCall P 17 [.agg s.cells, .int .i64 proc] (fun r => r = .tup [.agg (getS s proc).cells, .int .i64 (getI s proc), .bool (getB s proc), Ls false (getN s proc), .int .i64 (entE s proc 0)]) := by
  refine fcall_ofB [9, 17] h.f17 rfl (by decide) h.mo (by kernel_rfl) fun X hX => ?_
  simp
  refine xcall_fn (c_enters s proc 0 hs) (by simp) ?_
  by_cases h0 : entE s proc 0 = 0
  case neg => simp [h0, getS, getI, getB, getN, zeroS]
  obtain ⟨hv, _, _, _, _, z5, z6⟩ := ent_zero h0
  have zi := hv.i
  have zo := hv.o
  have hit : s.fItems.length ≤ 1000 := by have := hv.few; have := hv.room; omega
  have w1 : IntKind.i64.wrap (s.fIn + 1) = s.fIn + 1 := i64_id (by omega) (by omega)
  have w2 : IntKind.i64.wrap (s.fOut + 1) = s.fOut + 1 := i64_id (by omega) (by omega)
  simp [h0]
  refine xcall_fn (c_First s hs) (by simp) ?_
  have hfa := first_at hv
  have hfi := first_int hv
  have eS : getS s proc = if (firstP s).2 = false then ⟨s.fRoom, s.fPolicy, s.fItems, s.fPutters, s.fGetters ++ [proc], s.fIn, s.fOut⟩ else match s.fPutters with
    | [] => ⟨s.fRoom, s.fPolicy, s.fItems.eraseIdx (firstN s), [], s.fGetters, s.fIn, s.fOut + 1⟩
    | p :: ps => ⟨s.fRoom, s.fPolicy, s.fItems.eraseIdx (firstN s) ++ [p.fItem], ps, s.fGetters, s.fIn + 1, s.fOut + 1⟩ := by rw [getS, if_neg (by simp [h0])]; rfl
  have eB : getB s proc = (firstP s).2 := by rw [getB]; simp [h0]
  have eI : getI s proc = if (firstP s).2 = true then s.fItems.getD (firstN s) 0 else 0 := by rw [getI, eB]
  have eN : getN s proc = if (firstP s).2 = true then s.fPutters.take 1 else [] := by rw [getN, eB]
  obtain ⟨d1, d2, d3⟩ := hs
  generalize hf1 : (firstP s).2 = f at hfa hfi eS eB eI eN
  generalize firstN s = n at hfa hfi eS eI
  generalize (firstP s).1 = n' at hfi
  clear hf1 hv z5 z6 zi zo
  obtain ⟨room, pol, items, put, get, i, o⟩ := s
  simp only at d1 d2 d3 hit w1 w2 eS eB eN eI hfa hfi
  cases f
  · rw [eS, eB, eN, eI]
    simp
    refine xcall_fn (c_withI get proc (by omega)) (by simp) ?_
    simp
  have hn := hfa rfl
  have hn' := hfi rfl
  subst hn'
  have hn1 := wrap_succ hn (by omega)
  have hn2 : n ≤ items.length := by omega
  have hn3 : n + 1 ≤ items.length := by omega
  have hn4 : (0 : Int) ≤ (n : Int) + 1 := by omega
  have hgd : items.getD n 0 = items[n] := by simp [List.getD, hn]
  have her : items.eraseIdx n = items.take n ++ items.drop (n + 1) := List.eraseIdx_eq_take_drop_succ _ _
  have htk : (items.drop (n + 1)).take (items.length - (n + 1)) = items.drop (n + 1) := List.take_of_length_le (by simp)
  rw [hgd] at eI
  rw [her] at eS
  rw [eS, eB, eN, eI]
  simp [hn]
  refine awp_tree (.take 0 (.take 2 (.take 4 (.take 6 (.take 7 (.alt 1 (.take 3 (.alt 5 (.take 8 (.alt 9 (.alt 10 (.take 11 (.alt 12 .done .stop)) .stop) .stop)) .stop)) (.alt 5 (.take 8 (.alt 1 (.take 3 (.alt 9 (.alt 10 (.take 11 (.alt 12 .done .stop)) .stop) .stop)) .stop)) .stop))))))) _ h.mo (by kernel_rfl) (by decide) (by kernel_rfl) (by rfl) ?_
  simp [hn1, hn2, hn3, hn4, htk]
  refine xcall_fzown 2 0 2 2 true (by rfl) rfl (by rfl) (by simp) ?_
  simp
  refine xcall_fresh (c_ConcatI (items.take n) (items.drop (n + 1)) (by simp; omega) (by simp; omega)) (by simp) ?_
  rintro _ _ ⟨rfl, rfl⟩
  generalize hL : items.take n ++ items.drop (n + 1) = L
  have hLl : L.length ≤ items.length := by rw [← hL]; simp; omega
  cases put with
  | nil =>
    simp [w2]
  | cons p ps =>
    have ht : (ps.map Enc.enc).take ps.length = ps.map Enc.enc := List.take_of_length_le (by simp)
    have hps : ¬ (ps.length : Int) + 1 = 0 := by omega
    simp [w1, w2, ht, hps]
    refine ⟨⟨by omega, by omega⟩, ?_⟩
    refine awp_fz 4 (by rfl) (by simp) ?_
    simp
    refine awp_tree (.take 1 (.take 2 (.alt 0 (.alt 3 (.alt 4 (.take 5 (.take 6 (.take 7 (.take 8 .done)))) .stop) (.alt 4 (.take 5 (.take 6 (.alt 3 (.take 7 (.take 8 .done)) .stop))) .stop)) (.alt 3 (.alt 0 (.alt 4 (.take 5 (.take 6 (.take 7 (.take 8 .done)))) .stop) .stop) .stop)))) _ h.mo (by kernel_rfl) (by decide) (by kernel_rfl) (by rfl) ?_
    have hL' : items.take n ++ (items.drop (n + 1) ++ [p.fItem]) = L ++ [p.fItem] := by rw [← hL, List.append_assoc]
    simp [hL']
end Go.Proofs.Ytmnpiibjjamjiaa
