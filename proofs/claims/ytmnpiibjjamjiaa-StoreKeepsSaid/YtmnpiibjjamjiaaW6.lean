/- Chapter 21: stores: Put, over any program that has the text. -/
import Derived.Test.YtmnpiibjjamjiaaW5
namespace Go.Proofs.Ytmnpiibjjamjiaa
open Go.AL
variable {P : Program} [h : Facts P]

theorem c_CloneI (l : List (Int)) (hl : l.length ≤ 40000000000) (H : List Row) : XCall P 46 [Ls false l] H (fun r H' => r = B (H.length + 1) l ∧ H' = H ++ [dead0] ++ [RF 3 l 0]) := by
  refine xcall_new 3 l (xcall_of h.f46 rfl (by decide) h.mo (by kernel_rfl) fun X hX => ?_)
  cases l with
  | nil =>
    simp [Fresh]
  | cons x l =>
    simp [Fresh]
    simp at hl
    omega


theorem c_CloneR (l : List (TReady)) (hl : l.length ≤ 40000000000) (H : List Row) : XCall P 43 [Ls false l] H (fun r H' => r = B (H.length + 1) l ∧ H' = H ++ [dead0] ++ [RF 47 l 0]) := by
  refine xcall_new 47 l (xcall_of h.f43 rfl (by decide) h.mo (by kernel_rfl) fun X hX => ?_)
  cases l with
  | nil =>
    simp [Fresh]
  | cons x l =>
    simp [Fresh]
    simp at hl
    omega


theorem c_withI (l : List Int) (n : Int) (hl : l.length ≤ 4000000000) : FCall P 38 [Ls false l, .int .i64 n] (fun r => r = Ls false (l ++ [n])) := by
  refine fcall_of h.f38 rfl (by decide) h.mo (by kernel_rfl) fun X hX => ?_
  simp
  refine xcall_mono (c_CloneI l (by omega) _) ?_
  rintro _ _ ⟨rfl, rfl⟩
  simp
  omega
theorem c_withR (l : List TReady) (x : TReady) (hl : l.length ≤ 4000000000) : FCall P 41 [Ls false l, .agg x.cells] (fun r => r = Ls false (l ++ [x])) := by
  refine fcall_of h.f41 rfl (by decide) h.mo (by kernel_rfl) fun X hX => ?_
  simp
  refine awp_fz 0 (by rfl) (by simp) ?_
  simp
  refine awp_tree (.take 0 (.take 2 (.alt 1 (.alt 3 (.alt 4 (.take 5 .done) .stop) .stop) (.alt 3 (.alt 1 (.alt 4 (.take 5 .done) .stop) .stop) .stop)))) _ h.mo (by kernel_rfl) (by decide) (by kernel_rfl) (by rfl) ?_
  simp
  refine ⟨?_, ?_⟩
  · refine xcall_mono (c_CloneR (P := P) l (by omega) _) ?_
    rintro _ _ ⟨rfl, rfl⟩
    simp
    omega
  · refine xcall_mono (c_CloneR (P := P) l (by omega) _) ?_
    rintro _ _ ⟨rfl, rfl⟩
    simp
    omega

set_option maxHeartbeats 1000000 in
theorem c_Put (s : TStore) (proc item : Int) (hs : fitS s) : FCall P 20 [.agg s.cells, .int .i64 proc, .int .i64 item] (fun r => r = .tup [.agg (putS s proc item).cells, .bool (putB s proc item), Ls false (putN s proc item), .int .i64 (entE s proc item)]) := by
  refine fcall_of h.f20 rfl (by decide) h.mo (by kernel_rfl) fun X hX => ?_
  simp
  refine xcall_fn (c_enters s proc item hs) (by simp) ?_
  by_cases h0 : entE s proc item = 0
  case neg => simp [h0, putS, putB, putN, zeroS]
  obtain ⟨_, _, _, _, _, z5, z6⟩ := ent_zero h0
  have hv := (ent_zero h0).1
  have zi := hv.i
  have zo := hv.o
  have w1 : IntKind.i64.wrap (s.fIn + 1) = s.fIn + 1 := i64_id (by omega) (by omega)
  have w2 : IntKind.i64.wrap (s.fOut + 1) = s.fOut + 1 := i64_id (by omega) (by omega)
  have eS : putS s proc item = match s.fGetters with
    | _ :: gs => ⟨s.fRoom, s.fPolicy, s.fItems, s.fPutters, gs, s.fIn + 1, s.fOut + 1⟩
    | [] => if (s.fItems.length : Int) < s.fRoom then ⟨s.fRoom, s.fPolicy, s.fItems ++ [item], s.fPutters, [], s.fIn + 1, s.fOut⟩ else ⟨s.fRoom, s.fPolicy, s.fItems, s.fPutters ++ [⟨proc, item⟩], [], s.fIn, s.fOut⟩ := by rw [putS, if_neg (by simp [h0])]; rfl
  have eB : putB s proc item = (!s.fGetters.isEmpty || decide ((s.fItems.length : Int) < s.fRoom)) := by rw [putB]; simp [h0]
  have eN : putN s proc item = match s.fGetters with
    | g :: _ => [⟨g, item⟩]
    | [] => [] := by rw [putN, if_neg (by simp [h0])]; rfl
  obtain ⟨d1, d2, d3⟩ := hs
  obtain ⟨room, pol, items, put, get, i, o⟩ := s
  simp only at d1 d2 d3 w1 w2 eS eB eN
  rw [eS, eB, eN]
  cases get with
  | cons g gs =>
    have q : (0 : Int) < (gs.length : Int) + 1 := by omega
    have ht : (gs.map Enc.enc).take gs.length = gs.map Enc.enc := List.take_of_length_le (by simp)
    simp [h0, q, w1, w2, ht]
  | nil =>
    by_cases h1 : (items.length : Int) < room
    · simp [h0, h1]
      refine xcall_fn (c_withI items item (by omega)) (by simp) ?_
      simp [w1]
    · simp [h0, h1]
      refine xcall_fn (c_withR put ⟨proc, item⟩ (by omega)) (by simp) ?_
      simp
set_option maxHeartbeats 1000000 in
theorem c_RPut (s : TStore) (proc item : Int) (hs : fitS s) : FCall P 21 [.agg s.cells, .int .i64 proc, .int .i64 item] (fun r => r = .tup [.agg (putS s proc item).cells, .bool (putB s proc item), Ls false (putN s proc item), .int .i64 (entE s proc item)]) := by
  refine fcall_of h.f21 rfl (by decide) h.mo (by kernel_rfl) fun X hX => ?_
  simp
  refine xcall_fn (c_may s proc item hs) (by simp) ?_
  by_cases h0 : entE s proc item = 0
  case neg => simp [h0, putS, putB, putN, zeroS]
  obtain ⟨_, _, _, _, _, z5, z6⟩ := ent_zero h0
  have hv := (ent_zero h0).1
  have zi := hv.i
  have zo := hv.o
  have w1 : IntKind.i64.wrap (s.fIn + 1) = s.fIn + 1 := i64_id (by omega) (by omega)
  have w2 : IntKind.i64.wrap (s.fOut + 1) = s.fOut + 1 := i64_id (by omega) (by omega)
  have eS : putS s proc item = match s.fGetters with
    | _ :: gs => ⟨s.fRoom, s.fPolicy, s.fItems, s.fPutters, gs, s.fIn + 1, s.fOut + 1⟩
    | [] => if (s.fItems.length : Int) < s.fRoom then ⟨s.fRoom, s.fPolicy, s.fItems ++ [item], s.fPutters, [], s.fIn + 1, s.fOut⟩ else ⟨s.fRoom, s.fPolicy, s.fItems, s.fPutters ++ [⟨proc, item⟩], [], s.fIn, s.fOut⟩ := by rw [putS, if_neg (by simp [h0])]; rfl
  have eB : putB s proc item = (!s.fGetters.isEmpty || decide ((s.fItems.length : Int) < s.fRoom)) := by rw [putB]; simp [h0]
  have eN : putN s proc item = match s.fGetters with
    | g :: _ => [⟨g, item⟩]
    | [] => [] := by rw [putN, if_neg (by simp [h0])]; rfl
  obtain ⟨d1, d2, d3⟩ := hs
  obtain ⟨room, pol, items, put, get, i, o⟩ := s
  simp only at d1 d2 d3 w1 w2 eS eB eN
  rw [eS, eB, eN]
  cases get with
  | cons g gs =>
    have q : (0 : Int) < (gs.length : Int) + 1 := by omega
    have ht : (gs.map Enc.enc).take gs.length = gs.map Enc.enc := List.take_of_length_le (by simp)
    simp [h0, q, w1, w2, ht]
  | nil =>
    by_cases h1 : (items.length : Int) < room
    · simp [h0, h1, w1]
      omega
    · simp [h0, h1]
      omega
end Go.Proofs.Ytmnpiibjjamjiaa
