/- Chapter 21: stores: the law StoreQueues, over any program that has the text. -/
import Derived.Test.YtmnpiibjjamjiaaQ2
namespace Go.Proofs.Ytmnpiibjjamjiaa
open Go.AL
variable {P : Program} [h : Facts P]

set_option maxHeartbeats 8000000 in
set_option maxRecDepth 20000 in
theorem c_StoreQueues (room : Int) (l : List TAct) (hl : l.length ≤ 9223372036854775807) : FCall P 5 [.int .i64 room, Ls false l] (fun r => r = .bool true) := by
  refine fcall_of h.f5 rfl (by decide) h.mo (by kernel_rfl) fun X hX => ?_
  simp
  refine xcall_fn (c_New room 1) (by simp) ?_
  by_cases h0 : newE room 1 = 0
  case neg =>
    simp [h0]
    refine xcall_fn c_awake (by simp) ?_
    simp
  by_cases h1 : l.length ≤ 60
  case neg =>
    have h1' : (60 : Int) < l.length := by omega
    simp [h0, h1']
    refine xcall_fn c_awake (by simp) ?_
    simp
  have h1' : ¬ (60 : Int) < l.length := by omega
  simp [h0, h1']
  have hv0 := V_new h0
  have hp0 : (newS room 1).fPolicy = 1 := by rw [newS, if_pos h0]
  have hi0 : (newS room 1).fItems = [] ∧ (newS room 1).fPutters = [] := by rw [newS, if_pos h0]; exact ⟨rfl, rfl⟩
  generalize newS room 1 = s0 at hv0 hp0 hi0
  refine awp_loop (σ := Nat × TStore × List Int × List Int) (fun q => (⟨[.any, .any, .any, .any, .any, .pto 0 7 0 0, .any, B 1 q.2.2.1, B 2 q.2.2.2, .any, .any, .any, .any, .any, .any, .any, .any, .any, .any, .any, .any, .any, .any, .any, .any, .any, .any, .any, .any, .any, .any, .any, .any, .any, .any, .any, Ls false l, .int .i64 l.length, .int .i64 q.1, .any, .any, .any, .any, .any, .any, .any, .any, .any, .any, .any, .any, .any, .any, .any, .any, .any, .any, .any, .any, .any, .any, .any, .any, .any, .any, .any, .any, .any, .any, .any, .any, .any, .any, .any, .any, .any, .any, .any, .any, .any, .any, .any, .any, .any, .any, .any, .any, .any, .any, .any, .any, .any, .any, .any, .any, .any, .any, .any, .any, .any, .any, .any, .any, .any, .any, .any, .any, .any, .any, .any, .any, .any, .any, .any, .any, .any, .any, .any, .any, .any, .any, .any, .any, .any, .any, .any, .any, .any, .any, .any, .any, .any, .any, .any, .any, .any, .any, .any, .any], [⟨26, 7, [.agg q.2.1.cells], 0, true⟩, RF 3 q.2.2.1 0, RF 3 q.2.2.2 0]⟩ : S)) (fun q => q.1 ≤ l.length ∧ V q.2.1 ∧ q.2.1.fPolicy = 1 ∧ q.2.2.1 = q.2.2.2 ++ (q.2.1.fItems ++ pit q.2.1) ∧ q.2.2.1.length ≤ q.1) (fun q => l.length - q.1) (0, s0, [], []) (Wk.ren 0 [0, 1, 2] hX rfl (by decide) (by simp) (by simp) (by simp) (by simp)) ⟨by simp, hv0, hp0, by simp [pit, hi0.1, hi0.2], by simp⟩ ?_
  rintro ⟨k, s, pu, out⟩ ⟨hk, hv, hp, hq, hpl⟩
  simp only at hk hv hp hq hpl
  have hs := V_fitS hv
  have hol : out.length ≤ pu.length := by rw [hq]; simp
  refine vc_sound h.mo _ _ _ (by kernel_rfl) ?_
  rcases Nat.lt_or_ge k l.length with hlt | hge
  · have hk1 := wrap_succ hlt hl
    obtain ⟨x, hx⟩ : ∃ x, l[k] = x := ⟨_, rfl⟩
    cases hgt : x.fGet
    · simp [hlt, hx, hgt, -Prod.exists]
      refine xcall_fn (c_Put s x.fProc x.fItem hs) (by simp) ?_
      by_cases h5 : entE s x.fProc x.fItem = 0
      case neg =>
        simp [h5, -Prod.exists]
        exact ⟨(k + 1, s, pu, out), Wk.ren 0 [0, 1, 2] hX rfl (by decide) (by simp [hk1]) (by simp) (by simp) (by simp), ⟨by omega, hv, hp, hq, by simp only; omega⟩, by omega⟩
      have hv' := V_put h5
      obtain ⟨nx, e5, hnl, hnw, e7, e8⟩ : ∃ nx, putN s x.fProc x.fItem = nx ∧ nx.length ≤ 1 ∧ (nx ≠ [] → 0 < (s.fGetters.length : Int)) ∧ pu ++ [x.fItem] = (out ++ nx.map (·.fItem)) ++ ((putS s x.fProc x.fItem).fItems ++ pit (putS s x.fProc x.fItem)) ∧ (putS s x.fProc x.fItem).fPolicy = 1 := by
        by_cases hg : s.fGetters = []
        · obtain ⟨e1, e2, e3, _⟩ := put_in h5 hg
          exact ⟨[], e2, by simp, by simp, by rw [e1, hq]; simp, by rw [e3, hp]⟩
        · obtain ⟨e1, e2, e3, e4, ⟨g, e5⟩, e6⟩ := put_out h5 hg
          have hg' : (0 : Int) < s.fGetters.length := by have := List.length_pos_iff.2 hg; omega
          exact ⟨_, e5, by simp, fun _ => hg', by rw [hq, pit, pit, e1, e2, e3, e4]; simp, by rw [e6, hp]⟩
      rw [e5]
      generalize putS s x.fProc x.fItem = s' at e7 e8 hv'
      simp [h5, -Prod.exists]
      refine ⟨by omega, ?_⟩
      obtain ⟨w, hw⟩ : ∃ w, decide ((0 : Int) < s.fGetters.length) = w := ⟨_, rfl⟩
      have hwt : nx ≠ [] → w = true := fun hne => by rw [← hw]; simpa using hnw hne
      refine awp_loop (σ := Nat) (fun j => (⟨[.any, .any, .any, .any, .any, .pto 0 7 0 0, .any, B 1 (pu ++ [x.fItem]), B 2 (out ++ (nx.take j).map (·.fItem)), .any, .any, .any, .any, .any, .any, .any, .bool w, .any, .any, Ls false nx, .any, .int .i64 j, .any, .any, .any, .any, .any, .any, .any, .any, .any, .any, .any, .any, .any, .any, Ls false l, .int .i64 l.length, .int .i64 k, .any, .any, .any, .any, .any, .any, .any, .any, .any, .any, .any, .any, .any, .any, .any, .any, .any, .any, .any, .any, .any, .any, .any, .any, .any, .any, .any, .any, .any, .any, .any, .any, .any, .any, .any, .any, .any, .any, .any, .any, .any, .any, .any, .any, .any, .any, .any, .any, .any, .any, .any, .any, .any, .any, .any, .any, .any, .any, .any, .any, .any, .any, .any, .any, .any, .any, .any, .any, .any, .any, .any, .any, .any, .any, .any, .any, .any, .any, .any, .any, .any, .any, .any, .any, .any, .any, .any, .any, .any, .any, .any, .any, .any, .any, .any, .any, .any, .any, .any, .any], [⟨26, 7, [.agg s'.cells], 0, true⟩, RF 3 (pu ++ [x.fItem]) 0, RF 3 (out ++ (nx.take j).map (·.fItem)) 0]⟩ : S)) (fun j => j ≤ nx.length) (fun j => nx.length - j) 0 (Wk.ren 0 [0, 6, 2] hX rfl (by decide) (by simp [← hw]) (by simp) (by simp) (by simp)) (by omega) ?_
      rintro j hj
      refine vc_sound h.mo _ _ _ (by kernel_rfl) ?_
      rcases Nat.lt_or_ge j nx.length with hjl | hjg
      · have hj1 := wrap_succ hjl (by omega)
        have hwt' : w = true := hwt (by rintro rfl; simp at hjl)
        have hnt : (nx.take (j + 1)).map (·.fItem) = (nx.take j).map (·.fItem) ++ [nx[j].fItem] := by rw [List.take_succ_eq_append_getElem hjl, List.map_append]; rfl
        have hol2 : (out ++ (nx.take j).map (·.fItem)).length ≤ 1000 := by simp; omega
        have hnt2 : out ++ (nx.take (j + 1)).map (·.fItem) = (out ++ (nx.take j).map (·.fItem)) ++ [nx[j].fItem] := by rw [hnt, List.append_assoc]
        generalize out ++ (nx.take j).map (·.fItem) = L at hol2 hnt2
        rw [List.map_take] at hnt2
        generalize pu ++ [x.fItem] = M
        simp [hjl, hwt', -Prod.exists]
        exact ⟨by omega, j + 1, Wk.ren 0 [0, 1, 4] hX rfl (by decide) (by simp only [hnt2]; simp [hj1]) (by simp) (by simp) (by simp only [hnt2]; simp), by omega, by omega⟩
      · have hjl : j = nx.length := by omega
        subst hjl
        have htl : nx.take nx.length = nx := List.take_length
        rw [htl]
        generalize out ++ nx.map (·.fItem) = L at e7
        have hM : (pu ++ [x.fItem]).length = pu.length + 1 := by simp
        generalize pu ++ [x.fItem] = M at e7 hM
        simp [hk1, -Prod.exists]
        exact ⟨(k + 1, s', M, L), Wk.ren 0 [0, 1, 2] hX rfl (by decide) (by simp) (by simp) (by simp) (by simp), ⟨by omega, hv', e8, e7, by simp only; omega⟩, by omega⟩
    · simp [hlt, hx, hgt, -Prod.exists]
      refine xcall_fn (c_Get s x.fProc hs) (by simp) ?_
      by_cases h5 : entE s x.fProc 0 = 0
      case neg =>
        have hgb : getB s x.fProc = false := by simp [getB, h5]
        simp [h5, hgb, -Prod.exists]
        exact ⟨(k + 1, s, pu, out), Wk.ren 0 [0, 1, 2] hX rfl (by decide) (by simp [hk1]) (by simp) (by simp) (by simp), ⟨by omega, hv, hp, hq, by simp only; omega⟩, by omega⟩
      have hv' := V_get h5
      cases hgb : getB s x.fProc
      · obtain ⟨e1, e2, e3⟩ := get_none h5 hgb
        rw [hp] at e3
        have e4 : (getS s x.fProc).fItems ++ pit (getS s x.fProc) = s.fItems ++ pit s := by rw [pit, e1, e2]; rfl
        generalize getS s x.fProc = s' at e1 e2 e3 e4 hv'
        simp [h5, -Prod.exists]
        exact ⟨(k + 1, s', pu, out), Wk.ren 0 [0, 1, 2] hX rfl (by decide) (by simp [hk1]) (by simp) (by simp) (by simp), ⟨by omega, hv', e3, by rw [e4]; exact hq, by simp only; omega⟩, by omega⟩
      · obtain ⟨_, _, _, _, _, e3, _⟩ := get_got h5 hgb
        have e4 := get_fifo h5 hp hgb
        rw [hp] at e3
        generalize getS s x.fProc = s' at e3 e4 hv'
        generalize getI s x.fProc = it at e4
        simp [h5, -Prod.exists]
        exact ⟨by omega, (k + 1, s', pu, out ++ [it]), Wk.ren 0 [0, 1, 6] hX rfl (by decide) (by simp [hk1]) (by simp) (by simp) (by simp), ⟨by omega, hv', e3, by rw [hq, ← e4]; simp, by simp only; omega⟩, by omega⟩
  · have hkl : k = l.length := by omega
    subst hkl
    have hol' : ¬ (pu.length : Int) < out.length := by omega
    have hpr : out <+: pu := ⟨_, hq.symm⟩
    simp [hol', -Prod.exists]
    refine awp_loop (σ := Nat) (fun k => (⟨[.any, .any, .any, .any, .any, .pto 0 7 0 0, .any, B 1 pu, B 2 out, .any, .any, .any, .any, .any, .any, .any, .any, .any, .any, .any, .any, .any, .int .i64 k, .any, .any, .any, .any, .any, .any, .any, .any, .any, .any, .any, .any, .any, .any, .any, .any, .any, .any, .any, .any, .any, .any, .any, .any, .any, .any, .any, .any, .any, .any, .any, .any, .any, .any, .any, .any, .any, .any, .any, .any, .any, .any, .any, .any, .any, .any, .any, .any, .any, .any, .any, .any, .any, .any, .any, .any, .any, .any, .any, .any, .any, .any, .any, .any, .any, .any, .any, .any, .any, .any, .any, .any, .any, .any, .any, .any, .any, .any, .any, .any, .any, .any, .any, .any, .any, .any, .any, .any, .any, .any, .any, .any, .any, .any, .any, .any, .any, .any, .any, .any, .any, .any, .any, .any, .any, .any, .any, .any, .any, .any, .any, .any, .any, .any, .any, .any], [⟨26, 7, [.agg s.cells], 0, true⟩, RF 3 pu 0, RF 3 out 0]⟩ : S)) (fun k => k ≤ out.length) (fun k => out.length - k) 0 (Wk.ren 0 [0, 1, 2] hX rfl (by decide) (by simp) (by simp) (by simp) (by simp)) (by omega) ?_
    rintro k hk
    refine vc_sound h.mo _ _ _ (by kernel_rfl) ?_
    rcases Nat.lt_or_ge k out.length with hlt | hge
    · have hk1 := wrap_succ hlt (by omega)
      have hkp : k < pu.length := by omega
      have heq : pu[k] = out[k] := (List.IsPrefix.getElem hpr hlt).symm
      simp [hlt, hkp, heq]
      exact ⟨k + 1, Wk.ren 0 [0, 1, 2] hX rfl (by decide) (by simp [hk1]) (by simp) (by simp) (by simp), by omega, by omega⟩
    · have hkl : k = out.length := by omega
      subst hkl
      have hlen : pu.length = out.length + s.fItems.length + s.fPutters.length := by rw [hq]; simp [pit]; omega
      have hlen' : (pu.length : Int) = IntKind.i64.wrap (IntKind.i64.wrap (out.length + s.fItems.length) + s.fPutters.length) := by
        have w1 : IntKind.i64.wrap (out.length + s.fItems.length) = (out.length : Int) + s.fItems.length := i64_id (by omega) (by omega)
        rw [w1, i64_id (by omega) (by omega)]; omega
      simp [← hlen']
      refine xcall_fn c_awake (by simp) ?_
      simp
end Go.Proofs.Ytmnpiibjjamjiaa
