/- Chapter 41: the library's Concat of events and of records, over any program that has the text. -/
import Derived.Test.YtacfckmhnnhllaaTy
namespace Go.Proofs.Ytacfckmhnnhllaa
open Go.AL
variable {P : Program} [h : Facts P]

theorem c_GrowE (n : Nat) (h0 : 0 < n) (hn : n ≤ 4000000000) : XCall P 56 [.sl true [], .int .i64 n] [] (fun r L => r = .own 0 0 0 n false ∧ L = [⟨44, Enc.sz (TEvent), List.replicate n (A.agg [.int .i64 0, .int .i64 0, .int .i64 0, .int .i64 0, .int .i64 0, .int .i64 0, .int .i64 0, .int .i64 0, .sl true []]), 0, true⟩]) := by
  refine xcall_ofB [3, 5] h.f56 rfl (by decide) h.mo (by kernel_rfl) fun X hX => ?_
  have q1 : ¬ (n : Int) < 0 := by omega
  have q2 : (0 : Int) < n := by omega
  have w1 : IntKind.i64.wrap (n : Int) = n := i64_id (by omega) (by omega)
  simp [q1]
  refine awp_list ?_
  refine alist_cons rfl ?_
  simp
  refine alist_cons rfl ?_
  simp
  refine alist_cap0 h.u22 (by rfl) ?_
  simp
  refine alist_cons rfl ?_
  simp
  refine alist_cons rfl ?_
  simp
  refine alist_cons rfl ?_
  simp
  refine alist_cons rfl ?_
  simp [w1]
  refine alist_cons rfl ?_
  simp
  refine alist_nil ?_
  simp [h0]
  refine awp_list ?_
  refine alist_cons rfl ?_
  simp
  refine alist_cons rfl ?_
  simp
  refine alist_cap0 h.u22 (by rfl) ?_
  simp
  refine alist_cons rfl ?_
  simp
  refine alist_cons rfl ?_
  simp
  refine alist_appendZeros n h.u22 h.u3 h.z44 (by simp) (by simp) (by rfl) (by rfl) h0 (by omega) (by omega) ?_
  simp
  refine alist_cons rfl ?_
  simp
  refine alist_cons rfl ?_
  simp
  refine alist_cons rfl ?_
  simp
  refine alist_cons rfl ?_
  simp
  refine alist_nil ?_
  simp
theorem c_Grow0E : XCall P 56 [.sl true [], .int .i64 0] [] (fun r L => r = .sl true [] ∧ L = []) := by
  refine xcall_ofB [3] h.f56 rfl (by decide) h.mo (by kernel_rfl) fun X hX => ?_
  simp
  refine awp_list ?_
  refine alist_cons rfl ?_
  simp
  refine alist_cons rfl ?_
  simp
  refine alist_cap0 h.u22 (by rfl) ?_
  simp
  refine alist_cons rfl ?_
  simp
  refine alist_cons rfl ?_
  simp
  refine alist_cons rfl ?_
  simp
  refine alist_cons rfl ?_
  simp
  refine alist_cons rfl ?_
  simp
  refine alist_nil ?_
  simp
theorem c_ConcatE (l1 l2 : List (TEvent)) (hl1 : l1.length ≤ 1000000000) (hl2 : l2.length ≤ 1000000000) : XCall P 38 [.sl false [Ls false l1, Ls false l2]] [] (fun r L => (∀ x ∈ L, noidL x.es = true) ∧ frsh r = true ∧ (r = B 0 (l1 ++ l2) ∧ L = [RF 44 (l1 ++ l2) 0])) := by
  refine xcall_of h.f38 rfl (by decide) h.mo (by kernel_rfl) fun X hX => ?_
  have w1 : IntKind.i64.wrap (l1.length : Int) = l1.length := i64_id (by omega) (by omega)
  have w2 : IntKind.i64.wrap ((l1.length : Int) + l2.length) = (l1.length : Int) + l2.length := i64_id (by omega) (by omega)
  have q1 : ¬ (l1.length : Int) < 0 := by omega
  have q2 : ¬ (l1.length : Int) + l2.length < 0 := by omega
  simp
  refine awp_loop (σ := Nat) (fun k => (⟨[.sl false [Ls false l1, Ls false l2], .any, .any, .int .i64 (if k = 0 then 0 else if k = 1 then (l1.length : Int) else (l1.length : Int) + l2.length), .any, .any, .any, .any, .any, .sl false [Ls false l1, Ls false l2], .int .i64 2, .int .i64 k, .any, .any, .any, .any, .any, .any, .any, .any, .any, .any, .any, .any, .any, .any, .any, .any, .any, .any, .any, .any, .any, .any, .any, .any], []⟩ : S)) (fun k => k ≤ 2) (fun k => 2 - k) 0 (Wk.slots (by simp)) (by omega) ?_
  rintro k hk
  refine vc_sound h.mo _ _ _ (by kernel_rfl) ?_
  match k, hk with
  | 0, _ =>
    simp [w1, q1]
    exact ⟨1, Wk.ren 0 [] hX rfl (by decide) (by simp) (by simp) (by simp) (by simp), by omega, by omega⟩
  | 1, _ =>
    simp [w2, q2]
    exact ⟨2, Wk.ren 0 [] hX rfl (by decide) (by simp) (by simp) (by simp) (by simp), by omega, by omega⟩
  | 2, _ =>
    simp
    by_cases h0 : l1.length + l2.length = 0
    · have e1 : l1 = [] := List.eq_nil_of_length_eq_zero (by omega)
      have e2 : l2 = [] := List.eq_nil_of_length_eq_zero (by omega)
      subst e1 e2
      simp
      refine xcall_mono c_Grow0E ?_
      rintro _ _ ⟨rfl, rfl⟩
      simp
      refine awp_loop (σ := Nat) (fun k => (⟨[.any, .any, .any, .any, .any, .any, .own 0 0 0 0 true, .any, .any, .any, .any, .any, .any, .any, .any, .any, .any, .any, .any, .any, .any, .any, .any, .any, .any, .sl false [.sl false [], .sl false []], .int .i64 2, .int .i64 k, .any, .any, .any, .any, .any, .any, .any, .any], [dead0]⟩ : S)) (fun k => k ≤ 2) (fun k => 2 - k) 0 (Wk.ren 0 [0] hX rfl (by decide) (by simp) (by simp) (by simp) (by simp)) (by omega) ?_
      rintro k hk
      refine vc_sound h.mo _ _ _ (by kernel_rfl) ?_
      match k, hk with
      | 0, _ =>
        simp
        exact ⟨1, Wk.ren 0 [1] hX rfl (by decide) (by simp) (by simp) (by simp) (by simp), by omega, by omega⟩
      | 1, _ =>
        simp
        exact ⟨2, Wk.ren 0 [1] hX rfl (by decide) (by simp) (by simp) (by simp) (by simp), by omega, by omega⟩
      | 2, _ =>
        simp
        exact ⟨rfl, rfl⟩
    · have hn : 0 < l1.length + l2.length := by omega
      have hg := c_GrowE (P := P) (l1.length + l2.length) hn (by omega)
      have e0 : ((l1.length + l2.length : Nat) : Int) = (l1.length : Int) + l2.length := by omega
      rw [e0] at hg
      refine xcall_mono hg ?_
      rintro _ _ ⟨rfl, rfl⟩
      simp
      refine awp_loop (σ := Nat) (fun k => (⟨[.any, .any, .any, .any, .any, .any, .own 0 0 (if k = 0 then 0 else if k = 1 then l1.length else l1.length + l2.length) (l1.length + l2.length) false, .any, .any, .any, .any, .any, .any, .any, .any, .any, .any, .any, .any, .any, .any, .any, .any, .any, .any, .sl false [Ls false l1, Ls false l2], .int .i64 2, .int .i64 k, .any, .any, .any, .any, .any, .any, .any, .any], [⟨44, Enc.sz (TEvent), if k = 0 then List.replicate (l1.length + l2.length) (A.agg [.int .i64 0, .int .i64 0, .int .i64 0, .int .i64 0, .int .i64 0, .int .i64 0, .int .i64 0, .int .i64 0, .sl true []]) else if k = 1 then l1.map Enc.enc ++ List.replicate l2.length (A.agg [.int .i64 0, .int .i64 0, .int .i64 0, .int .i64 0, .int .i64 0, .int .i64 0, .int .i64 0, .int .i64 0, .sl true []]) else l1.map Enc.enc ++ l2.map Enc.enc, 0, true⟩]⟩ : S)) (fun k => k ≤ 2) (fun k => 2 - k) 0 (Wk.ren 0 [0] hX rfl (by decide) (by simp) (by simp) (by simp) (by simp [hasRL_replicate (a := A.agg [.int .i64 0, .int .i64 0, .int .i64 0, .int .i64 0, .int .i64 0, .int .i64 0, .int .i64 0, .int .i64 0, .sl true []]) (by simp [hasR, hasRL]), noany_replicate (a := A.agg [.int .i64 0, .int .i64 0, .int .i64 0, .int .i64 0, .int .i64 0, .int .i64 0, .int .i64 0, .int .i64 0, .sl true []]) rfl])) (by omega) ?_
      rintro k hk
      refine vc_sound h.mo _ _ _ (by kernel_rfl) ?_
      match k, hk with
      | 0, _ =>
        cases l1 with
        | nil =>
          have h9 : ¬ l2.length = 0 := by simpa using h0
          simp [cut_eq, h9, renum]
          exact ⟨1, Wk.ren 0 [0] hX rfl (by decide) (by simp) (by simp) (by simp) (by simp [hasRL_replicate (a := A.agg [.int .i64 0, .int .i64 0, .int .i64 0, .int .i64 0, .int .i64 0, .int .i64 0, .int .i64 0, .int .i64 0, .sl true []]) (by simp [hasR, hasRL]), noany_replicate (a := A.agg [.int .i64 0, .int .i64 0, .int .i64 0, .int .i64 0, .int .i64 0, .int .i64 0, .int .i64 0, .int .i64 0, .sl true []]) rfl]), by omega, by omega⟩
        | cons x l1 =>
          simp [cut_eq]
          simp at hl1
          have hnl : noidL (l1.map Enc.enc ++ List.replicate l2.length (A.agg [.int .i64 0, .int .i64 0, .int .i64 0, .int .i64 0, .int .i64 0, .int .i64 0, .int .i64 0, .int .i64 0, .sl true []])) = true := by simp [noidL_replicate (A.agg [.int .i64 0, .int .i64 0, .int .i64 0, .int .i64 0, .int .i64 0, .int .i64 0, .int .i64 0, .int .i64 0, .sl true []]) rfl]
          exact ⟨⟨by omega, by omega⟩, 1, Wk.ren 0 [0] hX rfl (by decide) (by simp) (by simp) (by simp) (by simp [leL_noid hnl, hasRL_noid hnl, noany_replicate (a := A.agg [.int .i64 0, .int .i64 0, .int .i64 0, .int .i64 0, .int .i64 0, .int .i64 0, .int .i64 0, .int .i64 0, .sl true []]) rfl]), by omega, by omega⟩
      | 1, _ =>
        cases l2 with
        | nil =>
          simp [cut_eq]
          exact ⟨⟨by omega, by omega⟩, 2, Wk.ren 0 [1] hX rfl (by decide) (by simp) (by simp) (by simp) (by simp), by omega, by omega⟩
        | cons x l2 =>
          simp [cut_eq]
          simp at hl2
          exact ⟨⟨by omega, by omega⟩, 2, Wk.ren 0 [0] hX rfl (by decide) (by simp) (by simp) (by simp) (by simp), by omega, by omega⟩
      | 2, _ =>
        have hne : l1 ++ l2 ≠ [] := by
          intro e
          have := congrArg List.length e
          simp at this
          simp [this.1, this.2] at hn
        have hem : (l1 ++ l2).isEmpty = false := by
          cases h8 : l1 ++ l2 with
          | nil => exact (hne h8).elim
          | cons _ _ => rfl
        simp
        refine ⟨rfl, ?_, ?_⟩
        · unfold B
          rw [hem]; simp
        · rw [RF_ne hne]; simp

theorem c_GrowR (n : Nat) (h0 : 0 < n) (hn : n ≤ 4000000000) : XCall P 57 [.sl true [], .int .i64 n] [] (fun r L => r = .own 0 0 0 n false ∧ L = [⟨47, Enc.sz (TRec), List.replicate n (A.agg [.int .i64 0, .int .i64 0, .int .i64 0, .int .i64 0, .int .i64 0, .int .i64 0]), 0, true⟩]) := by
  refine xcall_ofB [3, 5] h.f57 rfl (by decide) h.mo (by kernel_rfl) fun X hX => ?_
  have q1 : ¬ (n : Int) < 0 := by omega
  have q2 : (0 : Int) < n := by omega
  have w1 : IntKind.i64.wrap (n : Int) = n := i64_id (by omega) (by omega)
  simp [q1]
  refine awp_list ?_
  refine alist_cons rfl ?_
  simp
  refine alist_cons rfl ?_
  simp
  refine alist_cap0 h.u23 (by rfl) ?_
  simp
  refine alist_cons rfl ?_
  simp
  refine alist_cons rfl ?_
  simp
  refine alist_cons rfl ?_
  simp
  refine alist_cons rfl ?_
  simp [w1]
  refine alist_cons rfl ?_
  simp
  refine alist_nil ?_
  simp [h0]
  refine awp_list ?_
  refine alist_cons rfl ?_
  simp
  refine alist_cons rfl ?_
  simp
  refine alist_cap0 h.u23 (by rfl) ?_
  simp
  refine alist_cons rfl ?_
  simp
  refine alist_cons rfl ?_
  simp
  refine alist_appendZeros n h.u23 h.u3 h.z47 (by simp) (by simp) (by rfl) (by rfl) h0 (by omega) (by omega) ?_
  simp
  refine alist_cons rfl ?_
  simp
  refine alist_cons rfl ?_
  simp
  refine alist_cons rfl ?_
  simp
  refine alist_cons rfl ?_
  simp
  refine alist_nil ?_
  simp
theorem c_Grow0R : XCall P 57 [.sl true [], .int .i64 0] [] (fun r L => r = .sl true [] ∧ L = []) := by
  refine xcall_ofB [3] h.f57 rfl (by decide) h.mo (by kernel_rfl) fun X hX => ?_
  simp
  refine awp_list ?_
  refine alist_cons rfl ?_
  simp
  refine alist_cons rfl ?_
  simp
  refine alist_cap0 h.u23 (by rfl) ?_
  simp
  refine alist_cons rfl ?_
  simp
  refine alist_cons rfl ?_
  simp
  refine alist_cons rfl ?_
  simp
  refine alist_cons rfl ?_
  simp
  refine alist_cons rfl ?_
  simp
  refine alist_nil ?_
  simp
theorem c_ConcatR (l1 l2 : List (TRec)) (hl1 : l1.length ≤ 1000000000) (hl2 : l2.length ≤ 1000000000) : XCall P 39 [.sl false [Ls false l1, Ls false l2]] [] (fun r L => (∀ x ∈ L, noidL x.es = true) ∧ frsh r = true ∧ (r = B 0 (l1 ++ l2) ∧ L = [RF 47 (l1 ++ l2) 0])) := by
  refine xcall_of h.f39 rfl (by decide) h.mo (by kernel_rfl) fun X hX => ?_
  have w1 : IntKind.i64.wrap (l1.length : Int) = l1.length := i64_id (by omega) (by omega)
  have w2 : IntKind.i64.wrap ((l1.length : Int) + l2.length) = (l1.length : Int) + l2.length := i64_id (by omega) (by omega)
  have q1 : ¬ (l1.length : Int) < 0 := by omega
  have q2 : ¬ (l1.length : Int) + l2.length < 0 := by omega
  simp
  refine awp_loop (σ := Nat) (fun k => (⟨[.sl false [Ls false l1, Ls false l2], .any, .any, .int .i64 (if k = 0 then 0 else if k = 1 then (l1.length : Int) else (l1.length : Int) + l2.length), .any, .any, .any, .any, .any, .sl false [Ls false l1, Ls false l2], .int .i64 2, .int .i64 k, .any, .any, .any, .any, .any, .any, .any, .any, .any, .any, .any, .any, .any, .any, .any, .any, .any, .any, .any, .any, .any, .any, .any, .any], []⟩ : S)) (fun k => k ≤ 2) (fun k => 2 - k) 0 (Wk.slots (by simp)) (by omega) ?_
  rintro k hk
  refine vc_sound h.mo _ _ _ (by kernel_rfl) ?_
  match k, hk with
  | 0, _ =>
    simp [w1, q1]
    exact ⟨1, Wk.ren 0 [] hX rfl (by decide) (by simp) (by simp) (by simp) (by simp), by omega, by omega⟩
  | 1, _ =>
    simp [w2, q2]
    exact ⟨2, Wk.ren 0 [] hX rfl (by decide) (by simp) (by simp) (by simp) (by simp), by omega, by omega⟩
  | 2, _ =>
    simp
    by_cases h0 : l1.length + l2.length = 0
    · have e1 : l1 = [] := List.eq_nil_of_length_eq_zero (by omega)
      have e2 : l2 = [] := List.eq_nil_of_length_eq_zero (by omega)
      subst e1 e2
      simp
      refine xcall_mono c_Grow0R ?_
      rintro _ _ ⟨rfl, rfl⟩
      simp
      refine awp_loop (σ := Nat) (fun k => (⟨[.any, .any, .any, .any, .any, .any, .own 0 0 0 0 true, .any, .any, .any, .any, .any, .any, .any, .any, .any, .any, .any, .any, .any, .any, .any, .any, .any, .any, .sl false [.sl false [], .sl false []], .int .i64 2, .int .i64 k, .any, .any, .any, .any, .any, .any, .any, .any], [dead0]⟩ : S)) (fun k => k ≤ 2) (fun k => 2 - k) 0 (Wk.ren 0 [0] hX rfl (by decide) (by simp) (by simp) (by simp) (by simp)) (by omega) ?_
      rintro k hk
      refine vc_sound h.mo _ _ _ (by kernel_rfl) ?_
      match k, hk with
      | 0, _ =>
        simp
        exact ⟨1, Wk.ren 0 [1] hX rfl (by decide) (by simp) (by simp) (by simp) (by simp), by omega, by omega⟩
      | 1, _ =>
        simp
        exact ⟨2, Wk.ren 0 [1] hX rfl (by decide) (by simp) (by simp) (by simp) (by simp), by omega, by omega⟩
      | 2, _ =>
        simp
        exact ⟨rfl, rfl⟩
    · have hn : 0 < l1.length + l2.length := by omega
      have hg := c_GrowR (P := P) (l1.length + l2.length) hn (by omega)
      have e0 : ((l1.length + l2.length : Nat) : Int) = (l1.length : Int) + l2.length := by omega
      rw [e0] at hg
      refine xcall_mono hg ?_
      rintro _ _ ⟨rfl, rfl⟩
      simp
      refine awp_loop (σ := Nat) (fun k => (⟨[.any, .any, .any, .any, .any, .any, .own 0 0 (if k = 0 then 0 else if k = 1 then l1.length else l1.length + l2.length) (l1.length + l2.length) false, .any, .any, .any, .any, .any, .any, .any, .any, .any, .any, .any, .any, .any, .any, .any, .any, .any, .any, .sl false [Ls false l1, Ls false l2], .int .i64 2, .int .i64 k, .any, .any, .any, .any, .any, .any, .any, .any], [⟨47, Enc.sz (TRec), if k = 0 then List.replicate (l1.length + l2.length) (A.agg [.int .i64 0, .int .i64 0, .int .i64 0, .int .i64 0, .int .i64 0, .int .i64 0]) else if k = 1 then l1.map Enc.enc ++ List.replicate l2.length (A.agg [.int .i64 0, .int .i64 0, .int .i64 0, .int .i64 0, .int .i64 0, .int .i64 0]) else l1.map Enc.enc ++ l2.map Enc.enc, 0, true⟩]⟩ : S)) (fun k => k ≤ 2) (fun k => 2 - k) 0 (Wk.ren 0 [0] hX rfl (by decide) (by simp) (by simp) (by simp) (by simp [hasRL_replicate (a := A.agg [.int .i64 0, .int .i64 0, .int .i64 0, .int .i64 0, .int .i64 0, .int .i64 0]) (by simp [hasR, hasRL]), noany_replicate (a := A.agg [.int .i64 0, .int .i64 0, .int .i64 0, .int .i64 0, .int .i64 0, .int .i64 0]) rfl])) (by omega) ?_
      rintro k hk
      refine vc_sound h.mo _ _ _ (by kernel_rfl) ?_
      match k, hk with
      | 0, _ =>
        cases l1 with
        | nil =>
          have h9 : ¬ l2.length = 0 := by simpa using h0
          simp [cut_eq, h9, renum]
          exact ⟨1, Wk.ren 0 [0] hX rfl (by decide) (by simp) (by simp) (by simp) (by simp [hasRL_replicate (a := A.agg [.int .i64 0, .int .i64 0, .int .i64 0, .int .i64 0, .int .i64 0, .int .i64 0]) (by simp [hasR, hasRL]), noany_replicate (a := A.agg [.int .i64 0, .int .i64 0, .int .i64 0, .int .i64 0, .int .i64 0, .int .i64 0]) rfl]), by omega, by omega⟩
        | cons x l1 =>
          simp [cut_eq]
          simp at hl1
          have hnl : noidL (l1.map Enc.enc ++ List.replicate l2.length (A.agg [.int .i64 0, .int .i64 0, .int .i64 0, .int .i64 0, .int .i64 0, .int .i64 0])) = true := by simp [noidL_replicate (A.agg [.int .i64 0, .int .i64 0, .int .i64 0, .int .i64 0, .int .i64 0, .int .i64 0]) rfl]
          exact ⟨⟨by omega, by omega⟩, 1, Wk.ren 0 [0] hX rfl (by decide) (by simp) (by simp) (by simp) (by simp [leL_noid hnl, hasRL_noid hnl, noany_replicate (a := A.agg [.int .i64 0, .int .i64 0, .int .i64 0, .int .i64 0, .int .i64 0, .int .i64 0]) rfl]), by omega, by omega⟩
      | 1, _ =>
        cases l2 with
        | nil =>
          simp [cut_eq]
          exact ⟨⟨by omega, by omega⟩, 2, Wk.ren 0 [1] hX rfl (by decide) (by simp) (by simp) (by simp) (by simp), by omega, by omega⟩
        | cons x l2 =>
          simp [cut_eq]
          simp at hl2
          exact ⟨⟨by omega, by omega⟩, 2, Wk.ren 0 [0] hX rfl (by decide) (by simp) (by simp) (by simp) (by simp), by omega, by omega⟩
      | 2, _ =>
        have hne : l1 ++ l2 ≠ [] := by
          intro e
          have := congrArg List.length e
          simp at this
          simp [this.1, this.2] at hn
        have hem : (l1 ++ l2).isEmpty = false := by
          cases h8 : l1 ++ l2 with
          | nil => exact (hne h8).elim
          | cons _ _ => rfl
        simp
        refine ⟨rfl, ?_, ?_⟩
        · unfold B
          rw [hem]; simp
        · rw [RF_ne hne]; simp

end Go.Proofs.Ytacfckmhnnhllaa
