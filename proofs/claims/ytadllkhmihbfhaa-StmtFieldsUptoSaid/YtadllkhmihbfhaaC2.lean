/- Chapter 10: statements: a cut inside a list of operations, no program in sight. -/
import Derived.Test.YtadllkhmihbfhaaC1
namespace Go.Proofs.Ytadllkhmihbfhaa
open Go.AL

theorem vcOps_app {P : Program} {X : Ctx} {ops : Array Oper} {Q : AX → S → Prop} {l2 : List Oper} : ∀ (l : List Oper) (s : S), vcOps P ops (fun _ s' => alist P X ops Q l2 s') l s → alist P X ops Q (l ++ l2) s
  | [], s, h => h
  | o :: rest, s, h => by
    intro a w μ hS
    simp only [vcOps] at h
    split at h
    · rename_i hg
      exact alist_step (fun s h => vcOps_app rest s h) hS (by simp [Region.wanted, hg]) h
    · rename_i j want hg
      unfold guardK at h
      split at h
      · rename_i b hb
        have hy := gval_yielded hS hb
        by_cases hw : b = want
        · exact alist_step (fun s h => vcOps_app rest s h) hS (by simp [Region.wanted, hg, hy, hw]) (h.1 hw)
        · show wpList P ops (lift P X Q) (o :: (rest ++ l2)) a w
          unfold wpList
          rw [if_neg (by simp [Region.wanted, hg, hy, hw])]
          have hb' : b = !want := by cases b <;> cases want <;> simp_all
          refine vcOps_app rest _ (h.2 hb') _ _ μ ?_
          exact hS.put o.dst hS.hs (Adv.refl _ _) (List.prefix_refl _) rep_undef
      · rename_i hb
        have hy := gval_und hS hb
        show wpList P ops (lift P X Q) (o :: (rest ++ l2)) a w
        unfold wpList
        rw [if_neg (by simp [Region.wanted, hg, hy])]
        exact vcOps_app rest _ h _ _ μ (hS.put o.dst hS.hs (Adv.refl _ _) (List.prefix_refl _) rep_undef)
      · exact h.elim
theorem alist_weaken {P : Program} {X : Ctx} {ops : Array Oper} {Q : AX → S → Prop} {l : List Oper} {s s' : S} (hw : Wk P X s s') (h : alist P X ops Q l s') : alist P X ops Q l s :=
  fun a w μ hs => let ⟨μ1, h1⟩ := hw a w μ hs; h a w μ1 h1
theorem stepK_mono {P : Program} {o : Oper} {K K' : S → Prop} {s : S} (hK : ∀ s, K s → K' s) (h : stepK P o K s) : stepK P o K' s := by
  have ob : obind (aop P s.h (ev s.t) o.op) (finK o.dst K s.t) → obind (aop P s.h (ev s.t) o.op) (finK o.dst K' s.t) := by
    intro h
    cases hx : aop P s.h (ev s.t) o.op with
    | none => rw [hx] at h; exact h.elim
    | some y => rw [hx] at h; exact hK _ h
  unfold stepK at h ⊢
  split at h
  · split at h
    · unfold callK at h ⊢
      split at h
      · exact xcall_mono h fun r H' hr => hK _ hr
      · exact h.elim
    · exact ob h
  · exact ob h
theorem vcOps_mono {P : Program} {ops : Array Oper} {Q Q' : AX → S → Prop} (hQ : ∀ s, Q .normal s → Q' .normal s) : ∀ (l : List Oper) (s : S), vcOps P ops Q l s → vcOps P ops Q' l s
  | [], s, h => hQ s h
  | o :: rest, s, h => by
    simp only [vcOps] at h ⊢
    split at h
    · exact stepK_mono (vcOps_mono hQ rest) h
    · unfold guardK at h ⊢
      split at h
      · exact ⟨fun e => stepK_mono (vcOps_mono hQ rest) (h.1 e), fun e => vcOps_mono hQ rest _ (h.2 e)⟩
      · exact vcOps_mono hQ rest _ h
      · exact h.elim
/-- The first n operations, then a named state. -/
theorem alist_cut {P : Program} {X : Ctx} {ops : Array Oper} {Q : AX → S → Prop} {l : List Oper} {s : S} (n : Nat) (s1 : S) (h1 : vcOps P ops (fun _ s' => Wk P X s' s1) (l.take n) s) (h2 : alist P X ops Q (l.drop n) s1) : alist P X ops Q l s := by
  rw [← List.take_append_drop n l]
  exact vcOps_app _ _ (vcOps_mono (fun s hw => alist_weaken hw h2) _ _ h1)
theorem awp_cutAt {P : Program} {X : Ctx} {id : Nat} {l : List Oper} {Q : AX → S → Prop} {s : S} (n : Nat) (s1 : S) (h1 : vcOps P l.toArray (fun _ s' => Wk P X s' s1) (l.take n) s) (h2 : alist P X l.toArray Q (l.drop n) s1) : awp P X (.region id l.toArray false) Q s := awp_list (alist_cut n s1 h1 h2)
end Go.Proofs.Ytadllkhmihbfhaa
