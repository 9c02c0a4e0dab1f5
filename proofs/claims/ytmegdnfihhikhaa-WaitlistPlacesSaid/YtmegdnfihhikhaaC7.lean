/- Chapter 23: the law WaitlistPlaces, over any program that has its text. -/
import Derived.Test.YtmegdnfihhikhaaC6
namespace Go.Proofs.Ytmegdnfihhikhaa
open Go.AL
variable {P : Program} (h : Facts P)
theorem leave_len (l : List Int) (p : Int) : (leave l p).length ≤ l.length := by
  unfold leave
  split
  · split
    · rw [List.length_eraseIdx]; split <;> omega
    · exact Nat.le_refl _
  · exact Nat.le_refl _

include h
theorem c_WaitlistPlaces (nl full : Bool) (l : List Int) (p o : Int) (hl : l.length ≤ 9223372036854775807) : FCall P 6 [.sl nl full (l.map (A.int .i64)), .int .i64 p, .int .i64 o] (fun r => r = .bool true) := by
  refine fcall_of h.f6 rfl (by decide) h.mo (by kernel_rfl) fun X => ?_
  simp [h]
  refine ⟨fun _ => ?_, fun hlen => ?_⟩
  · refine xcall_scal (c_awake h) (by simp) ?_
    rintro _ rfl
    simp
  have hl' : l.length ≤ 4000000000000000000 := by omega
  refine xcall_noid (c_Wait h nl full l p hl') (by simp) ?_
  intro r hr
  by_cases hw : waitE l p = 0
  · simp only [isWait, hw, if_true] at hr
    obtain ⟨full', rfl⟩ := hr
    have hl1 : (l ++ [p]).length ≤ 4000000000000000000 := by simp; omega
    have hi1 : IntKind.i64.wrap ((l.length : Int) + 1) = (l.length : Int) + 1 := i64_id (by omega) (by omega)
    have hi2 : (((l ++ [p]).length : Nat) : Int) = (l.length : Int) + 1 := by simp
    simp [h, hi1, -List.map_append]
    refine xcall_scal (c_Check h false full' (l ++ [p]) hl1) (by simp) ?_
    rintro _ rfl
    simp [h, chk_wait hw, -List.map_append]
    refine xcall_scal (c_Place h false full' (l ++ [p]) p hl1) (by simp) ?_
    rintro _ rfl
    simp [h, place_new hw, -List.map_append]
    refine xcall_scal (c_Place h nl full l p hl') (by simp) ?_
    rintro _ rfl
    simp [h, place_old hw, -List.map_append]
    have hl2 : (l ++ [p]).length ≤ 4000000000000 := by simp; omega
    refine ⟨fun ho => ?_, fun ho => ?_⟩
    · refine xcall_scal (c_Place h false full' (l ++ [p]) o hl1) (by simp [-List.map_append]) ?_
      rintro _ rfl
      simp [h, -List.map_append]
      refine xcall_scal (c_Place h nl full l o hl') (by simp) ?_
      rintro _ rfl
      simp [h, place_other hw ho, -List.map_append]
      refine xcall_noid (c_Leave h false full' (l ++ [p]) p hl2) (by simp [-List.map_append]) ?_
      rw [leave_new hw]
      rintro _ ⟨nl3, f3, rfl⟩
      simp [h, -List.map_append]
      refine xcall_scal (c_Same h nl3 f3 nl full l l hl') (by simp) ?_
      rintro _ rfl
      simp [h, -List.map_append]
      refine xcall_noid (c_Leave h false full' (l ++ [p]) o hl2) (by simp [-List.map_append]) ?_
      rintro _ ⟨nl4, f4, rfl⟩
      simp [h, -List.map_append]
      refine xcall_scal (c_Place h nl4 f4 (leave (l ++ [p]) o) o (Nat.le_trans (leave_len _ _) hl1)) (by simp) ?_
      rintro _ rfl
      simp [h, place_left (chk_wait hw) o, -List.map_append]
      refine xcall_scal (c_awake h) (by simp) ?_
      rintro _ rfl
      simp
    · skip
      refine xcall_noid (c_Leave h false full' (l ++ [p]) p hl2) (by simp [-List.map_append]) ?_
      rw [leave_new hw]
      rintro _ ⟨nl3, f3, rfl⟩
      simp [h, -List.map_append]
      refine xcall_scal (c_Same h nl3 f3 nl full l l hl') (by simp) ?_
      rintro _ rfl
      simp [h, -List.map_append]
      refine xcall_noid (c_Leave h false full' (l ++ [p]) o hl2) (by simp [-List.map_append]) ?_
      rintro _ ⟨nl4, f4, rfl⟩
      simp [h, -List.map_append]
      refine xcall_scal (c_Place h nl4 f4 (leave (l ++ [p]) o) o (Nat.le_trans (leave_len _ _) hl1)) (by simp) ?_
      rintro _ rfl
      simp [h, place_left (chk_wait hw) o, -List.map_append]
      refine xcall_scal (c_awake h) (by simp) ?_
      rintro _ rfl
      simp
  · simp only [isWait, hw, if_false] at hr
    subst hr
    simp [h, hw]
    refine xcall_scal (c_awake h) (by simp) ?_
    rintro _ rfl
    simp
end Go.Proofs.Ytmegdnfihhikhaa
