/- The library's sort of texts, of an empty list too; what the kit proves of it, at this program. -/
import Derived.Test.YtadllkhmihbfhaaS0
namespace Go.Proofs.Ytadllkhmihbfhaa
open Go.AL
variable {P : Program} [h : Facts P]

set_option maxRecDepth 20000 in
theorem c_Len64z : FCall P 74 [.int .u64 0] (fun r => r = .int .i64 0) := by
  refine fcall_of h.f74 rfl (by decide) h.mo (by kernel_rfl) fun X hX => ?_
  have w8 : IntKind.u8.wrap 0 = 0 := by decide
  simp [w8]
theorem c_Lenz : FCall P 49 [.int .u64 0] (fun r => r = .int .i64 0) := by
  refine fcall_of h.f49 rfl (by decide) h.mo (by kernel_rfl) fun X hX => ?_
  simp
  refine xcall_fn c_Len64z (by simp) ?_
  simp
theorem c_insz : FCall P 64 [.sl false [], .int .i64 0, .int .i64 0] (fun r => r = .tup []) := by
  refine fcall_ofB [4, 6] h.f64 rfl (by decide) h.mo (by kernel_rfl) fun X hX => ?_
  simp
  refine awp_loop (σ := Nat) (fun _ => (⟨[.sl false [], .int .i64 0, .int .i64 0, .any, .any, .any, .int .i64 1, .any, .any, .any, .any, .any, .any, .any, .any, .any, .any, .any, .any, .any, .any, .any, .any, .any, .any, .any, .any, .any, .any, .any, .any, .any, .any, .any, .any, .any, .any, .any, .any, .any, .any, .any, .any, .any, .any, .any, .any, .any, .any], []⟩ : S)) (fun _ => True) (fun _ => 0) 0 (Wk.ren 0 [] hX rfl (by decide) (by simp) (by simp) (by simp) (by simp)) trivial ?_
  rintro k _
  refine vcB_sound [4, 6] h.mo _ _ _ (by kernel_rfl) ?_
  simp
set_option maxRecDepth 20000 in
set_option maxHeartbeats 2000000 in
theorem c_pdqz : FCall P 48 [.sl false [], .int .i64 0, .int .i64 0, .int .i64 0] (fun r => r = .tup []) := by
  refine fcall_of h.f48 rfl (by decide) h.mo (by kernel_rfl) fun X hX => ?_
  simp
  refine awp_loop (σ := Nat) (fun _ => (⟨[.sl false [], .int .i64 0, .int .i64 0, .int .i64 0, .any, .any, .any, .any, .bool true, .bool true, .any, .any, .any, .any, .any, .any, .any, .any, .any, .any, .any, .any, .any, .any, .any, .any, .any, .any, .any, .any, .any, .any, .any, .any, .any, .any, .any, .any, .any, .any, .any, .any, .any, .any, .any, .any, .any, .any, .any, .any, .any, .any, .any, .any, .any, .any, .any, .any, .any, .any, .any, .any, .any, .any, .any, .any, .any, .any, .any, .any, .any, .any, .any, .any, .any, .any, .any, .any, .any, .any, .any, .any, .any, .any, .any, .any, .any, .any, .any, .any, .any, .any, .any, .any, .any, .any, .any, .any, .any, .any, .any, .any, .any, .any, .any, .any, .any, .any, .any, .any, .any, .any, .any, .any, .any, .any, .any, .any, .any, .any, .any, .any, .any, .any, .any, .any, .any, .any, .any, .any, .any, .any, .any, .any], []⟩ : S)) (fun _ => True) (fun _ => 0) 0 (Wk.ren 0 [] hX rfl (by decide) (by simp) (by simp) (by simp) (by simp)) trivial ?_
  rintro k _
  refine vc_sound h.mo _ _ _ (by kernel_rfl) ?_
  simp
  refine xcall_fn c_insz (by simp) ?_
  simp
theorem c_Sortz : FCall P 33 [.sl false []] (fun r => r = .tup []) := by
  refine fcall_of h.f33 rfl (by decide) h.mo (by kernel_rfl) fun X hX => ?_
  have w0 : IntKind.u64.wrap 0 = 0 := by decide
  simp
  refine xcall_fn c_Lenz (by simp [w0]) ?_
  simp
  refine xcall_fn c_pdqz (by simp) ?_
  simp
end Go.Proofs.Ytadllkhmihbfhaa
