/- Chapter 07: what is known of a byte that comes in. -/
import Derived.Test.YtgpgajhaecfbgaaB2
namespace Go.Proofs.Ytgpgajhaecfbgaa
open Go.AL
theorem wf_u8 {n : Int} (h : (Lit.int .u8 n).wf = true) : 0 ≤ n ∧ n ≤ 255 := by
  simp only [Lit.wf, Bool.and_eq_true, decide_eq_true_eq] at h
  exact h
theorem str_len {l : List UInt8} (h : l.length ≤ maxLen) : l.length ≤ 9223372036854775807 := by rw [← maxLen_eq]; exact h
end Go.Proofs.Ytgpgajhaecfbgaa
