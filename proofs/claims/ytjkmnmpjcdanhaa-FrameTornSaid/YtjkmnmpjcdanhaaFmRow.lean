/- Numbers of typed values. -/
import Derived.Test.YtjkmnmpjcdanhaaRowA
namespace Go.Proofs.Ytjkmnmpjcdanhaa.S
open Go.ChangeShapes Go.WideShapes Go.ChangeAt Go.RowKit Go.Deep
set_option linter.all false
theorem u64f_wf {n : Int} (h : (Lit.int .u64 n).wf = true) : 0 ≤ n ∧ n < 18446744073709551616 := by
  have w := wf_range h
  simp [IntKind.min, IntKind.max, IntKind.signed, IntKind.bits] at w
  omega
end Go.Proofs.Ytjkmnmpjcdanhaa.S
