/- Typed pieces as abstract ones. -/
import Derived.Test.YtikogdkjmnpfcaaChRow
import Derived.Test.YtikogdkjmnpfcaaCh14
namespace Go.Proofs.Ytikogdkjmnpfcaa.S
open Go.ChangeShapes Go.WideShapes Go.ChangeAt Go.RowKit Go.Deep
set_option linter.all false
def p2Sh : List Tsh := [.int .u8, .int .u8]
theorem u8_wf {n : Int} (h : (Lit.int .u8 n).wf = true) : ∃ m : Nat, n = (m : Int) ∧ m < 256 := by
  have := wf_range h
  simp [IntKind.min, IntKind.max, IntKind.signed, IntKind.bits] at this
  exact ⟨n.toNat, by omega, by omega⟩
theorem p2_of (row : List AV) (h1 : row.length = 2) (h2 : ∀ (j : Nat) s a, p2Sh[j]? = some s → row[j]? = some a → IsAV s a) : ∃ x : P2, row = p2R x ∧ P2OK x := by
  match row, h1 with
  | [a, b], _ =>
    obtain ⟨n0, rfl, w0⟩ := av_int (h2 0 _ _ rfl rfl)
    obtain ⟨n1, rfl, w1⟩ := av_int (h2 1 _ _ rfl rfl)
    obtain ⟨m0, rfl, u0⟩ := u8_wf w0
    obtain ⟨m1, rfl, u1⟩ := u8_wf w1
    exact ⟨⟨m0, m1⟩, rfl, u0, u1⟩
end Go.Proofs.Ytikogdkjmnpfcaa.S
