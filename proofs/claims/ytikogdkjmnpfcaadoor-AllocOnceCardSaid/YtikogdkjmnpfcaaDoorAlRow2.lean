/- Typed calls on places as abstract ones. -/
import Derived.Test.YtikogdkjmnpfcaaDoorAl7
import Derived.Test.YtikogdkjmnpfcaaDoorAlRow
namespace Go.Proofs.YtikogdkjmnpfcaaDoor.S
open Go.ChangeShapes Go.WideShapes Go.ChangeAt Go.RowKit Go.Deep
set_option linter.all false
def op13Sh : List Tsh := [.int .i64, .int .i64]
theorem op13_of (row : List AV) (h1 : row.length = 2) (h2 : ∀ (j : Nat) s a, op13Sh[j]? = some s → row[j]? = some a → IsAV s a) : ∃ x : Op13, row = op13 x ∧ True := by
  match row, h1 with
  | [a, b], _ =>
    obtain ⟨n0, rfl, w0⟩ := av_int (h2 0 _ _ rfl rfl)
    obtain ⟨n1, rfl, w1⟩ := av_int (h2 1 _ _ rfl rfl)
    exact ⟨⟨n0, n1⟩, rfl, trivial⟩
end Go.Proofs.YtikogdkjmnpfcaaDoor.S
