/- Typed items and numbers as abstract ones. -/
import Derived.Test.YtikogdkjmnpfcaaMb5
import Derived.Test.YtikogdkjmnpfcaaRowB
namespace Go.Proofs.Ytikogdkjmnpfcaa.S
open Go.ChangeShapes Go.WideShapes Go.ChangeAt Go.RowKit Go.Deep
set_option linter.all false
theorem nat_of {n : Int} (h : (Lit.int .u64 n).wf = true) : ∃ k : Nat, n = (k : Int) ∧ k < 18446744073709551616 := by
  have := wf_range h
  simp [IntKind.min, IntKind.max, IntKind.signed, IntKind.bits] at this
  exact ⟨n.toNat, by omega, by omega⟩
def itSh : List Tsh := [.int .u64, .int .i64, .str]
def itRw (x : Int × Int × ByteArray) : List AV := [.int .u64 x.1, .int .i64 x.2.1, .str x.2.2]
theorem it_of (row : List AV) (h1 : row.length = 3) (h2 : ∀ (j : Nat) s a, itSh[j]? = some s → row[j]? = some a → IsAV s a) : ∃ x : Int × Int × ByteArray, row = itRw x ∧ True := by
  match row, h1 with
  | [a, b, c], _ =>
    obtain ⟨n0, rfl, w0⟩ := av_int (h2 0 _ _ rfl rfl)
    obtain ⟨n1, rfl, w1⟩ := av_int (h2 1 _ _ rfl rfl)
    obtain ⟨s, rfl, _⟩ := av_str (h2 2 _ _ rfl rfl)
    exact ⟨(n0, n1, s), rfl, trivial⟩
end Go.Proofs.Ytikogdkjmnpfcaa.S
