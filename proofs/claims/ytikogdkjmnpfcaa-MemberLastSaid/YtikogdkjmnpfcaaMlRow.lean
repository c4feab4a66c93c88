/- Typed calls on chains as abstract ones. -/
import Derived.Test.YtikogdkjmnpfcaaMl1
import Derived.Test.YtikogdkjmnpfcaaRowB
namespace Go.Proofs.Ytikogdkjmnpfcaa.S
open Go.ChangeShapes Go.WideShapes Go.ChangeAt Go.RowKit Go.Deep
set_option linter.all false
def itSh : List Tsh := [.int .u64, .int .i64, .str]
theorem u64_wf {n : Int} (h : (Lit.int .u64 n).wf = true) : U64 n := by
  have := wf_range h
  simp [IntKind.min, IntKind.max, IntKind.signed, IntKind.bits] at this
  exact ⟨this.1, by omega⟩
theorem nat_of {n : Int} (h : (Lit.int .u64 n).wf = true) : ∃ m : Nat, n = (m : Int) ∧ m < 18446744073709551616 := by
  have := u64_wf h
  exact ⟨n.toNat, by have := this.1; omega, by have := this.2; omega⟩
theorem it_of (row : List AV) (h1 : row.length = 3) (h2 : ∀ (j : Nat) s a, itSh[j]? = some s → row[j]? = some a → IsAV s a) : ∃ x : It, row = itR x ∧ True := by
  match row, h1 with
  | [a, b, c], _ =>
    obtain ⟨n0, rfl, w0⟩ := av_int (h2 0 _ _ rfl rfl)
    obtain ⟨n1, rfl, w1⟩ := av_int (h2 1 _ _ rfl rfl)
    obtain ⟨s, rfl, _⟩ := av_str (h2 2 _ _ rfl rfl)
    exact ⟨⟨n0, n1, s⟩, rfl, trivial⟩
end Go.Proofs.Ytikogdkjmnpfcaa.S
