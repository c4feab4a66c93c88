/- Typed decrees as abstract ones. -/
import Derived.Test.YtikogdkjmnpfcaaDc6
import Derived.Test.YtikogdkjmnpfcaaRowB
namespace Go.Proofs.Ytikogdkjmnpfcaa.S
open Go.ChangeShapes Go.WideShapes Go.ChangeAt Go.RowKit Go.Deep
set_option linter.all false
theorem rng {k : IntKind} {n : Int} (h : (Lit.int k n).wf = true) (hk : k = .u64 ∨ k = .u32) : 0 ≤ n ∧ n < (if k = .u64 then 18446744073709551616 else 4294967296) := by
  have := wf_range h
  rcases hk with rfl | rfl <;> simp [IntKind.min, IntKind.max, IntKind.signed, IntKind.bits] at this ⊢ <;> omega
def dcSh : List Tsh := [.int .i64, .int .u64, .int .u64, .str, .int .u32, .int .i64, .int .u64, .int .u64, .int .u64]
theorem dc_of (row : List AV) (h1 : row.length = 9) (h2 : ∀ (j : Nat) s a, dcSh[j]? = some s → row[j]? = some a → IsAV s a) : ∃ d : Dc, row = dcC d ∧ DR d := by
  match row, h1 with
  | [a, b, c, d, e, f, g, h, i], _ =>
    obtain ⟨n0, rfl, w0⟩ := av_int (h2 0 _ _ rfl rfl)
    obtain ⟨n1, rfl, w1⟩ := av_int (h2 1 _ _ rfl rfl)
    obtain ⟨n2, rfl, w2⟩ := av_int (h2 2 _ _ rfl rfl)
    obtain ⟨s, rfl, _⟩ := av_str (h2 3 _ _ rfl rfl)
    obtain ⟨n4, rfl, w4⟩ := av_int (h2 4 _ _ rfl rfl)
    obtain ⟨n5, rfl, w5⟩ := av_int (h2 5 _ _ rfl rfl)
    obtain ⟨n6, rfl, w6⟩ := av_int (h2 6 _ _ rfl rfl)
    obtain ⟨n7, rfl, w7⟩ := av_int (h2 7 _ _ rfl rfl)
    obtain ⟨n8, rfl, w8⟩ := av_int (h2 8 _ _ rfl rfl)
    refine ⟨⟨n0, n1, n2, s, n4, n5, n6, n7, n8⟩, rfl, ?_⟩
    exact ⟨by simpa using rng w1 (.inl rfl), by simpa using rng w2 (.inl rfl), by simpa using rng w4 (.inr rfl), by simpa using rng w6 (.inl rfl), by simpa using rng w7 (.inl rfl), by simpa using rng w8 (.inl rfl)⟩
end Go.Proofs.Ytikogdkjmnpfcaa.S
