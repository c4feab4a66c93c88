/- Typed tables as abstract ones. -/
import Derived.Test.YtapfediapkklnaaDb5
import Derived.Test.YtapfediapkklnaaRowB
namespace Go.Proofs.Ytapfediapkklnaa.S
open Go.ChangeShapes Go.WideShapes Go.ChangeAt Go.RowKit Go.Deep
set_option linter.all false
def tabSh : List Tsh := [.int .u64, .int .u16, .int .u64, .int .u16, .int .u64, .int .u16, .int .u64, .int .u16, .int .u64, .int .u16, .int .u64, .int .u16, .int .u64, .int .u16, .int .u64, .int .u16]
theorem tab_pairs : ∀ (n : Nat) (row : List AV), row.length = 2 * n → (∀ (j : Nat) a, j < n → row[2 * j]? = some a → IsAV (.int .u64) a) → (∀ (j : Nat) a, j < n → row[2 * j + 1]? = some a → IsAV (.int .u16) a) → ∃ t : List (Int × Int), row = cellsT t ∧ t.length = n ∧ TOK t
  | 0, row, h, _, _ => by
    have : row = [] := by simpa using h
    subst this
    exact ⟨[], rfl, rfl, fun c hc => by simp at hc⟩
  | n + 1, row, h, h1, h2 => by
    match row, h with
    | x :: y :: row, h =>
      obtain ⟨a, rfl, wa⟩ := av_int (h1 0 x (by omega) rfl)
      obtain ⟨b, rfl, wb⟩ := av_int (h2 0 y (by omega) rfl)
      obtain ⟨t, rfl, ht, hk⟩ := tab_pairs n row (by simp at h; omega) (fun j v hj e => h1 (j + 1) v (by omega) (by rw [show 2 * (j + 1) = 2 * j + 1 + 1 by omega]; simpa using e)) (fun j v hj e => h2 (j + 1) v (by omega) (by rw [show 2 * (j + 1) + 1 = 2 * j + 1 + 1 + 1 by omega]; simpa using e))
      refine ⟨(a, b) :: t, rfl, by simp [ht], fun c hc => ?_⟩
      rcases List.mem_cons.1 hc with rfl | hc
      · have w1 := wf_range wa
        have w2 := wf_range wb
        simp [IntKind.min, IntKind.max, IntKind.signed, IntKind.bits] at w1 w2
        exact ⟨⟨w1.1, by omega⟩, w2.1, by omega⟩
      · exact hk c hc
theorem tab_of (row : List AV) (h1 : row.length = 16) (h2 : ∀ (j : Nat) s a, tabSh[j]? = some s → row[j]? = some a → IsAV s a) : ∃ t : List (Int × Int), row = cellsT t ∧ t.length = 8 ∧ TOK t := by
  refine tab_pairs 8 row h1 (fun j a hj e => h2 (2 * j) _ a ?_ e) (fun j a hj e => h2 (2 * j + 1) _ a ?_ e)
  all_goals (match j, hj with | 0, _ | 1, _ | 2, _ | 3, _ | 4, _ | 5, _ | 6, _ | 7, _ => rfl)
end Go.Proofs.Ytapfediapkklnaa.S
