/- Typed votes as abstract ones. -/
import Derived.Test.YtjkmnmpjcdanhaaMgRow
import Derived.Test.YtjkmnmpjcdanhaaBa5
namespace Go.Proofs.Ytjkmnmpjcdanhaa.S
open Go.ChangeShapes Go.WideShapes Go.ChangeAt Go.RowKit Go.Deep
set_option linter.all false
theorem int_of (row : List AV) (h1 : row.length = 1) (h2 : ∀ (j : Nat) s a, ([.int .i64] : List Tsh)[j]? = some s → row[j]? = some a → IsAV s a) : ∃ n : Int, row = intR n ∧ True := by
  match row, h1 with
  | [a], _ =>
    obtain ⟨n0, rfl, w0⟩ := av_int (h2 0 _ _ rfl rfl)
    exact ⟨n0, rfl, trivial⟩
def vtSh : List Tsh := [.int .i64, .sl enSh]
def VtOK (v : Vt) : Prop := v.l.length ≤ 9223372036854775807 ∧ ∀ e ∈ v.l, EnOK e
theorem vt_of (row : List AV) (h1 : row.length = 2) (h2 : ∀ (j : Nat) s a, vtSh[j]? = some s → row[j]? = some a → IsAV s a) : ∃ v : Vt, row = vtR v ∧ VtOK v := by
  match row, h1 with
  | [a0, a1], _ =>
    obtain ⟨n0, rfl, w0⟩ := av_int (h2 0 _ _ rfl rfl)
    obtain ⟨xs, rfl, hl, hr⟩ := av_sl (h2 1 _ _ rfl rfl)
    obtain ⟨b, rfl, hb⟩ := rows_of enR EnOK xs (fun row hrow => en_of row (hr row hrow).1 (hr row hrow).2)
    have hl : b.length ≤ maxLen := by simpa using hl
    exact ⟨⟨n0, b⟩, rfl, by unfold maxLen at hl; exact ⟨by omega, hb⟩⟩
end Go.Proofs.Ytjkmnmpjcdanhaa.S
