/- Typed lists of entries as abstract ones. -/
import Derived.Test.YtjkmnmpjcdanhaaMg7
import Derived.Test.YtjkmnmpjcdanhaaRowB
namespace Go.Proofs.Ytjkmnmpjcdanhaa.S
open Go.ChangeShapes Go.WideShapes Go.ChangeAt Go.RowKit Go.Deep
set_option linter.all false
def lkSh : List Tsh := [.int .u64, .int .u64, .int .u32, .int .u32]
def enSh : List Tsh := [.int .u64, .int .u64, .int .u64, .int .i64, .int .u64, .int .u64, .int .u32, .int .u32, .str, .sl lkSh]
theorem u64_wf {n : Int} (h : (Lit.int .u64 n).wf = true) : U64 n := by
  have := wf_range h
  simp [IntKind.min, IntKind.max, IntKind.signed, IntKind.bits] at this
  exact ⟨this.1, by omega⟩
theorem u32_wf {n : Int} (h : (Lit.int .u32 n).wf = true) : U32 n := by
  have := wf_range h
  simp [IntKind.min, IntKind.max, IntKind.signed, IntKind.bits] at this
  exact ⟨this.1, by omega⟩
theorem lk_of (row : List AV) (h1 : row.length = 4) (h2 : ∀ (j : Nat) s a, lkSh[j]? = some s → row[j]? = some a → IsAV s a) : ∃ x : Lk, row = lkR x ∧ LkOK x := by
  match row, h1 with
  | [a, b, c, d], _ =>
    obtain ⟨n0, rfl, w0⟩ := av_int (h2 0 _ _ rfl rfl)
    obtain ⟨n1, rfl, w1⟩ := av_int (h2 1 _ _ rfl rfl)
    obtain ⟨n2, rfl, w2⟩ := av_int (h2 2 _ _ rfl rfl)
    obtain ⟨n3, rfl, w3⟩ := av_int (h2 3 _ _ rfl rfl)
    exact ⟨⟨n0, n1, n2, n3⟩, rfl, u64_wf w0, u64_wf w1, u32_wf w2, u32_wf w3⟩
theorem en_of (row : List AV) (h1 : row.length = 10) (h2 : ∀ (j : Nat) s a, enSh[j]? = some s → row[j]? = some a → IsAV s a) : ∃ e : En, row = enR e ∧ EnOK e := by
  match row, h1 with
  | [a0, a1, a2, a3, a4, a5, a6, a7, a8, a9], _ =>
    obtain ⟨n0, rfl, w0⟩ := av_int (h2 0 _ _ rfl rfl)
    obtain ⟨n1, rfl, w1⟩ := av_int (h2 1 _ _ rfl rfl)
    obtain ⟨n2, rfl, w2⟩ := av_int (h2 2 _ _ rfl rfl)
    obtain ⟨n3, rfl, w3⟩ := av_int (h2 3 _ _ rfl rfl)
    obtain ⟨n4, rfl, w4⟩ := av_int (h2 4 _ _ rfl rfl)
    obtain ⟨n5, rfl, w5⟩ := av_int (h2 5 _ _ rfl rfl)
    obtain ⟨n6, rfl, w6⟩ := av_int (h2 6 _ _ rfl rfl)
    obtain ⟨n7, rfl, w7⟩ := av_int (h2 7 _ _ rfl rfl)
    obtain ⟨s, rfl, _⟩ := av_str (h2 8 _ _ rfl rfl)
    obtain ⟨xs, rfl, hl, hr⟩ := av_sl (h2 9 _ _ rfl rfl)
    obtain ⟨b, rfl, hb⟩ := rows_of lkR LkOK xs (fun row hrow => lk_of row (hr row hrow).1 (hr row hrow).2)
    have hl : b.length ≤ maxLen := by simpa using hl
    exact ⟨⟨n0, n1, n2, n3, ⟨n4, n5, n6, n7⟩, s, b⟩, rfl, u64_wf w0, ⟨u64_wf w4, u64_wf w5, u32_wf w6, u32_wf w7⟩, hb, by unfold maxLen at hl; omega⟩
def liR (l : List En) : List AV := [.ro 10 (l.map enR)]
def LiOK (l : List En) : Prop := l.length ≤ 9223372036854775807 ∧ ∀ e ∈ l, EnOK e
def liSh : List Tsh := [.sl enSh]
theorem li_of (row : List AV) (h1 : row.length = 1) (h2 : ∀ (j : Nat) s a, liSh[j]? = some s → row[j]? = some a → IsAV s a) : ∃ l : List En, row = liR l ∧ LiOK l := by
  match row, h1 with
  | [a0], _ =>
    obtain ⟨xs, rfl, hl, hr⟩ := av_sl (h2 0 _ _ rfl rfl)
    obtain ⟨b, rfl, hb⟩ := rows_of enR EnOK xs (fun row hrow => en_of row (hr row hrow).1 (hr row hrow).2)
    have hl : b.length ≤ maxLen := by simpa using hl
    exact ⟨b, rfl, by unfold maxLen at hl; omega, hb⟩
theorem li_ok {all : List (List En)} (h : ∀ l ∈ all, LiOK l) : AllOK all := fun e he => by
  obtain ⟨l, hl, hel⟩ := List.mem_flatten.1 he
  exact (h l hl).2 e hel
theorem li_len {all : List (List En)} (h : ∀ l ∈ all, LiOK l) : ∀ l ∈ all, l.length ≤ 9223372036854775807 := fun l hl => (h l hl).1
end Go.Proofs.Ytjkmnmpjcdanhaa.S
