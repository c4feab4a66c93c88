/- Typed images as abstract ones. -/
import Derived.Test.YtlnafekmiidpkaaIm4
import Derived.Test.YtlnafekmiidpkaaRowB
namespace Go.Proofs.Ytlnafekmiidpkaa.S
open Go.ChangeShapes Go.WideShapes Go.ChangeAt Go.RowKit Go.Deep
set_option linter.all false
def tabSh : List Tsh := [.int .u64, .int .u16, .int .u64, .int .u16, .int .u64, .int .u16, .int .u64, .int .u16, .int .u64, .int .u16, .int .u64, .int .u16, .int .u64, .int .u16, .int .u64, .int .u16]
theorem tab_pairs : ∀ (n : Nat) (row : List AV), row.length = 2 * n → (∀ (j : Nat) a, j < n → row[2 * j]? = some a → IsAV (.int .u64) a) → (∀ (j : Nat) a, j < n → row[2 * j + 1]? = some a → IsAV (.int .u16) a) → ∃ t : List (Int × Int), row = cellsT t ∧ t.length = n ∧ TOK t
  | 0, row, h, _, _ => by
    have : row = [] := by simpa using h
    subst this
    exact ⟨[], rfl, rfl, fun c hc => by simp at hc⟩
  | n + 1, row, h, h1, h2 => by
    match row, h with
    | x :: y :: row, h =>
      obtain ⟨a, rfl, wa⟩ := av_int (h1 0 x (by omega) rfl)
      obtain ⟨b, rfl, wb⟩ := av_int (h2 0 y (by omega) rfl)
      obtain ⟨t, rfl, ht, hk⟩ := tab_pairs n row (by simp at h; omega) (fun j v hj e => h1 (j + 1) v (by omega) (by rw [show 2 * (j + 1) = 2 * j + 1 + 1 by omega]; simpa using e)) (fun j v hj e => h2 (j + 1) v (by omega) (by rw [show 2 * (j + 1) + 1 = 2 * j + 1 + 1 + 1 by omega]; simpa using e))
      refine ⟨(a, b) :: t, rfl, by simp [ht], fun c hc => ?_⟩
      rcases List.mem_cons.1 hc with rfl | hc
      · have w1 := wf_range wa
        have w2 := wf_range wb
        simp [IntKind.min, IntKind.max, IntKind.signed, IntKind.bits] at w1 w2
        exact ⟨⟨w1.1, by omega⟩, w2.1, by omega⟩
      · exact hk c hc
theorem tab_of (row : List AV) (h1 : row.length = 16) (h2 : ∀ (j : Nat) s a, tabSh[j]? = some s → row[j]? = some a → IsAV s a) : ∃ t : List (Int × Int), row = cellsT t ∧ t.length = 8 ∧ TOK t := by
  refine tab_pairs 8 row h1 (fun j a hj e => h2 (2 * j) _ a ?_ e) (fun j a hj e => h2 (2 * j + 1) _ a ?_ e)
  all_goals (match j, hj with | 0, _ | 1, _ | 2, _ | 3, _ | 4, _ | 5, _ | 6, _ | 7, _ => rfl)
abbrev Im := Mk × ByteArray × List (Int × Int)
def imR (x : Im) : List AV := imC x.1 x.2.1 x.2.2
def ImOK (x : Im) : Prop := MkOK x.1 ∧ x.2.2.length = 8 ∧ TOK x.2.2
def imSh : List Tsh := .int .u64 :: .int .u64 :: .str :: tabSh
theorem im_of (row : List AV) (h1 : row.length = 19) (h2 : ∀ (j : Nat) s a, imSh[j]? = some s → row[j]? = some a → IsAV s a) : ∃ x : Im, row = imR x ∧ ImOK x := by
  match row, h1 with
  | a :: b :: c :: r, h1 =>
    obtain ⟨n0, rfl, w0⟩ := av_int (h2 0 _ _ rfl rfl)
    obtain ⟨n1, rfl, w1⟩ := av_int (h2 1 _ _ rfl rfl)
    obtain ⟨s, rfl, _⟩ := av_str (h2 2 _ _ rfl rfl)
    obtain ⟨t, rfl, k1, k2⟩ := tab_of r (by simpa using h1) (fun j s a e1 e2 => h2 (j + 3) s a (by simpa [imSh] using e1) (by simpa using e2))
    have w0 := wf_range w0
    have w1 := wf_range w1
    simp [IntKind.min, IntKind.max, IntKind.signed, IntKind.bits] at w0 w1
    obtain ⟨m0, rfl⟩ : ∃ m : Nat, n0 = m := ⟨n0.toNat, by omega⟩
    obtain ⟨m1, rfl⟩ : ∃ m : Nat, n1 = m := ⟨n1.toNat, by omega⟩
    exact ⟨(⟨m0, m1⟩, s, t), rfl, ⟨by show m0 < _; omega, by show m1 < _; omega⟩, k1, k2⟩
theorem u32_wf {n : Int} (h : (Lit.int .u32 n).wf = true) : 0 ≤ n ∧ n < 4294967296 := by
  have := wf_range h
  simp [IntKind.min, IntKind.max, IntKind.signed, IntKind.bits] at this
  exact ⟨this.1, by omega⟩
theorem tells15I (x : Im) (hx : ImOK x) (k : Int) (hk : 0 ≤ k ∧ k < 4294967296) : ACalls Try.prog 6 [.arr (imR x), .int .u32 k] [] (fun r hs => r = .bool true ∧ hs = []) := by
  obtain ⟨n, rfl⟩ : ∃ n : Nat, k = n := ⟨k.toNat, by omega⟩
  exact tells15 x.1 hx.1 x.2.1 x.2.2 hx.2.1 hx.2.2 n (by omega)
end Go.Proofs.Ytlnafekmiidpkaa.S
