/- ImagePuts, of typed values. -/
import Derived.Test.YtlnafekmiidpkaaImRow
import Derived.Test.YtlnafekmiidpkaaIm8
namespace Go.Proofs.Ytlnafekmiidpkaa.S
open Go.ChangeShapes Go.WideShapes Go.ChangeAt Go.RowKit Go.Deep
set_option linter.all false
def spR (p : Nat × Nat) : List AV := [.int .u32 p.1, .int .u32 p.2]
def SpOK (p : Nat × Nat) : Prop := p.1 < 4294967296 ∧ p.2 < 4294967296
def spSh : List Tsh := [.int .u32, .int .u32]
theorem sp_of (row : List AV) (h1 : row.length = 2) (h2 : ∀ (j : Nat) s a, spSh[j]? = some s → row[j]? = some a → IsAV s a) : ∃ p : Nat × Nat, row = spR p ∧ SpOK p := by
  match row, h1 with
  | [a, b], _ =>
    obtain ⟨n0, rfl, w0⟩ := av_int (h2 0 _ _ rfl rfl)
    obtain ⟨n1, rfl, w1⟩ := av_int (h2 1 _ _ rfl rfl)
    have w0 := u32_wf w0
    have w1 := u32_wf w1
    obtain ⟨m0, rfl⟩ : ∃ m : Nat, n0 = m := ⟨n0.toNat, by omega⟩
    obtain ⟨m1, rfl⟩ : ∃ m : Nat, n1 = m := ⟨n1.toNat, by omega⟩
    exact ⟨(m0, m1), rfl, by show m0 < _; omega, by show m1 < _; omega⟩
theorem puts15I (x : Im) (hx : ImOK x) (p : Nat × Nat) (hp : SpOK p) (d : ByteArray) (k : Int) (hk : 0 ≤ k ∧ k < 4294967296) : ACalls Try.prog 9 [.arr (imR x), .arr (spR p), .str d, .int .u32 k] [] (fun r hs => r = .bool true ∧ hs = []) := by
  obtain ⟨n, rfl⟩ : ∃ n : Nat, k = n := ⟨k.toNat, by omega⟩
  exact puts15 x.1 hx.1 x.2.1 x.2.2 hx.2.1 p.1 p.2 hp.1 hp.2 d n (by omega)
end Go.Proofs.Ytlnafekmiidpkaa.S
