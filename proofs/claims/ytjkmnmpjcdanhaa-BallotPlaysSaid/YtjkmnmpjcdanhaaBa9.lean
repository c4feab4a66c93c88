/- BallotPlays returns true. -/
import Derived.Test.YtjkmnmpjcdanhaaBa8
namespace Go.Proofs.Ytjkmnmpjcdanhaa.S
set_option linter.all false
theorem plays_26 (N s n base : Int) (hb0 : 0 ≤ base) (own : List En) (l : List Vt) (hl : l.length ≤ 9223372036854775807) (ho : own.length ≤ 9223372036854775807) (hv : ∀ v ∈ l, v.l.length ≤ 9223372036854775807)
    (hoo : ∀ e ∈ own, EnOK e) (hlo : ∀ v ∈ l, ∀ e ∈ v.l, EnOK e) :
    ACalls Try.prog 3 [.int .i64 N, .int .i64 s, .int .i64 n, .int .u64 base, .ro 10 (own.map enR), .ro 2 (l.map vtR)] [] (fun r hs => r = .bool true ∧ hs = []) := by
  by_cases h : lt26 base own l = true
  · by_cases hN : N < 1 ∨ 7 < N ∨ s < 0 ∨ N ≤ s
    · exact plays26_nil N s n hN base own l hl ho hv h
    · obtain ⟨m, rfl⟩ : ∃ m : Nat, N = m := ⟨N.toNat, by omega⟩
      obtain ⟨u, rfl⟩ : ∃ u : Nat, s = u := ⟨s.toNat, by omega⟩
      exact plays26 m (by omega) u (by omega) n base hb0 own l hl ho hv hoo hlo h
  · exact plays26_bad N s n base own l hl ho hv (by simpa using h)
end Go.Proofs.Ytjkmnmpjcdanhaa.S
