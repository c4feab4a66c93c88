/- Bits of numbers without a sign, as of natural numbers. -/
import Derived.Laws.BitsLemmas
namespace Go.Proofs.Ytejflbmpokdhgaa.K
open Go
theorem ofInt_nat (n : Nat) (x : Nat) : BitVec.ofInt n (x : Int) = BitVec.ofNat n x := by
  apply BitVec.eq_of_toNat_eq
  simp
theorem wrap_u (k : IntKind) (hk : k.signed = false) (x : Nat) (hx : x < 2 ^ k.bits) : k.wrap (x : Int) = x := by
  unfold IntKind.wrap
  simp only [hk, Bool.false_and]
  rw [if_neg (by simp)]
  have h : ((2 : Int) ^ k.bits) = ((2 ^ k.bits : Nat) : Int) := by simp
  rw [h, ← Int.natCast_emod, Nat.mod_eq_of_lt hx]
theorem bits_u (k : IntKind) (hk : k.signed = false) (op : BinOp) (x y : Nat) (hx : x < 2 ^ k.bits) (hy : y < 2 ^ k.bits) :
    bits op k (x : Int) y = ((match op with | .and => x &&& y | .or => x ||| y | .xor => x ^^^ y | _ => (BitVec.ofNat k.bits x &&& ~~~BitVec.ofNat k.bits y).toNat : Nat) : Int) := by
  unfold bits
  simp only [ofInt_nat]
  rw [wrap_u k hk _ (BitVec.isLt _)]
  congr 1
  cases op <;> simp [Nat.mod_eq_of_lt hx, Nat.mod_eq_of_lt hy]
theorem and_u (k : IntKind) (hk : k.signed = false) (x y : Nat) (hx : x < 2 ^ k.bits) (hy : y < 2 ^ k.bits) : bits .and k (x : Int) y = ((x &&& y : Nat) : Int) := bits_u k hk .and x y hx hy
theorem or_u (k : IntKind) (hk : k.signed = false) (x y : Nat) (hx : x < 2 ^ k.bits) (hy : y < 2 ^ k.bits) : bits .or k (x : Int) y = ((x ||| y : Nat) : Int) := bits_u k hk .or x y hx hy
theorem xor_u (k : IntKind) (hk : k.signed = false) (x y : Nat) (hx : x < 2 ^ k.bits) (hy : y < 2 ^ k.bits) : bits .xor k (x : Int) y = ((x ^^^ y : Nat) : Int) := bits_u k hk .xor x y hx hy
/-- Whatever comes of bits is a number of its kind. -/
theorem bits_rng (k : IntKind) (hk : k.signed = false) (op : BinOp) (x y : Int) : ∃ n : Nat, bits op k x y = n ∧ n < 2 ^ k.bits := by
  unfold bits
  exact ⟨_, wrap_u k hk _ (BitVec.isLt _), BitVec.isLt _⟩
theorem and_const (x : Int) (c : Nat) (hc : c < 4294967296) : ∃ n : Nat, bits .and .u32 x c = n ∧ n ≤ c := by
  unfold bits
  simp only [ofInt_nat]
  refine ⟨_, wrap_u .u32 rfl _ (BitVec.isLt _), ?_⟩
  rw [BitVec.toNat_and, BitVec.toNat_ofNat, Nat.mod_eq_of_lt (by exact hc)]
  exact Nat.and_le_right
end Go.Proofs.Ytejflbmpokdhgaa.K
