/- The check sum in natural numbers: half a step is linear over xor. -/
import Derived.Test.YtejflbmpokdhgaaBits
namespace Go.Proofs.Ytejflbmpokdhgaa.K
open Go
def hP : Nat := 2197175160
def hb (n : Nat) : Nat := (n / 2) ^^^ (if n % 2 = 1 then hP else 0)
def hN : Nat → Nat → Nat
  | 0, n => n
  | k + 1, n => hb (hN k n)
theorem xor_half (x y : Nat) : (x ^^^ y) / 2 = (x / 2) ^^^ (y / 2) := by
  have := Nat.shiftRight_xor_distrib (a := x) (b := y) (i := 1)
  simpa [Nat.shiftRight_eq_div_pow] using this
theorem hb_xor (x y : Nat) : hb (x ^^^ y) = hb x ^^^ hb y := by
  unfold hb
  rw [xor_half]
  have h := Nat.testBit_xor (x := x) (y := y) (i := 0)
  rw [Nat.testBit_zero, Nat.testBit_zero, Nat.testBit_zero] at h
  generalize (x ^^^ y) % 2 = z at h ⊢
  by_cases hx : x % 2 = 1 <;> by_cases hy : y % 2 = 1 <;> simp [hx, hy] at h <;> simp [hx, hy, h]
  · rw [Nat.xor_assoc, Nat.xor_comm hP, Nat.xor_assoc, Nat.xor_self, Nat.xor_zero]
  · rw [Nat.xor_assoc, Nat.xor_assoc, Nat.xor_comm (y / 2)]
  · rw [Nat.xor_assoc]
theorem hN_xor (k x y : Nat) : hN k (x ^^^ y) = hN k x ^^^ hN k y := by
  induction k with
  | zero => rfl
  | succ k ih => simp only [hN, ih, hb_xor]
theorem hb_two (x : Nat) : hb (2 * x) = x := by
  unfold hb
  rw [Nat.mul_div_cancel_left _ (by decide), if_neg (by omega), Nat.xor_zero]
theorem hN_shift (j x : Nat) : hN j (2 ^ j * x) = x := by
  induction j generalizing x with
  | zero => simp [hN]
  | succ j ih => 
    show hb (hN j (2 ^ (j + 1) * x)) = x
    rw [Nat.pow_succ, Nat.mul_assoc, ih, hb_two]
theorem hN_add (i j n : Nat) : hN (i + j) n = hN i (hN j n) := by
  induction i with
  | zero => simp [hN]
  | succ i ih => rw [Nat.succ_add]; simp only [hN, ih]
theorem hb_lt {n : Nat} (h : n < 4294967296) : hb n < 4294967296 := by
  unfold hb
  refine Nat.xor_lt_two_pow (n := 32) (by omega) ?_
  split <;> decide
theorem hN_lt {n : Nat} (h : n < 4294967296) : ∀ k, hN k n < 4294967296
  | 0 => h
  | k + 1 => hb_lt (hN_lt h k)
theorem add_xor (i a b : Nat) (h : b < 2 ^ i) : 2 ^ i * a + b = 2 ^ i * a ^^^ b := by
  rw [Nat.two_pow_add_eq_or_of_lt h]
  apply Nat.eq_of_testBit_eq
  intro j
  rw [Nat.testBit_or, Nat.testBit_xor, Nat.testBit_two_pow_mul]
  by_cases hj : i ≤ j
  · rw [Nat.testBit_lt_two_pow (Nat.lt_of_lt_of_le h (Nat.pow_le_pow_right (by decide) hj))]
    simp
  · simp [hj]
theorem hN_four (n : Nat) : hN 4 n = (n / 16) ^^^ hN 4 (n % 16) := by
  have h : n = 2 ^ 4 * (n / 16) ^^^ n % 16 := by
    rw [← add_xor 4 _ _ (by omega)]
    omega
  rw (config := { occs := .pos [1] }) [h]
  rw [hN_xor, hN_shift]
/-- One bit more, as the document has it. -/
theorem bit_hb (n b : Nat) (h : b < 2) : hb (n ^^^ b) = (n / 2) ^^^ (if (n ^^^ b) % 2 = 1 then hP else 0) := by
  unfold hb
  rw [xor_half, show b / 2 = 0 by omega, Nat.xor_zero]
theorem hN_bit (j n c : Nat) : hN (j + 1) (n ^^^ c % 2 ^ (j + 1)) = hb (hN j (n ^^^ c % 2 ^ j) ^^^ (c / 2 ^ j % 2)) := by
  show hb (hN j _) = _
  congr 1
  rw [Nat.mod_pow_succ, Nat.add_comm, add_xor _ _ _ (Nat.mod_lt _ (Nat.two_pow_pos j)), Nat.xor_comm (2 ^ j * _), ← Nat.xor_assoc, hN_xor, hN_shift]
/-- The sum behind a text's first bytes. -/
def crcN (n : Nat) (l : List Int) : Nat → Nat
  | 0 => n
  | k + 1 => hN 8 (crcN n l k ^^^ (l[k]?.getD 0).toNat)
theorem crcN_lt {n : Nat} {l : List Int} (h : n < 4294967296) (hl : ∀ x ∈ l, 0 ≤ x ∧ x < 256) : ∀ k, crcN n l k < 4294967296
  | 0 => h
  | k + 1 => by
    refine hN_lt (Nat.xor_lt_two_pow (n := 32) (crcN_lt h hl k) ?_) 8
    rcases Nat.lt_or_ge k l.length with hk | hk
    · rw [List.getElem?_eq_getElem hk]
      have := hl _ (List.getElem_mem hk)
      simp only [Option.getD_some]
      omega
    · rw [List.getElem?_eq_none hk]
      decide
end Go.Proofs.Ytejflbmpokdhgaa.K
