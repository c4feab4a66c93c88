/- Tables of done requests: the program's answers are the document's; plain arithmetic. -/
import Derived.Test.YtapfediapkklnaaDoneRef
namespace Go.Proofs.Ytapfediapkklnaa
open Go.RowKit K
set_option linter.unusedSimpArgs false
set_option linter.unusedVariables false

theorem bits_or16 {x y : Nat} (hx : x < 65536) (hy : y < 65536) : bits .or .u16 x y = ((x ||| y : Nat) : Int) := by
  have h : x ||| y < 65536 := Nat.or_lt_two_pow (n := 16) hx hy
  unfold bits
  rw [IntKind.wrap_u16]
  show (((BitVec.ofInt 16 x ||| BitVec.ofInt 16 y).toNat : Nat) : Int) % 65536 = _
  rw [BitVec.ofInt_natCast, BitVec.ofInt_natCast, BitVec.toNat_or, BitVec.toNat_ofNat, BitVec.toNat_ofNat, Nat.mod_eq_of_lt hx, Nat.mod_eq_of_lt hy]
  omega
theorem bits_and16 {x : Nat} (hx : x < 65536) : bits .and .u16 x 1 = ((x % 2 : Nat) : Int) := by
  unfold bits
  rw [IntKind.wrap_u16]
  show (((BitVec.ofInt 16 x &&& BitVec.ofInt 16 ((1 : Nat) : Int)).toNat : Nat) : Int) % 65536 = _
  rw [BitVec.ofInt_natCast, BitVec.ofInt_natCast, BitVec.toNat_and, BitVec.toNat_ofNat, BitVec.toNat_ofNat, Nat.mod_eq_of_lt hx, Nat.mod_eq_of_lt (show 1 < 2 ^ 16 by decide), Nat.and_one_is_mod]
  omega
theorem bitB_test (b k : Nat) : bitB b k = b.testBit k := by
  unfold bitB
  rw [Nat.testBit_eq_decide_div_mod_eq]
  have : (b : Int) / 2 ^ ((k : Int)).toNat % 2 = ((b / 2 ^ k % 2 : Nat) : Int) := by simp
  rw [this]
  simp only [decide_eq_decide]
  omega
theorem has_eq {t b r : Int} (hb : U16 b) : rhasB t b r = hasB t b r := by
  obtain ⟨h0, h1⟩ := hb
  obtain ⟨b, rfl⟩ := Int.eq_ofNat_of_zero_le h0
  unfold rhasB hasB
  by_cases h : 0 < r ∧ r ≤ t ∧ t - r < 16
  · obtain ⟨h2, h3, h4⟩ := h
    obtain ⟨d, hd⟩ : ∃ d : Nat, t - r = d := Int.eq_ofNat_of_zero_le (by omega)
    rw [hd, bitB_test]
    have e : (b : Int) / 2 ^ ((d : Int)).toNat = ((b / 2 ^ d : Nat) : Int) := by simp
    rw [e, bits_and16 (Nat.lt_of_le_of_lt (Nat.div_le_self _ _) (by omega)), Nat.testBit_eq_decide_div_mod_eq]
    congr 1
    rw [Bool.eq_iff_iff]
    simp only [decide_eq_true_eq, beq_iff_eq]
    omega
  · have : (decide (0 < r) && decide (r ≤ t) && decide (t - r < 16)) = false := by
      simp only [Bool.and_eq_false_iff, decide_eq_false_iff_not]
      omega
    rw [this, Bool.false_and, Bool.false_and]

/-- Bits by what has them. -/
def accN (c : Nat → Bool) : Nat → Nat
  | 0 => 0
  | k + 1 => accN c k + if c k = true then 2 ^ k else 0
theorem accN_lt (c : Nat → Bool) : ∀ k, accN c k < 2 ^ k := by
  intro k
  induction k with
  | zero => simp [accN]
  | succ k ih =>
    have e : 2 ^ (k + 1) = 2 * 2 ^ k := by rw [Nat.pow_succ]; omega
    unfold accN
    split <;> omega
theorem accN_bit (c : Nat → Bool) (i : Nat) : ∀ k, (accN c k).testBit i = (decide (i < k) && c i) := by
  intro k
  induction k with
  | zero => simp [accN]
  | succ k ih =>
    unfold accN
    by_cases hc : c k = true
    · have e : accN c k + 2 ^ k = 2 ^ k * 1 ||| accN c k := by
        rw [← Nat.two_pow_add_eq_or_of_lt (accN_lt c k)]; omega
      rw [if_pos hc, e, Nat.testBit_or, ih, Nat.mul_one, Nat.testBit_two_pow]
      by_cases h1 : k = i
      · subst h1; simp [hc]
      · by_cases h2 : i < k
        · simp [h1, h2, Nat.lt_succ_of_lt h2]
        · simp [h1, h2]; omega
    · rw [if_neg hc, Nat.add_zero, ih]
      by_cases h1 : k = i
      · subst h1; simp at hc; simp [hc]
      · by_cases h2 : i < k
        · simp [h2, Nat.lt_succ_of_lt h2]
        · have : ¬ i < k + 1 := by omega
          simp [h2, this]
theorem accR_N (told b r top : Int) : ∀ k, accR told b r top k = ((accN (fun i => condR told b r top i) k : Nat) : Int) := by
  intro k
  induction k with
  | zero => rfl
  | succ k ih =>
    unfold accR accN
    rw [ih]
    split <;> simp
theorem add_eq {t b r : Int} (ht : U64 t) (hr : U64 r) (hb : U16 b) (ho : oldB t r = false) : raddC t b r = withC t b r := by
  obtain ⟨h0, h1⟩ := hb
  obtain ⟨t0, t1⟩ := ht
  obtain ⟨r0, r1⟩ := hr
  obtain ⟨b, rfl⟩ := Int.eq_ofNat_of_zero_le h0
  have hbl : b < 65536 := by omega
  have ho' : r ≠ 0 ∧ (t < r ∨ t - r < 16) := by
    simp only [oldB, Bool.or_eq_false_iff, Bool.and_eq_false_iff, decide_eq_false_iff_not] at ho
    omega
  unfold raddC withC
  by_cases h : t < r
  · obtain ⟨d, hd⟩ : ∃ d : Nat, r - t = d := Int.eq_ofNat_of_zero_le (by omega)
    have hmax : max t r = r := by omega
    rw [if_pos h, hmax, hd]
    refine Prod.ext rfl ?_
    show accR t b r r 16 = _
    have e1 : IntKind.u16.wrap ((b : Int) * 2 ^ min ((d : Int)).toNat 16) = ((b * 2 ^ min d 16 % 65536 : Nat) : Int) := by
      rw [IntKind.wrap_u16]; simp
    rw [accR_N, e1]
    have e2 := bits_or16 (x := b * 2 ^ min d 16 % 65536) (y := 1) (Nat.mod_lt _ (by decide)) (by decide)
    have e3 : bits BinOp.or IntKind.u16 ((b * 2 ^ min d 16 % 65536 : Nat) : Int) 1 = bits BinOp.or IntKind.u16 ((b * 2 ^ min d 16 % 65536 : Nat) : Int) ((1 : Nat) : Int) := rfl
    rw [e3, e2]
    congr 1
    apply Nat.eq_of_testBit_eq
    intro i
    rw [accN_bit, Nat.testBit_or]
    have e4 : (65536 : Nat) = 2 ^ 16 := rfl
    rw [e4, Nat.testBit_mod_two_pow, Nat.testBit_mul_two_pow, show (1 : Nat) = 2 ^ 0 from rfl, Nat.testBit_two_pow]
    by_cases hi : i < 16
    · have ec : condR t b r r i = (decide (i = 0) || (decide (d ≤ i) && b.testBit (i - d))) := by
        unfold condR
        have g1 : decide ((i : Int) = r - r) = decide (i = 0) := by simp only [decide_eq_decide]; omega
        have g2 : decide (r - t ≤ (i : Int)) = decide (d ≤ i) := by simp only [decide_eq_decide]; omega
        rw [g1, g2]
        by_cases hdi : d ≤ i
        · have g3 : (i : Int) - (r - t) = ((i - d : Nat) : Int) := by omega
          rw [g3, bitB_test]
        · simp [hdi]
      rw [ec]
      by_cases hd16 : d ≤ 16
      · rw [Nat.min_eq_left hd16]
        simp only [hi, decide_true, Bool.true_and, ge_iff_le]
        rw [Bool.or_comm]
        congr 1
        rw [Bool.eq_iff_iff]; simp only [decide_eq_true_eq]; omega
      · have g4 : ¬ d ≤ i := by omega
        have g5 : ¬ 16 ≤ i := by omega
        rw [Nat.min_eq_right (by omega)]
        simp only [hi, g4, g5, decide_true, decide_false, Bool.true_and, Bool.false_and, Bool.or_false, Bool.false_or, ge_iff_le]
        rw [Bool.eq_iff_iff]; simp only [decide_eq_true_eq]; omega
    · have g6 : ¬ 0 = i := by omega
      simp [hi]
      omega
  · obtain ⟨d, hd⟩ : ∃ d : Nat, t - r = d := Int.eq_ofNat_of_zero_le (by omega)
    have hd16 : d < 16 := by omega
    have hmax : max t r = t := by omega
    rw [if_neg h, hmax, hd]
    refine Prod.ext rfl ?_
    show accR t b r t 16 = _
    have hp : 2 ^ d < 65536 := Nat.lt_of_lt_of_le (Nat.pow_lt_pow_right (by decide) hd16) (by decide)
    have e1 : IntKind.u16.wrap (2 ^ min ((d : Int)).toNat 16) = ((2 ^ d : Nat) : Int) := by
      have g : min ((d : Int)).toNat 16 = d := by simp; omega
      rw [g, IntKind.wrap_u16]
      have : ((2 : Int) ^ d) = ((2 ^ d : Nat) : Int) := by simp
      rw [this]
      exact Int.emod_eq_of_lt (Int.natCast_nonneg _) (Int.ofNat_lt.2 hp)
    rw [accR_N, e1, bits_or16 hbl hp]
    congr 1
    apply Nat.eq_of_testBit_eq
    intro i
    rw [accN_bit, Nat.testBit_or, Nat.testBit_two_pow]
    by_cases hi : i < 16
    · have ec : condR t b r t i = (decide (i = d) || b.testBit i) := by
        unfold condR
        have g1 : decide ((i : Int) = t - r) = decide (i = d) := by simp only [decide_eq_decide]; omega
        have g2 : decide (t - t ≤ (i : Int)) = true := by simp only [decide_eq_true_eq]; omega
        have g3 : (i : Int) - (t - t) = (i : Int) := by omega
        rw [g1, g2, g3, bitB_test, Bool.true_and]
      rw [ec]
      simp only [hi, decide_true, Bool.true_and]
      rw [Bool.or_comm]
      congr 1
      rw [Bool.eq_iff_iff]; simp only [decide_eq_true_eq]; omega
    · have hbi : b.testBit i = false := Nat.testBit_lt_two_pow (Nat.lt_of_lt_of_le hbl (show 2 ^ 16 ≤ 2 ^ i from Nat.pow_le_pow_right (by decide) (by omega)))
      have : ¬ d = i := by omega
      simp [hi, hbi, this]
theorem gt_set {t : List (Int × Int)} (ht : t.length = 8) {c : Int} (h1 : 1 ≤ c) (h2 : c ≤ 8) (x : Int × Int) : gt (setC t c x) c = x := by
  have : c.toNat - 1 < t.length := by omega
  simp [gt, setC, List.getD_eq_getElem?_getD, this]
theorem set_same {t : List (Int × Int)} (ht : t.length = 8) {c : Int} (h1 : 1 ≤ c) (h2 : c ≤ 8) : setC t c (gt t c) = t := by
  have : c.toNat - 1 < t.length := by omega
  simp [gt, setC, List.getD_eq_getElem?_getD, this]
/-- A client that has a request more has it; and only then it is another one. -/
theorem withC_has {t b r : Int} (ht : U64 t) (hr : U64 r) (hb : U16 b) (ho : oldB t r = false) : (hasB t b r = true → withC t b r = (t, b)) ∧ hasB (withC t b r).1 (withC t b r).2 r = true := by
  obtain ⟨h0, h1⟩ := hb
  obtain ⟨t0, t1⟩ := ht
  obtain ⟨r0, r1⟩ := hr
  obtain ⟨b, rfl⟩ := Int.eq_ofNat_of_zero_le h0
  have hbl : b < 65536 := by omega
  have ho' : r ≠ 0 ∧ (t < r ∨ t - r < 16) := by
    simp only [oldB, Bool.or_eq_false_iff, Bool.and_eq_false_iff, decide_eq_false_iff_not] at ho
    omega
  unfold withC
  by_cases h : t < r
  · rw [if_pos h]
    refine ⟨fun hh => ?_, ?_⟩
    · simp [hasB] at hh; omega
    · obtain ⟨d, hd⟩ : ∃ d : Nat, r - t = d := Int.eq_ofNat_of_zero_le (by omega)
      rw [hd]
      have e1 : IntKind.u16.wrap ((b : Int) * 2 ^ min ((d : Int)).toNat 16) = ((b * 2 ^ min d 16 % 65536 : Nat) : Int) := by
        rw [IntKind.wrap_u16]; simp
      have e2 := bits_or16 (x := b * 2 ^ min d 16 % 65536) (y := 1) (Nat.mod_lt _ (by decide)) (by decide)
      have e3 : bits BinOp.or IntKind.u16 ((b * 2 ^ min d 16 % 65536 : Nat) : Int) 1 = bits BinOp.or IntKind.u16 ((b * 2 ^ min d 16 % 65536 : Nat) : Int) ((1 : Nat) : Int) := rfl
      rw [e1, e3, e2]
      have hlt : (b * 2 ^ min d 16 % 65536 ||| 1) < 65536 := Nat.or_lt_two_pow (n := 16) (Nat.mod_lt _ (by decide)) (by decide)
      rw [← has_eq ⟨by omega, by omega⟩]
      have e4 : r - r = ((0 : Nat) : Int) := by omega
      unfold rhasB
      rw [e4, bitB_test, Nat.testBit_or]
      simp
      omega
  · rw [if_neg h]
    obtain ⟨d, hd⟩ : ∃ d : Nat, t - r = d := Int.eq_ofNat_of_zero_le (by omega)
    have hd16 : d < 16 := by omega
    have hp : 2 ^ d < 65536 := Nat.lt_of_lt_of_le (Nat.pow_lt_pow_right (by decide) hd16) (by decide)
    rw [hd]
    have e1 : IntKind.u16.wrap (2 ^ min ((d : Int)).toNat 16) = ((2 ^ d : Nat) : Int) := by
      have g : min ((d : Int)).toNat 16 = d := by simp; omega
      rw [g, IntKind.wrap_u16]
      have : ((2 : Int) ^ d) = ((2 ^ d : Nat) : Int) := by simp
      rw [this]
      exact Int.emod_eq_of_lt (Int.natCast_nonneg _) (Int.ofNat_lt.2 hp)
    rw [e1, bits_or16 hbl hp]
    have hlt : b ||| 2 ^ d < 65536 := Nat.or_lt_two_pow (n := 16) hbl hp
    refine ⟨fun hh => ?_, ?_⟩
    · rw [← has_eq ⟨h0, h1⟩] at hh
      unfold rhasB at hh
      rw [hd, bitB_test] at hh
      simp only [Bool.and_eq_true] at hh
      have : b ||| 2 ^ d = b := by
        apply Nat.eq_of_testBit_eq
        intro i
        rw [Nat.testBit_or, Nat.testBit_two_pow]
        by_cases hi : d = i
        · subst hi; simp [hh.2]
        · simp [hi]
      rw [this]
    · rw [← has_eq ⟨by omega, by omega⟩]
      unfold rhasB
      rw [hd, bitB_test, Nat.testBit_or, Nat.testBit_two_pow]
      simp
      omega
theorem within_iff {c : Int} : withinB c = true ↔ 1 ≤ c ∧ c ≤ 8 := by simp [withinB]
/-- The table with a request more is the document's. -/
theorem addT_eq {t : List (Int × Int)} (ht : TOk t) {c r : Int} (hr : U64 r) : raddT t c r = addT t c r := by
  obtain ⟨h64, h16⟩ := gt_ok ht c
  unfold raddT addT
  by_cases hw : withinB c = true
  · obtain ⟨h1, h2⟩ := within_iff.1 hw
    cases ho : oldB (gt t c).1 r with
    | true => simp
    | false =>
      have hh := withC_has h64 hr h16 ho
      cases hb : hasB (gt t c).1 (gt t c).2 r with
      | true =>
        have e := hh.1 hb
        have e2 : withC (gt t c).1 (gt t c).2 r = gt t c := e
        rw [has_eq h16, hb, e2, set_same ht.len h1 h2]
        simp [hw]
      | false =>
        rw [has_eq h16, hb, add_eq h64 hr h16 ho]
        have hne : ¬ setC t c (withC (gt t c).1 (gt t c).2 r) = t := by
          intro e
          have e2 := congrArg (fun x => gt x c) e
          simp only [gt_set ht.len h1 h2] at e2
          have h3 := hh.2
          rw [e2, hb] at h3
          cases h3
        simp [hw, hne]
  · have : withinB c = false := by simpa using hw
    simp [this]
theorem hasT_eq {t : List (Int × Int)} (ht : TOk t) (c r : Int) : rhasT t c r = hasT t c r := by
  unfold rhasT hasT
  rw [has_eq (gt_ok ht c).2]
end Go.Proofs.Ytapfediapkklnaa
