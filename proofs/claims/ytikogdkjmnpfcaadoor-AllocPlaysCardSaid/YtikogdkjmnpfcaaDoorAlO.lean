/- Contracts, picked of my other texts. -/
import Derived.Test.YtikogdkjmnpfcaaDoorZAl
import Derived.Test.YtikogdkjmnpfcaaDoorS28
import Derived.Lib.BitFns
import Derived.Lib.TrailingZeros
namespace Go.Proofs.YtikogdkjmnpfcaaDoor.S
open Go.Lib
set_option linter.all false
set_option maxRecDepth 100000
set_option maxHeartbeats 1000000
theorem wruN {n : Nat} (h : n < 18446744073709551616) : IntKind.u64.wrap (n : Int) = n := IntWalk.u64_in _ ⟨by omega, by omega⟩
theorem bvN {n : Nat} (h : n < 18446744073709551616) : (BitVec.ofInt 64 (n : Int)).toNat = n := by
  rw [BitVec.toNat_ofInt]
  simp; omega
theorem andN {a b : Nat} (ha : a < 18446744073709551616) (hb : b < 18446744073709551616) : IntKind.u64.wrap ((BitVec.ofInt IntKind.u64.bits (a : Int) &&& BitVec.ofInt IntKind.u64.bits (b : Int)).toNat : Int) = ((a &&& b : Nat) : Int) := by
  show IntKind.u64.wrap ((BitVec.ofInt 64 (a : Int) &&& BitVec.ofInt 64 (b : Int)).toNat : Int) = _
  rw [BitVec.toNat_and, bvN ha, bvN hb]
  exact wruN (Nat.lt_of_le_of_lt Nat.and_le_left ha)
theorem orN {a b : Nat} (ha : a < 18446744073709551616) (hb : b < 18446744073709551616) : IntKind.u64.wrap ((BitVec.ofInt IntKind.u64.bits (a : Int) ||| BitVec.ofInt IntKind.u64.bits (b : Int)).toNat : Int) = ((a ||| b : Nat) : Int) := by
  show IntKind.u64.wrap ((BitVec.ofInt 64 (a : Int) ||| BitVec.ofInt 64 (b : Int)).toNat : Int) = _
  rw [BitVec.toNat_or, bvN ha, bvN hb]
  exact wruN (show a ||| b < 2 ^ 64 from Nat.or_lt_two_pow ha hb)
theorem notN {a : Nat} (ha : a < 18446744073709551616) : IntKind.u64.wrap ((BitVec.ofInt IntKind.u64.bits (if IntKind.u64.signed then -1 else IntKind.u64.max) ^^^ BitVec.ofInt IntKind.u64.bits (a : Int)).toNat : Int) = ((18446744073709551615 - a : Nat) : Int) := by
  have e : (BitVec.ofInt IntKind.u64.bits (if IntKind.u64.signed then -1 else IntKind.u64.max)) = BitVec.allOnes 64 := by
    show BitVec.ofInt 64 18446744073709551615 = BitVec.allOnes 64
    decide
  rw [e]
  show IntKind.u64.wrap ((BitVec.allOnes 64 ^^^ BitVec.ofInt 64 (a : Int)).toNat : Int) = _
  rw [BitVec.allOnes_xor, BitVec.toNat_not, bvN ha]
  exact wruN (by omega)
theorem shrN (a k : Nat) (ha : a < 18446744073709551616) : (a : Int).fdiv (2 ^ min ((k : Int)).toNat IntKind.u64.bits) = ((a >>> k : Nat) : Int) := by
  show (a : Int).fdiv (2 ^ min ((k : Int)).toNat 64) = _
  have hp : ∀ j : Nat, ((2 : Int) ^ j) = ((2 ^ j : Nat) : Int) := fun j => by norm_cast
  rw [Int.toNat_natCast, Int.fdiv_eq_ediv_of_nonneg _ (by rw [hp]; exact Int.natCast_nonneg _), Nat.shiftRight_eq_div_pow]
  by_cases h : k ≤ 64
  · rw [Nat.min_eq_left h]; norm_cast
  · rw [Nat.min_eq_right (by omega)]
    have h1 : a / 2 ^ 64 = 0 := Nat.div_eq_of_lt ha
    have h2 : a / 2 ^ k = 0 := Nat.div_eq_of_lt (Nat.lt_of_lt_of_le (m := 2 ^ 64) ha (Nat.pow_le_pow_right (by decide) (by omega)))
    rw [h2]
    have : ((a : Int) / 2 ^ 64) = ((a / 2 ^ 64 : Nat) : Int) := by norm_cast
    rw [this, h1]
theorem shl1N (k : Nat) (hk : k < 64) : IntKind.u64.wrap ((1 : Int) * 2 ^ min ((k : Int)).toNat IntKind.u64.bits) = ((1 <<< k : Nat) : Int) := by
  show IntKind.u64.wrap ((1 : Int) * 2 ^ min ((k : Int)).toNat 64) = _
  rw [Int.toNat_natCast, Nat.min_eq_left (by omega), Nat.one_shiftLeft, Int.one_mul]
  have h : 2 ^ k < 18446744073709551616 := Nat.pow_lt_pow_right (by omega) hk
  have := wruN h
  rw [← this]
  norm_cast
theorem rows1_at : ∀ {l : List AV} {i : Nat} {y : AV}, l[i]? = some y → (rows1 l)[i]? = some [y]
  | [], i, y, h => by simp at h
  | x :: l, 0, y, h => by simp at h; subst h; rfl
  | x :: l, i + 1, y, h => by simpa [rows1] using rows1_at (l := l) (i := i) (by simpa using h)
theorem tab_at (J k : Nat) (h3 : J < 64) (h4 : Lib.deBruijn64tab.getD J 0 = k) : (Lib.deBruijn64tab.map fun n => AV.int .u8 (n : Nat))[J]? = some (.int .u8 k) := by
  have hl : J < Lib.deBruijn64tab.length := h3
  rw [List.getElem?_map, List.getElem?_eq_getElem hl]
  rw [List.getD_eq_getElem?_getD, List.getElem?_eq_getElem hl] at h4
  simp only [Option.getD_some] at h4
  rw [Option.map_some, h4]
theorem tz64 (x : Nat) (hx : x < 18446744073709551616) : ACalls Tryd.prog 29 [.int .u64 x] [] (fun r hs => r = .int .i64 (ctz 64 x) ∧ hs = []) := by
  refine acalls_weak (acalls_of (fn := Tryd.f29) (A := a29) Tryd.func29 ok_29 en_29 ?_)
  dsimp only [a29]
  refine eval_sound 19 _ _ _ ?_; simp only [ptrL, lenV, Bool.not_true, Bool.not_false, lookR, valOf, asGrow, jump, findA, restA, and, Nat.reduceAdd, Nat.reduceSub, Nat.reduceMul, Int.reduceToNat, eval, nf, nfO, opN, appTo, rowsV, getL, setL, getO, setO, snocO, lenO, putL, ev, evs, ifEq, killV, killL, kill1, kill1L, kill, kills, killO, killOs, bin, binI, binS, binB, eq1, eqB, lit, sameK, kn, unI, mxA, mnA, mkAgg, fits, partN, partA, resN, retV, allVal, isVal, allCell, isCell, okVal, okCell, cellsOf, fillN, rowsN, cellsN, bnd, lohi, offAt, overL, segL, leave, NodeOK, List.cons_append, List.nil_append, List.append_nil, catA, anys, lenA]
  refine ⟨fun h => ?_, fun h => ?_⟩
  · have : x = 0 := by simpa using h
    subst this
    have : ctz 64 0 = 64 := rfl
    ((repeat (with_reducible refine And.intro ?_ ?_; focus (simp; done))); refine ⟨[], rfl, _, _, ?_, ?_, rfl, rfl⟩ <;> simp [Wk, mtc, mtcS, mtcSL, mtc0, mtc0L, mtcL, mtcO, mtcOs, cutM, takeE, stA, rl, renV, renL, ren1, ren1L, ren, rens, renO, Nat.blt, lenO, getO, setO, setL, anys, okS, endM, endH, idxN, takeE, pickE, catO, rl, renV, renL, ren1, ren1L, ren, rens, renO, Nat.blt, lenO, getO, setO, setL, anys, this])
  · have h0 : x ≠ 0 := by simpa using h
    obtain ⟨h1, h2⟩ := lowest_bit 64 x h0 hx
    generalize ctz 64 x = k at *
    have e1 : IntKind.u64.wrap (0 - (x : Int)) = ((18446744073709551616 - x : Nat) : Int) := by
      rw [IntKind.wrap_u64]; omega
    have e2 : IntKind.u64.wrap ((BitVec.ofInt IntKind.u64.bits (x : Int) &&& BitVec.ofInt IntKind.u64.bits (IntKind.u64.wrap (0 - (x : Int)))).toNat : Int) = ((2 ^ k : Nat) : Int) := by
      rw [e1, andN hx (by omega)]
      rw [show (x &&& (18446744073709551616 - x)) = 2 ^ k from h1]
    have e3 : ∀ P : Nat, IntKind.u64.wrap ((P : Int) * 285870213051353865) = ((P * 285870213051353865 % 18446744073709551616 : Nat) : Int) := by
      intro P
      rw [IntKind.wrap_u64]
      omega
    have e3 := e3 (2 ^ k)
    obtain ⟨h3, h4⟩ := deBruijn64_at k h2
    generalize hM : 2 ^ k * 285870213051353865 % 18446744073709551616 = M at *
    have hMW : M < 18446744073709551616 := by rw [← hM]; exact Nat.mod_lt _ (by decide)
    rw [e2, e3]
    clear e2 e3
    (refine eval_sound 2000 _ _ _ ?_; simp (maxSteps := 1000000) only [ptrL, lenV, Bool.not_true, Bool.not_false, lookR, valOf, asGrow, jump, findA, restA, and, Nat.reduceAdd, Nat.reduceSub, Nat.reduceMul, Int.reduceToNat, eval, nf, nfO, opN, appTo, rowsV, getL, setL, getO, setO, snocO, lenO, putL, ev, evs, ifEq, killV, killL, kill1, kill1L, kill, kills, killO, killOs, bin, binI, binS, binB, eq1, eqB, lit, sameK, kn, unI, mxA, mnA, mkAgg, fits, partN, partA, resN, retV, allVal, isVal, allCell, isCell, okVal, okCell, cellsOf, fillN, rowsN, cellsN, bnd, lohi, offAt, overL, segL, leave, NodeOK, List.cons_append, List.nil_append, List.append_nil, catA, anys, lenA])
    have e5 : (M : Int).fdiv (2 ^ min (Int.toNat 58) IntKind.u64.bits) = ((M / 288230376151711744 : Nat) : Int) := by
      have := shrN M 58 hMW
      rw [Nat.shiftRight_eq_div_pow] at this
      exact this
    have e6 : (M : Int).fdiv (2 ^ min 58 IntKind.u64.bits) = ((M / 288230376151711744 : Nat) : Int) := e5
    rw [e6]
    generalize M / 288230376151711744 = J at *
    refine ⟨by omega, ⟨by omega, by omega⟩, by omega, [.int .u8 k], ?_, ?_⟩
    · rw [Int.toNat_natCast]
      exact rows1_at (tab_at J k h3 h4)
    · (refine eval_sound 2000 _ _ _ ?_; simp (maxSteps := 1000000) only [ptrL, lenV, Bool.not_true, Bool.not_false, lookR, valOf, asGrow, jump, findA, restA, and, Nat.reduceAdd, Nat.reduceSub, Nat.reduceMul, Int.reduceToNat, eval, nf, nfO, opN, appTo, rowsV, getL, setL, getO, setO, snocO, lenO, putL, ev, evs, ifEq, killV, killL, kill1, kill1L, kill, kills, killO, killOs, bin, binI, binS, binB, eq1, eqB, lit, sameK, kn, unI, mxA, mnA, mkAgg, fits, partN, partA, resN, retV, allVal, isVal, allCell, isCell, okVal, okCell, cellsOf, fillN, rowsN, cellsN, bnd, lohi, offAt, overL, segL, leave, NodeOK, List.cons_append, List.nil_append, List.append_nil, catA, anys, lenA])
      rw [wr64 (n := (k : Int)) (by omega) (by omega)]
      ((repeat (with_reducible refine And.intro ?_ ?_; focus (simp; done))); refine ⟨[], rfl, _, _, ?_, ?_, rfl, rfl⟩ <;> simp [Wk, mtc, mtcS, mtcSL, mtc0, mtc0L, mtcL, mtcO, mtcOs, cutM, takeE, stA, rl, renV, renL, ren1, ren1L, ren, rens, renO, Nat.blt, lenO, getO, setO, setL, anys, okS, endM, endH, idxN, takeE, pickE, catO, rl, renV, renL, ren1, ren1L, ren, rens, renO, Nat.blt, lenO, getO, setO, setL, anys, u8s])
end Go.Proofs.YtikogdkjmnpfcaaDoor.S
