/- Contracts, picked of my other texts. -/
import Derived.Test.YtlnafekmiidpkaaDoorZOs
import Derived.Lib.BitFns
import Derived.Lib.TrailingZeros
namespace Go.Proofs.YtlnafekmiidpkaaDoor.S
open Go.Lib
set_option linter.all false
set_option maxRecDepth 100000
set_option maxHeartbeats 4000000
theorem wruN {n : Nat} (h : n < 18446744073709551616) : IntKind.u64.wrap (n : Int) = n := IntWalk.u64_in _ ⟨by omega, by omega⟩
theorem bvN {n : Nat} (h : n < 18446744073709551616) : (BitVec.ofInt 64 (n : Int)).toNat = n := by
  rw [BitVec.toNat_ofInt]
  simp; omega
theorem andN {a b : Nat} (ha : a < 18446744073709551616) (hb : b < 18446744073709551616) : IntKind.u64.wrap ((BitVec.ofInt IntKind.u64.bits (a : Int) &&& BitVec.ofInt IntKind.u64.bits (b : Int)).toNat : Int) = ((a &&& b : Nat) : Int) := by
  show IntKind.u64.wrap ((BitVec.ofInt 64 (a : Int) &&& BitVec.ofInt 64 (b : Int)).toNat : Int) = _
  rw [BitVec.toNat_and, bvN ha, bvN hb]
  exact wruN (Nat.lt_of_le_of_lt Nat.and_le_left ha)
theorem orN {a b : Nat} (ha : a < 18446744073709551616) (hb : b < 18446744073709551616) : IntKind.u64.wrap ((BitVec.ofInt IntKind.u64.bits (a : Int) ||| BitVec.ofInt IntKind.u64.bits (b : Int)).toNat : Int) = ((a ||| b : Nat) : Int) := by
  show IntKind.u64.wrap ((BitVec.ofInt 64 (a : Int) ||| BitVec.ofInt 64 (b : Int)).toNat : Int) = _
  rw [BitVec.toNat_or, bvN ha, bvN hb]
  exact wruN (show a ||| b < 2 ^ 64 from Nat.or_lt_two_pow ha hb)
theorem notN {a : Nat} (ha : a < 18446744073709551616) : IntKind.u64.wrap ((BitVec.ofInt IntKind.u64.bits (if IntKind.u64.signed then -1 else IntKind.u64.max) ^^^ BitVec.ofInt IntKind.u64.bits (a : Int)).toNat : Int) = ((18446744073709551615 - a : Nat) : Int) := by
  have e : (BitVec.ofInt IntKind.u64.bits (if IntKind.u64.signed then -1 else IntKind.u64.max)) = BitVec.allOnes 64 := by
    show BitVec.ofInt 64 18446744073709551615 = BitVec.allOnes 64
    decide
  rw [e]
  show IntKind.u64.wrap ((BitVec.allOnes 64 ^^^ BitVec.ofInt 64 (a : Int)).toNat : Int) = _
  rw [BitVec.allOnes_xor, BitVec.toNat_not, bvN ha]
  exact wruN (by omega)
theorem shrN (a k : Nat) (ha : a < 18446744073709551616) : (a : Int).fdiv (2 ^ min ((k : Int)).toNat IntKind.u64.bits) = ((a >>> k : Nat) : Int) := by
  show (a : Int).fdiv (2 ^ min ((k : Int)).toNat 64) = _
  have hp : ∀ j : Nat, ((2 : Int) ^ j) = ((2 ^ j : Nat) : Int) := fun j => by norm_cast
  rw [Int.toNat_natCast, Int.fdiv_eq_ediv_of_nonneg _ (by rw [hp]; exact Int.natCast_nonneg _), Nat.shiftRight_eq_div_pow]
  by_cases h : k ≤ 64
  · rw [Nat.min_eq_left h]; norm_cast
  · rw [Nat.min_eq_right (by omega)]
    have h1 : a / 2 ^ 64 = 0 := Nat.div_eq_of_lt ha
    have h2 : a / 2 ^ k = 0 := Nat.div_eq_of_lt (Nat.lt_of_lt_of_le (m := 2 ^ 64) ha (Nat.pow_le_pow_right (by decide) (by omega)))
    rw [h2]
    have : ((a : Int) / 2 ^ 64) = ((a / 2 ^ 64 : Nat) : Int) := by norm_cast
    rw [this, h1]
theorem shl1N (k : Nat) (hk : k < 64) : IntKind.u64.wrap ((1 : Int) * 2 ^ min ((k : Int)).toNat IntKind.u64.bits) = ((1 <<< k : Nat) : Int) := by
  show IntKind.u64.wrap ((1 : Int) * 2 ^ min ((k : Int)).toNat 64) = _
  rw [Int.toNat_natCast, Nat.min_eq_left (by omega), Nat.one_shiftLeft, Int.one_mul]
  have h : 2 ^ k < 18446744073709551616 := Nat.pow_lt_pow_right (by omega) hk
  have := wruN h
  rw [← this]
  norm_cast
theorem rows1_at : ∀ {l : List AV} {i : Nat} {y : AV}, l[i]? = some y → (rows1 l)[i]? = some [y]
  | [], i, y, h => by simp at h
  | x :: l, 0, y, h => by simp at h; subst h; rfl
  | x :: l, i + 1, y, h => by simpa [rows1] using rows1_at (l := l) (i := i) (by simpa using h)
theorem tab_at (J k : Nat) (h3 : J < 64) (h4 : Lib.deBruijn64tab.getD J 0 = k) : (Lib.deBruijn64tab.map fun n => AV.int .u8 (n : Nat))[J]? = some (.int .u8 k) := by
  have hl : J < Lib.deBruijn64tab.length := h3
  rw [List.getElem?_map, List.getElem?_eq_getElem hl]
  rw [List.getD_eq_getElem?_getD, List.getElem?_eq_getElem hl] at h4
  simp only [Option.getD_some] at h4
  rw [Option.map_some, h4]
theorem tz64 (x : Nat) (hx : x < 18446744073709551616) : ACalls Tryd.prog 60 [.int .u64 x] [] (fun r hs => r = .int .i64 (ctz 64 x) ∧ hs = []) := by
  refine acalls_weak (acalls_of (fn := Tryd.f60) (A := a60) Tryd.func60 ok_60 en_60 ?_)
  dsimp only [a60]
  refine eval_sound 19 _ _ _ ?_; simp only [ptrL, lenV, Bool.not_true, Bool.not_false, lookR, valOf, asGrow, jump, findA, restA, and, Nat.reduceAdd, Nat.reduceSub, Nat.reduceMul, Int.reduceToNat, eval, nf, nfO, opN, appTo, rowsV, getL, setL, getO, setO, snocO, lenO, putL, ev, evs, ifEq, killV, killL, kill1, kill1L, kill, kills, killO, killOs, bin, binI, binS, binB, eq1, eqB, lit, sameK, kn, unI, mxA, mnA, mkAgg, fits, partN, partA, resN, retV, allVal, isVal, allCell, isCell, okVal, okCell, cellsOf, fillN, rowsN, cellsN, bnd, lohi, offAt, overL, segL, leave, NodeOK, List.cons_append, List.nil_append, List.append_nil, catA, anys, lenA]
  refine ⟨fun h => ?_, fun h => ?_⟩
  · have : x = 0 := by simpa using h
    subst this
    have : ctz 64 0 = 64 := rfl
    ((repeat (with_reducible refine And.intro ?_ ?_; focus (simp; done))); refine ⟨[], rfl, _, _, ?_, ?_, rfl, rfl⟩ <;> simp [Wk, mtc, mtcS, mtcSL, mtc0, mtc0L, mtcL, mtcO, mtcOs, cutM, takeE, stA, rl, renV, renL, ren1, ren1L, ren, rens, renO, Nat.blt, lenO, getO, setO, setL, anys, okS, endM, endH, idxN, takeE, pickE, catO, rl, renV, renL, ren1, ren1L, ren, rens, renO, Nat.blt, lenO, getO, setO, setL, anys, this])
  · have h0 : x ≠ 0 := by simpa using h
    obtain ⟨h1, h2⟩ := lowest_bit 64 x h0 hx
    generalize ctz 64 x = k at *
    have e1 : IntKind.u64.wrap (0 - (x : Int)) = ((18446744073709551616 - x : Nat) : Int) := by
      rw [IntKind.wrap_u64]; omega
    have e2 : IntKind.u64.wrap ((BitVec.ofInt IntKind.u64.bits (x : Int) &&& BitVec.ofInt IntKind.u64.bits (IntKind.u64.wrap (0 - (x : Int)))).toNat : Int) = ((2 ^ k : Nat) : Int) := by
      rw [e1, andN hx (by omega)]
      rw [show (x &&& (18446744073709551616 - x)) = 2 ^ k from h1]
    have e3 : ∀ P : Nat, IntKind.u64.wrap ((P : Int) * 285870213051353865) = ((P * 285870213051353865 % 18446744073709551616 : Nat) : Int) := by
      intro P
      rw [IntKind.wrap_u64]
      omega
    have e3 := e3 (2 ^ k)
    obtain ⟨h3, h4⟩ := deBruijn64_at k h2
    generalize hM : 2 ^ k * 285870213051353865 % 18446744073709551616 = M at *
    have hMW : M < 18446744073709551616 := by rw [← hM]; exact Nat.mod_lt _ (by decide)
    rw [e2, e3]
    clear e2 e3
    (refine eval_sound 2000 _ _ _ ?_; simp (maxSteps := 1000000) only [ptrL, lenV, Bool.not_true, Bool.not_false, lookR, valOf, asGrow, jump, findA, restA, and, Nat.reduceAdd, Nat.reduceSub, Nat.reduceMul, Int.reduceToNat, eval, nf, nfO, opN, appTo, rowsV, getL, setL, getO, setO, snocO, lenO, putL, ev, evs, ifEq, killV, killL, kill1, kill1L, kill, kills, killO, killOs, bin, binI, binS, binB, eq1, eqB, lit, sameK, kn, unI, mxA, mnA, mkAgg, fits, partN, partA, resN, retV, allVal, isVal, allCell, isCell, okVal, okCell, cellsOf, fillN, rowsN, cellsN, bnd, lohi, offAt, overL, segL, leave, NodeOK, List.cons_append, List.nil_append, List.append_nil, catA, anys, lenA])
    have e5 : (M : Int).fdiv (2 ^ min 58 IntKind.u64.bits) = ((M / 288230376151711744 : Nat) : Int) := by
      have := shrN M 58 hMW
      rw [Nat.shiftRight_eq_div_pow] at this
      exact this
    rw [e5]
    generalize M / 288230376151711744 = J at *
    refine ⟨by omega, ⟨by omega, by omega⟩, by omega, [.int .u8 k], ?_, ?_⟩
    · rw [Int.toNat_natCast]
      exact rows1_at (tab_at J k h3 h4)
    · (refine eval_sound 2000 _ _ _ ?_; simp (maxSteps := 1000000) only [ptrL, lenV, Bool.not_true, Bool.not_false, lookR, valOf, asGrow, jump, findA, restA, and, Nat.reduceAdd, Nat.reduceSub, Nat.reduceMul, Int.reduceToNat, eval, nf, nfO, opN, appTo, rowsV, getL, setL, getO, setO, snocO, lenO, putL, ev, evs, ifEq, killV, killL, kill1, kill1L, kill, kills, killO, killOs, bin, binI, binS, binB, eq1, eqB, lit, sameK, kn, unI, mxA, mnA, mkAgg, fits, partN, partA, resN, retV, allVal, isVal, allCell, isCell, okVal, okCell, cellsOf, fillN, rowsN, cellsN, bnd, lohi, offAt, overL, segL, leave, NodeOK, List.cons_append, List.nil_append, List.append_nil, catA, anys, lenA])
      rw [wr64 (n := (k : Int)) (by omega) (by omega)]
      ((repeat (with_reducible refine And.intro ?_ ?_; focus (simp; done))); refine ⟨[], rfl, _, _, ?_, ?_, rfl, rfl⟩ <;> simp [Wk, mtc, mtcS, mtcSL, mtc0, mtc0L, mtcL, mtcO, mtcOs, cutM, takeE, stA, rl, renV, renL, ren1, ren1L, ren, rens, renO, Nat.blt, lenO, getO, setO, setL, anys, okS, endM, endH, idxN, takeE, pickE, catO, rl, renV, renL, ren1, ren1L, ren, rens, renO, Nat.blt, lenO, getO, setO, setL, anys, u8s])
structure Mk where
  l : Nat
  b : Nat
  deriving DecidableEq
def mkA (m : Mk) : AV := .arr [.int .u64 m.l, .int .u64 m.b]
def MkOK (m : Mk) : Prop := m.l < 18446744073709551616 ∧ m.b < 18446744073709551616
def topM (m : Mk) : Nat := m.l + Lib.bitLen m.b
def hasM (m : Mk) (n : Nat) : Bool := decide (n ≤ m.l) || (decide (n - m.l ≤ 64) && m.b.testBit (n - m.l - 1))
def goodM (m : Mk) : Bool := decide (m.l ≤ 4611686018427387840) && (!m.b.testBit 0 && decide (topM m ≤ 4611686018427387840))
def upM' (m : Mk) : Nat := min (ctz 64 (18446744073709551615 - m.b)) (4611686018427387840 - m.l)
def normM (m : Mk) : Mk := ⟨m.l + upM' m, m.b >>> upM' m⟩
def setM (m : Mk) (n : Nat) : Mk × Int := if n > 4611686018427387840 ∨ (n > m.l ∧ n - m.l > 64) then (m, 30) else if n ≤ m.l then (m, 0) else (normM ⟨m.l, m.b ||| 1 <<< (n - m.l - 1)⟩, 0)
theorem bit_and (b k : Nat) : ((b >>> k) &&& 1 == 1) = b.testBit k := by
  rw [Nat.testBit_eq_decide_div_mod_eq, Nat.and_one_is_mod, Nat.shiftRight_eq_div_pow]
  by_cases h : b / 2 ^ k % 2 = 1 <;> simp [h]
theorem has_c (m : Mk) (n : Nat) (h : MkOK m) (hn : n < 18446744073709551616) : ACalls Tryd.prog 20 [mkA m, .int .u64 n] [] (fun r hs => r = .bool (hasM m n) ∧ hs = []) := by
  refine acalls_weak (acalls_of (fn := Tryd.f20) (A := a20) Tryd.func20 ok_20 en_20 ?_)
  dsimp only [a20, mkA]
  (refine eval_sound 2000 _ _ _ ?_; simp (maxSteps := 1000000) only [ptrL, lenV, Bool.not_true, Bool.not_false, lookR, valOf, asGrow, jump, findA, restA, and, Nat.reduceAdd, Nat.reduceSub, Nat.reduceMul, Int.reduceToNat, eval, nf, nfO, opN, appTo, rowsV, getL, setL, getO, setO, snocO, lenO, putL, ev, evs, ifEq, killV, killL, kill1, kill1L, kill, kills, killO, killOs, bin, binI, binS, binB, eq1, eqB, lit, sameK, kn, unI, mxA, mnA, mkAgg, fits, partN, partA, resN, retV, allVal, isVal, allCell, isCell, okVal, okCell, cellsOf, fillN, rowsN, cellsN, bnd, lohi, offAt, overL, segL, leave, NodeOK, List.cons_append, List.nil_append, List.append_nil, catA, anys, lenA])
  simp only [decide_eq_true_eq, decide_eq_false_iff_not]
  refine ⟨fun h1 => ?_, fun h1 => ?_⟩
  · have : hasM m n = true := by unfold hasM; simp; left; omega
    ((repeat (with_reducible refine And.intro ?_ ?_; focus (simp; done))); refine ⟨[], rfl, _, _, ?_, ?_, rfl, rfl⟩ <;> simp [Wk, mtc, mtcS, mtcSL, mtc0, mtc0L, mtcL, mtcO, mtcOs, cutM, takeE, stA, rl, renV, renL, ren1, ren1L, ren, rens, renO, Nat.blt, lenO, getO, setO, setL, anys, okS, endM, endH, idxN, takeE, pickE, catO, rl, renV, renL, ren1, ren1L, ren, rens, renO, Nat.blt, lenO, getO, setO, setL, anys, this])
  · have e1 : IntKind.u64.wrap ((n : Int) - m.l) = ((n - m.l : Nat) : Int) := by
      rw [show (n : Int) - m.l = ((n - m.l : Nat) : Int) by omega]; exact wruN (by omega)
    have e2 : IntKind.u64.wrap (((n - m.l : Nat) : Int) - 1) = ((n - m.l - 1 : Nat) : Int) := by
      rw [show ((n - m.l : Nat) : Int) - 1 = ((n - m.l - 1 : Nat) : Int) by omega]; exact wruN (by omega)
    rw [e1, e2, shrN _ _ h.2]
    have e3 : IntKind.u64.wrap ((BitVec.ofInt IntKind.u64.bits ((m.b >>> (n - m.l - 1) : Nat) : Int) &&& BitVec.ofInt IntKind.u64.bits 1).toNat : Int) = (((m.b >>> (n - m.l - 1)) &&& 1 : Nat) : Int) :=
      andN (b := 1) (Nat.lt_of_le_of_lt (by rw [Nat.shiftRight_eq_div_pow]; exact Nat.div_le_self _ _) h.2) (by decide)
    rw [e3]
    have e4 : ((((m.b >>> (n - m.l - 1)) &&& 1 : Nat) : Int) == 1) = m.b.testBit (n - m.l - 1) := by
      rw [← bit_and, Bool.eq_iff_iff, beq_iff_eq, beq_iff_eq]
      omega
    rw [e4]
    refine ⟨fun h2 => ⟨by omega, ?_⟩, fun h2 => ?_⟩
    · have : hasM m n = m.b.testBit (n - m.l - 1) := by
        unfold hasM
        rw [decide_eq_false (by omega), decide_eq_true (by omega)]
        simp
      ((repeat (with_reducible refine And.intro ?_ ?_; focus (simp; done))); refine ⟨[], rfl, _, _, ?_, ?_, rfl, rfl⟩ <;> simp [Wk, mtc, mtcS, mtcSL, mtc0, mtc0L, mtcL, mtcO, mtcOs, cutM, takeE, stA, rl, renV, renL, ren1, ren1L, ren, rens, renO, Nat.blt, lenO, getO, setO, setL, anys, okS, endM, endH, idxN, takeE, pickE, catO, rl, renV, renL, ren1, ren1L, ren, rens, renO, Nat.blt, lenO, getO, setO, setL, anys, this])
    · have : hasM m n = false := by
        unfold hasM
        rw [decide_eq_false (by omega), decide_eq_false (by omega)]
        rfl
      ((repeat (with_reducible refine And.intro ?_ ?_; focus (simp; done))); refine ⟨[], rfl, _, _, ?_, ?_, rfl, rfl⟩ <;> simp [Wk, mtc, mtcS, mtcSL, mtc0, mtc0L, mtcL, mtcO, mtcOs, cutM, takeE, stA, rl, renV, renL, ren1, ren1L, ren, rens, renO, Nat.blt, lenO, getO, setO, setL, anys, okS, endM, endH, idxN, takeE, pickE, catO, rl, renV, renL, ren1, ren1L, ren, rens, renO, Nat.blt, lenO, getO, setO, setL, anys, this])
theorem ctz_le (x : Nat) (hx : x < 18446744073709551616) : ctz 64 x ≤ 64 := by
  by_cases h : x = 0
  · subst h; exact Nat.le_refl _
  · exact Nat.le_of_lt (lowest_bit 64 x h hx).2
theorem norm_c (m : Mk) (h : m.b < 18446744073709551616) (hl : m.l ≤ 4611686018427387840) : ACalls Tryd.prog 41 [mkA m] [] (fun r hs => r = mkA (normM m) ∧ hs = []) := by
  have hc := ctz_le (18446744073709551615 - m.b) (by omega)
  have hu : upM' m ≤ 64 ∧ upM' m ≤ 4611686018427387840 - m.l := by unfold upM'; omega
  refine acalls_weak (acalls_of (fn := Tryd.f41) (A := a41) Tryd.func41 ok_41 en_41 ?_)
  dsimp only [a41, mkA]
  (refine eval_sound 2000 _ _ _ ?_; simp (maxSteps := 1000000) only [ptrL, lenV, Bool.not_true, Bool.not_false, lookR, valOf, asGrow, jump, findA, restA, and, Nat.reduceAdd, Nat.reduceSub, Nat.reduceMul, Int.reduceToNat, eval, nf, nfO, opN, appTo, rowsV, getL, setL, getO, setO, snocO, lenO, putL, ev, evs, ifEq, killV, killL, kill1, kill1L, kill, kills, killO, killOs, bin, binI, binS, binB, eq1, eqB, lit, sameK, kn, unI, mxA, mnA, mkAgg, fits, partN, partA, resN, retV, allVal, isVal, allCell, isCell, okVal, okCell, cellsOf, fillN, rowsN, cellsN, bnd, lohi, offAt, overL, segL, leave, NodeOK, List.cons_append, List.nil_append, List.append_nil, catA, anys, lenA])
  refine aw_dregA (show Tryd.prog.follows .mixedOrders = true by kernel_rfl) 2 [(2, ⟨.int .u64 (18446744073709551615 - m.b : Nat), [], [], []⟩), (3, ⟨.int .i64 (ctz 64 (18446744073709551615 - m.b) : Nat), [], [], []⟩), (4, ⟨.int .u64 (ctz 64 (18446744073709551615 - m.b) : Nat), [], [], []⟩), (7, ⟨.int .u64 (4611686018427387840 - m.l : Nat), [], [], []⟩), (8, ⟨.int .u64 (upM' m : Nat), [], [], []⟩)] ?_ ?_ ?_
  · kernel_rfl
  · (simp only [tkO, dpO, tkN, AllOps, OpOK, mkR, autoV, autoR, labV, lkD, vOf, preT, preO, setTs, preV, wrt, memN, usesO, usesT, opT, optT, opsT, ptsT, setHs, objF, updD, newO, lkO, lkF, keysO, keysF, visN, deads, getL, setL, getO, setO, lenO, lenA, anys, setDs, setWr, setFr, endO, catD, List.getD_cons_zero, List.getD_cons_succ, List.getElem?_cons_zero, List.getElem?_cons_succ, List.cons_append, List.nil_append, List.append_nil, Nat.reduceAdd, Nat.reduceSub, ptrL, lenV, Bool.not_true, Bool.not_false, lookR, valOf, asGrow, jump, findA, restA, and, Nat.reduceAdd, Nat.reduceSub, Nat.reduceMul, Int.reduceToNat, eval, nf, nfO, opN, appTo, rowsV, getL, setL, getO, setO, snocO, lenO, putL, ev, evs, ifEq, killV, killL, kill1, kill1L, kill, kills, killO, killOs, bin, binI, binS, binB, eq1, eqB, lit, sameK, kn, unI, mxA, mnA, mkAgg, fits, partN, partA, resN, retV, allVal, isVal, allCell, isCell, okVal, okCell, cellsOf, fillN, rowsN, cellsN, bnd, lohi, offAt, overL, segL, leave, NodeOK, List.cons_append, List.nil_append, List.append_nil, catA, anys, lenA]; and_intros) <;> (first | exact trivial | ((refine eval_sound 2000 _ _ _ ?_; simp (maxSteps := 1000000) only [ptrL, lenV, Bool.not_true, Bool.not_false, lookR, valOf, asGrow, jump, findA, restA, and, Nat.reduceAdd, Nat.reduceSub, Nat.reduceMul, Int.reduceToNat, eval, nf, nfO, opN, appTo, rowsV, getL, setL, getO, setO, snocO, lenO, putL, ev, evs, ifEq, killV, killL, kill1, kill1L, kill, kills, killO, killOs, bin, binI, binS, binB, eq1, eqB, lit, sameK, kn, unI, mxA, mnA, mkAgg, fits, partN, partA, resN, retV, allVal, isVal, allCell, isCell, okVal, okCell, cellsOf, fillN, rowsN, cellsN, bnd, lohi, offAt, overL, segL, leave, NodeOK, List.cons_append, List.nil_append, List.append_nil, catA, anys, lenA]); try simp only [JR, dstOK, wrOK, frOK, rdOK, getL, getO]; try simp only [JR, dstOK, wrOK, frOK, rdOK, sig, sigF, isGrowB, mtc, mtcS, mtcSL, mtc0, mtc0L, mtcO, mtcL, memN, Nat.blt, rl, renV, renL, ren1, ren1L, ren, rens, renO, Nat.blt, lenO, getO, setO, setL, anys]; try simp))
    · exact (notN h).symm
    · (refine aw_call (tz64 (18446744073709551615 - m.b) (by omega)) [] rfl (by simp [upM, nthN, matchO, rens, ren, ren1, ren1L, renL, renV, renO, rl, lenO, getO, Nat.blt, mtc, mtcS, mtcSL, mtc0, mtc0L, mkA]) rfl (by simp [upM, nthN, matchO, rens, ren, ren1, ren1L, renL, renV, renO, rl, lenO, getO, Nat.blt, mtc, mtcS, mtcSL, mtc0, mtc0L, mkA]) rfl (fun r hs hp hl => ?_); obtain ⟨rfl, rfl⟩ := hp; simp only [snocO, upM, nthN, putAll, snocAll, killsA, killOsA, grows, putL, rl, renV, renL, ren1, ren1L, ren, rens, renO, Nat.blt, lenO, getO, setO, setL, anys, mkA]; (refine eval_sound 2000 _ _ _ ?_; simp (maxSteps := 1000000) only [ptrL, lenV, Bool.not_true, Bool.not_false, lookR, valOf, asGrow, jump, findA, restA, and, Nat.reduceAdd, Nat.reduceSub, Nat.reduceMul, Int.reduceToNat, eval, nf, nfO, opN, appTo, rowsV, getL, setL, getO, setO, snocO, lenO, putL, ev, evs, ifEq, killV, killL, kill1, kill1L, kill, kills, killO, killOs, bin, binI, binS, binB, eq1, eqB, lit, sameK, kn, unI, mxA, mnA, mkAgg, fits, partN, partA, resN, retV, allVal, isVal, allCell, isCell, okVal, okCell, cellsOf, fillN, rowsN, cellsN, bnd, lohi, offAt, overL, segL, leave, NodeOK, List.cons_append, List.nil_append, List.append_nil, catA, anys, lenA]); (try simp only [JR, dstOK, wrOK, frOK, rdOK, getL, getO]); (try simp only [JR, dstOK, wrOK, frOK, rdOK, sig, sigF, isGrowB, mtc, mtcS, mtcSL, mtc0, mtc0L, mtcO, mtcL, memN, Nat.blt, rl, renV, renL, ren1, ren1L, ren, rens, renO, Nat.blt, lenO, getO, setO, setL, anys, mkA]); try simp)
    · exact (wruN (n := ctz 64 (18446744073709551615 - m.b)) (by omega)).symm
    · rw [show (4611686018427387840 : Int) - m.l = ((4611686018427387840 - m.l : Nat) : Int) by omega]
      exact (wruN (by omega)).symm
    · unfold upM'
      split <;> omega
  · (simp only [tkO, dpO, tkN, AllOps, OpOK, mkR, autoV, autoR, labV, lkD, vOf, preT, preO, setTs, preV, wrt, memN, usesO, usesT, opT, optT, opsT, ptsT, setHs, objF, updD, newO, lkO, lkF, keysO, keysF, visN, deads, getL, setL, getO, setO, lenO, lenA, anys, setDs, setWr, setFr, endO, catD, List.getD_cons_zero, List.getD_cons_succ, List.getElem?_cons_zero, List.getElem?_cons_succ, List.cons_append, List.nil_append, List.append_nil, Nat.reduceAdd, Nat.reduceSub, ptrL, lenV, Bool.not_true, Bool.not_false, lookR, valOf, asGrow, jump, findA, restA, and, Nat.reduceAdd, Nat.reduceSub, Nat.reduceMul, Int.reduceToNat, eval, nf, nfO, opN, appTo, rowsV, getL, setL, getO, setO, snocO, lenO, putL, ev, evs, ifEq, killV, killL, kill1, kill1L, kill, kills, killO, killOs, bin, binI, binS, binB, eq1, eqB, lit, sameK, kn, unI, mxA, mnA, mkAgg, fits, partN, partA, resN, retV, allVal, isVal, allCell, isCell, okVal, okCell, cellsOf, fillN, rowsN, cellsN, bnd, lohi, offAt, overL, segL, leave, NodeOK, List.cons_append, List.nil_append, List.append_nil, catA, anys, lenA]; (refine eval_sound 2000 _ _ _ ?_; simp (maxSteps := 1000000) only [ptrL, lenV, Bool.not_true, Bool.not_false, lookR, valOf, asGrow, jump, findA, restA, and, Nat.reduceAdd, Nat.reduceSub, Nat.reduceMul, Int.reduceToNat, eval, nf, nfO, opN, appTo, rowsV, getL, setL, getO, setO, snocO, lenO, putL, ev, evs, ifEq, killV, killL, kill1, kill1L, kill, kills, killO, killOs, bin, binI, binS, binB, eq1, eqB, lit, sameK, kn, unI, mxA, mnA, mkAgg, fits, partN, partA, resN, retV, allVal, isVal, allCell, isCell, okVal, okCell, cellsOf, fillN, rowsN, cellsN, bnd, lohi, offAt, overL, segL, leave, NodeOK, List.cons_append, List.nil_append, List.append_nil, catA, anys, lenA]))
    have e1 : (m.l : Int) + (upM' m : Nat) = ((m.l + upM' m : Nat) : Int) := by omega
    rw [e1, wruN (n := m.l + upM' m) (by omega), shrN _ _ h]
    ((repeat (with_reducible refine And.intro ?_ ?_; focus (simp; done))); refine ⟨[], rfl, _, _, ?_, ?_, rfl, rfl⟩ <;> simp [Wk, mtc, mtcS, mtcSL, mtc0, mtc0L, mtcL, mtcO, mtcOs, cutM, takeE, stA, rl, renV, renL, ren1, ren1L, ren, rens, renO, Nat.blt, lenO, getO, setO, setL, anys, okS, endM, endH, idxN, takeE, pickE, catO, rl, renV, renL, ren1, ren1L, ren, rens, renO, Nat.blt, lenO, getO, setO, setL, anys, mkA, normM])
theorem shr_lt (b k : Nat) (h : b < 18446744073709551616) : b >>> k < 18446744073709551616 := Nat.lt_of_le_of_lt (by rw [Nat.shiftRight_eq_div_pow]; exact Nat.div_le_self _ _) h
theorem set_c (m : Mk) (n : Nat) (h : m.b < 18446744073709551616) (hl : m.l ≤ 4611686018427387840) (hn : n < 18446744073709551616) : ACalls Tryd.prog 19 [mkA m, .int .u64 n] [] (fun r hs => r = .tup [mkA (setM m n).1, .int .i64 (setM m n).2] ∧ hs = []) := by
  refine acalls_weak (acalls_of (fn := Tryd.f19) (A := a19) Tryd.func19 ok_19 en_19 ?_)
  dsimp only [a19, mkA]
  (refine eval_sound 2000 _ _ _ ?_; simp (maxSteps := 1000000) only [ptrL, lenV, Bool.not_true, Bool.not_false, lookR, valOf, asGrow, jump, findA, restA, and, Nat.reduceAdd, Nat.reduceSub, Nat.reduceMul, Int.reduceToNat, eval, nf, nfO, opN, appTo, rowsV, getL, setL, getO, setO, snocO, lenO, putL, ev, evs, ifEq, killV, killL, kill1, kill1L, kill, kills, killO, killOs, bin, binI, binS, binB, eq1, eqB, lit, sameK, kn, unI, mxA, mnA, mkAgg, fits, partN, partA, resN, retV, allVal, isVal, allCell, isCell, okVal, okCell, cellsOf, fillN, rowsN, cellsN, bnd, lohi, offAt, overL, segL, leave, NodeOK, List.cons_append, List.nil_append, List.append_nil, catA, anys, lenA])
  simp only [decide_eq_true_eq, decide_eq_false_iff_not]
  have e1 : n > m.l → IntKind.u64.wrap ((n : Int) - m.l) = ((n - m.l : Nat) : Int) := fun h => by
    rw [show (n : Int) - m.l = ((n - m.l : Nat) : Int) by omega]; exact wruN (by omega)
  refine ⟨fun h1 => ?_, fun h1 => ⟨fun h2 => ⟨fun h3 => ?_, fun h3 => ⟨fun h4 => ?_, fun h4 => ?_⟩⟩, fun h2 => ⟨fun h4 => ?_, fun h4 => ?_⟩⟩⟩
  · have : setM m n = (m, 30) := if_pos (.inl (by omega))
    rw [this]
    ((repeat (with_reducible refine And.intro ?_ ?_; focus (simp; done))); refine ⟨[], rfl, _, _, ?_, ?_, rfl, rfl⟩ <;> simp [Wk, mtc, mtcS, mtcSL, mtc0, mtc0L, mtcL, mtcO, mtcOs, cutM, takeE, stA, rl, renV, renL, ren1, ren1L, ren, rens, renO, Nat.blt, lenO, getO, setO, setL, anys, okS, endM, endH, idxN, takeE, pickE, catO, rl, renV, renL, ren1, ren1L, ren, rens, renO, Nat.blt, lenO, getO, setO, setL, anys, mkA])
  · rw [e1 (by omega)] at h3
    have : setM m n = (m, 30) := if_pos (.inr ⟨by omega, by omega⟩)
    rw [this]
    ((repeat (with_reducible refine And.intro ?_ ?_; focus (simp; done))); refine ⟨[], rfl, _, _, ?_, ?_, rfl, rfl⟩ <;> simp [Wk, mtc, mtcS, mtcSL, mtc0, mtc0L, mtcL, mtcO, mtcOs, cutM, takeE, stA, rl, renV, renL, ren1, ren1L, ren, rens, renO, Nat.blt, lenO, getO, setO, setL, anys, okS, endM, endH, idxN, takeE, pickE, catO, rl, renV, renL, ren1, ren1L, ren, rens, renO, Nat.blt, lenO, getO, setO, setL, anys, mkA])
  · omega
  · rw [e1 (by omega)] at h3
    have e0 : setM m n = (normM ⟨m.l, m.b ||| 1 <<< (n - m.l - 1)⟩, 0) := by
      unfold setM
      rw [if_neg (by omega), if_neg (by omega)]
    have hk : n - m.l - 1 < 64 := by omega
    have e2 : IntKind.u64.wrap (((n - m.l : Nat) : Int) - 1) = ((n - m.l - 1 : Nat) : Int) := by
      rw [show ((n - m.l : Nat) : Int) - 1 = ((n - m.l - 1 : Nat) : Int) by omega]; exact wruN (by omega)
    have hp : 1 <<< (n - m.l - 1) < 18446744073709551616 := by
      rw [Nat.one_shiftLeft]; exact Nat.pow_lt_pow_right (by omega) hk
    rw [e1 (by omega), e2, shl1N _ hk, orN h hp, e0]
    refine ⟨by omega, ?_⟩
    have hN := norm_c ⟨m.l, m.b ||| 1 <<< (n - m.l - 1)⟩ (show m.b ||| 1 <<< (n - m.l - 1) < 2 ^ 64 from Nat.or_lt_two_pow h hp) hl
    ((repeat (with_reducible refine And.intro ?_ ?_; focus (simp; done))); refine aw_call (hN) [] rfl (by simp [upM, nthN, matchO, rens, ren, ren1, ren1L, renL, renV, renO, rl, lenO, getO, Nat.blt, mtc, mtcS, mtcSL, mtc0, mtc0L, mkA]) rfl (by simp [upM, nthN, matchO, rens, ren, ren1, ren1L, renL, renV, renO, rl, lenO, getO, Nat.blt, mtc, mtcS, mtcSL, mtc0, mtc0L, mkA]) rfl (fun r hs hp hl => ?_); obtain ⟨rfl, rfl⟩ := hp; simp only [snocO, upM, nthN, putAll, snocAll, killsA, killOsA, grows, putL, rl, renV, renL, ren1, ren1L, ren, rens, renO, Nat.blt, lenO, getO, setO, setL, anys, mkA]; (refine eval_sound 2000 _ _ _ ?_; simp (maxSteps := 1000000) only [ptrL, lenV, Bool.not_true, Bool.not_false, lookR, valOf, asGrow, jump, findA, restA, and, Nat.reduceAdd, Nat.reduceSub, Nat.reduceMul, Int.reduceToNat, eval, nf, nfO, opN, appTo, rowsV, getL, setL, getO, setO, snocO, lenO, putL, ev, evs, ifEq, killV, killL, kill1, kill1L, kill, kills, killO, killOs, bin, binI, binS, binB, eq1, eqB, lit, sameK, kn, unI, mxA, mnA, mkAgg, fits, partN, partA, resN, retV, allVal, isVal, allCell, isCell, okVal, okCell, cellsOf, fillN, rowsN, cellsN, bnd, lohi, offAt, overL, segL, leave, NodeOK, List.cons_append, List.nil_append, List.append_nil, catA, anys, lenA]))
    ((repeat (with_reducible refine And.intro ?_ ?_; focus (simp; done))); refine ⟨[], rfl, _, _, ?_, ?_, rfl, rfl⟩ <;> simp [Wk, mtc, mtcS, mtcSL, mtc0, mtc0L, mtcL, mtcO, mtcOs, cutM, takeE, stA, rl, renV, renL, ren1, ren1L, ren, rens, renO, Nat.blt, lenO, getO, setO, setL, anys, okS, endM, endH, idxN, takeE, pickE, catO, rl, renV, renL, ren1, ren1L, ren, rens, renO, Nat.blt, lenO, getO, setO, setL, anys, mkA])
  · have : setM m n = (m, 0) := by
      unfold setM
      rw [if_neg (by omega), if_pos (by omega)]
    rw [this]
    ((repeat (with_reducible refine And.intro ?_ ?_; focus (simp; done))); refine ⟨[], rfl, _, _, ?_, ?_, rfl, rfl⟩ <;> simp [Wk, mtc, mtcS, mtcSL, mtc0, mtc0L, mtcL, mtcO, mtcOs, cutM, takeE, stA, rl, renV, renL, ren1, ren1L, ren, rens, renO, Nat.blt, lenO, getO, setO, setL, anys, okS, endM, endH, idxN, takeE, pickE, catO, rl, renV, renL, ren1, ren1L, ren, rens, renO, Nat.blt, lenO, getO, setO, setL, anys, mkA])
  · omega
def topN (m : Mk) : Nat → Nat
  | 0 => m.l
  | k + 1 => if hasM m (m.l + (k + 1)) = true then m.l + (k + 1) else topN m k
theorem bitLen_eq (y k : Nat) (hk : k < 64) (h1 : 2 ^ k ≤ y) (h2 : y < 2 ^ (k + 1)) : Lib.bitLen y = k + 1 := by
  have h3 : y < 2 ^ 64 := Nat.lt_of_lt_of_le h2 (Nat.pow_le_pow_right (by omega) (by omega))
  rw [Lib.bitLen_shift k y h1 h3]
  have : y / 2 ^ k = 1 := by
    rw [Nat.div_eq_iff (Nat.two_pow_pos k)]
    rw [Nat.pow_succ] at h2
    omega
  rw [this]
  rfl
theorem topN_eq (m : Mk) : ∀ k, k ≤ 64 → topN m k = m.l + Lib.bitLen (m.b % 2 ^ k)
  | 0, _ => by simp [topN, Nat.mod_one, show Lib.bitLen 0 = 0 from rfl]
  | k + 1, hk => by
    have ih := topN_eq m k (by omega)
    have hh : hasM m (m.l + (k + 1)) = m.b.testBit k := by
      unfold hasM
      rw [decide_eq_false (by omega), decide_eq_true (by omega), show m.l + (k + 1) - m.l - 1 = k by omega]
      simp
    have hm : m.b % 2 ^ (k + 1) = m.b % 2 ^ k + 2 ^ k * (m.b / 2 ^ k % 2) := Nat.mod_mul
    have hlt : m.b % 2 ^ k < 2 ^ k := Nat.mod_lt _ (Nat.two_pow_pos k)
    unfold topN
    rw [hh, Nat.testBit_eq_decide_div_mod_eq]
    by_cases hb : m.b / 2 ^ k % 2 = 1
    · rw [if_pos (by simpa using hb), hm, hb, Nat.mul_one, bitLen_eq _ k (by omega) (by omega) (by rw [Nat.pow_succ]; omega)]
    · have : m.b / 2 ^ k % 2 = 0 := by omega
      rw [if_neg (by simpa using hb), hm, this, ih]
      simp
theorem topN_top (m : Mk) (h : m.b < 18446744073709551616) : topN m 64 = topM m := by
  rw [topN_eq m 64 (Nat.le_refl _), Nat.mod_eq_of_lt h]
  rfl
def climb (P : Nat → Bool) : Nat → Nat → Nat
  | 0, x => x
  | f + 1, x => if P (x + 1) = true then climb P f (x + 1) else x
def bitsOf (P : Nat → Bool) (low : Nat) : Nat → Nat
  | 0 => 0
  | k + 1 => bitsOf P low k + (if P (low + 1 + k) = true then 2 ^ k else 0)
theorem bitsOf_lt (P : Nat → Bool) (low : Nat) : ∀ k, bitsOf P low k < 2 ^ k
  | 0 => by simp [bitsOf]
  | k + 1 => by
    have := bitsOf_lt P low k
    simp only [bitsOf, Nat.pow_succ]
    split <;> omega
def madeM (P : Nat → Bool) (low : Nat) : Mk := ⟨climb P (4611686018427387840 - low) low, bitsOf P (climb P (4611686018427387840 - low) low) 64⟩
def PM (a b : Mk) (n : Nat) (x : Nat) : Bool := hasM a x || (hasM b x || x == n)
theorem climb_le (P : Nat → Bool) : ∀ f x, climb P f x ≤ x + f
  | 0, x => Nat.le_refl _
  | f + 1, x => by
    unfold climb; split
    · have := climb_le P f (x + 1); omega
    · omega
def rsetM (m : Mk) (n : Nat) : Mk × Int := if n > m.l + 64 ∨ n > 4611686018427387840 then (m, 30) else (madeM (PM m m n) m.l, 0)
theorem has_low {m : Mk} {n : Nat} (h : n ≤ m.l) : hasM m n = true := by unfold hasM; rw [decide_eq_true h]; rfl
theorem has_bit (m : Mk) (k : Nat) (hk : k < 64) : hasM m (m.l + 1 + k) = m.b.testBit k := by
  unfold hasM
  rw [decide_eq_false (by omega), decide_eq_true (by omega), show m.l + 1 + k - m.l - 1 = k by omega]
  rfl
theorem has_far {m : Mk} {n : Nat} (h : n > m.l + 64) : hasM m n = false := by
  unfold hasM
  rw [decide_eq_false (by omega), decide_eq_false (by omega)]
  rfl
theorem top_bit (m : Mk) (h : m.b < 18446744073709551616) (n : Nat) (hn : n > topM m) : hasM m n = false := by
  have ht : ∀ k, k ≤ 64 → ∀ n, n > topN m k → n ≤ m.l + k → hasM m n = false := by
    intro k
    induction k with
    | zero => intro _ n h1 h2; simp [topN] at h1; omega
    | succ k ih =>
      intro hk n h1 h2
      unfold topN at h1
      split at h1
      · omega
      · rename_i hh
        by_cases e : n = m.l + (k + 1)
        · subst e; simpa using hh
        · exact ih (by omega) n h1 (by omega)
  by_cases h2 : n ≤ m.l + 64
  · exact ht 64 (Nat.le_refl _) n (by rw [topN_top m h]; exact hn) h2
  · exact has_far (by omega)
/-- Good marks: nothing above what there may be, the next one not marked. -/
structure Gd (m : Mk) : Prop where
  b : m.b < 18446744073709551616
  l : m.l ≤ 4611686018427387840
  z : hasM m (m.l + 1) = false
  t : ∀ n, hasM m n = true → n ≤ 4611686018427387840
theorem gd_of {m : Mk} (h : MkOK m) (hg : goodM m = true) : Gd m := by
  unfold goodM at hg
  simp only [Bool.and_eq_true, decide_eq_true_eq, Bool.not_eq_true'] at hg
  obtain ⟨h1, h2, h3⟩ := hg
  refine ⟨h.2, h1, ?_, fun n hn => ?_⟩
  · have := has_bit m 0 (by omega)
    rw [h2] at this
    exact this
  · by_cases h4 : n > topM m
    · rw [top_bit m h.2 n h4] at hn; cases hn
    · omega
/-- Good marks that mark the same are the same. -/
theorem gd_eq {m k : Mk} (hm : Gd m) (hk : Gd k) (h : ∀ n, hasM m n = hasM k n) : m = k := by
  have hl : m.l = k.l := by
    rcases Nat.lt_trichotomy m.l k.l with h1 | h1 | h1
    · have := h (m.l + 1); rw [hm.z, has_low (by omega)] at this; cases this
    · exact h1
    · have := h (k.l + 1); rw [hk.z, has_low (by omega)] at this; cases this
  have hb : m.b = k.b := by
    apply Nat.eq_of_testBit_eq
    intro i
    by_cases hi : i < 64
    · rw [← has_bit m i hi, ← has_bit k i hi, hl]; exact h _
    · rw [Nat.testBit_lt_two_pow (Nat.lt_of_lt_of_le hm.b (Nat.pow_le_pow_right (n := 2) (i := 64) (by omega) (by omega))), Nat.testBit_lt_two_pow (Nat.lt_of_lt_of_le hk.b (Nat.pow_le_pow_right (n := 2) (i := 64) (by omega) (by omega)))]
  cases m; cases k; simp_all
theorem bits_test (P : Nat → Bool) (L : Nat) : ∀ K k, k < K → (bitsOf P L K).testBit k = P (L + 1 + k)
  | 0, k, h => by omega
  | K + 1, k, h => by
    have hlt := bitsOf_lt P L K
    simp only [bitsOf]
    by_cases hk : k < K
    · rw [← bits_test P L K k hk]
      split
      · rw [Nat.add_comm, Nat.testBit_two_pow_add_gt hk]
      · rfl
    · have : k = K := by omega
      subst this
      split
      · rename_i hp
        rw [Nat.add_comm, Nat.testBit_two_pow_add_eq, Nat.testBit_lt_two_pow hlt, hp]; rfl
      · rename_i hp
        rw [Nat.add_zero, Nat.testBit_lt_two_pow hlt]; simpa using hp
theorem climb_spec (P : Nat → Bool) : ∀ f x, x ≤ climb P f x ∧ (∀ n, x < n → n ≤ climb P f x → P n = true) ∧ (climb P f x = x + f ∨ P (climb P f x + 1) = false)
  | 0, x => ⟨Nat.le_refl _, fun n h1 h2 => by simp [climb] at h2; omega, .inl rfl⟩
  | f + 1, x => by
    unfold climb
    split
    · rename_i hp
      obtain ⟨h1, h2, h3⟩ := climb_spec P f (x + 1)
      refine ⟨by omega, fun n g1 g2 => ?_, ?_⟩
      · by_cases e : n = x + 1
        · rw [e]; exact hp
        · exact h2 n (by omega) g2
      · rcases h3 with h3 | h3
        · left; omega
        · exact .inr h3
    · rename_i hp
      exact ⟨Nat.le_refl _, fun n h1 h2 => by omega, .inr (by simpa using hp)⟩
theorem made_ok (P : Nat → Bool) (low : Nat) (hl : low ≤ 4611686018427387840) (h1 : ∀ n, low < n → P n = true → n ≤ 4611686018427387840) (h2 : ∀ n, P n = true → n ≤ low + 64) : Gd (madeM P low) ∧ ∀ n, hasM (madeM P low) n = (decide (n ≤ low) || P n) := by
  obtain ⟨c1, c2, c3⟩ := climb_spec P (4611686018427387840 - low) low
  have c4 := climb_le P (4611686018427387840 - low) low
  have hm : madeM P low = ⟨climb P (4611686018427387840 - low) low, bitsOf P (climb P (4611686018427387840 - low) low) 64⟩ := rfl
  generalize climb P (4611686018427387840 - low) low = L at *
  rw [hm]
  have has : ∀ n, hasM ⟨L, bitsOf P L 64⟩ n = (decide (n ≤ low) || P n) := by
    intro n
    by_cases g1 : n ≤ L
    · rw [has_low (m := ⟨L, bitsOf P L 64⟩) g1]
      by_cases g2 : n ≤ low
      · rw [decide_eq_true g2]; rfl
      · rw [c2 n (by omega) g1]; simp
    · rw [decide_eq_false (by omega), Bool.false_or]
      by_cases g3 : n ≤ L + 64
      · have := has_bit ⟨L, bitsOf P L 64⟩ (n - L - 1) (by omega)
        rw [bits_test P L 64 _ (by omega)] at this
        simp only at this
        rw [show L + 1 + (n - L - 1) = n by omega] at this
        exact this
      · rw [has_far (m := ⟨L, bitsOf P L 64⟩) (by show n > L + 64; omega)]
        cases hp : P n with
        | false => rfl
        | true => have := h2 n hp; omega
  refine ⟨⟨bitsOf_lt P L 64, by show L ≤ _; omega, ?_, fun n hn => ?_⟩, has⟩
  · rw [has (L + 1), decide_eq_false (by omega), Bool.false_or]
    rcases c3 with c3 | c3
    · cases hp : P (L + 1) with
      | false => rfl
      | true => have := h1 (L + 1) (by omega) hp; omega
    · exact c3
  · rw [has] at hn
    simp only [Bool.or_eq_true, decide_eq_true_eq] at hn
    rcases hn with hn | hn
    · omega
    · by_cases g : low < n
      · exact h1 n g hn
      · omega
theorem ctz_not (b : Nat) (hb : b < 18446744073709551616) : (∀ i, i < ctz 64 (18446744073709551615 - b) → b.testBit i = true) ∧ (b.testBit (ctz 64 (18446744073709551615 - b)) = false) ∧ ctz 64 (18446744073709551615 - b) ≤ 64 := by
  have hn : ∀ i, i < 64 → (18446744073709551615 - b).testBit i = !b.testBit i := by
    intro i hi
    have := Nat.testBit_two_pow_sub_succ (x := b) (n := 64) hb i
    rw [show 2 ^ 64 - (b + 1) = 18446744073709551615 - b by omega] at this
    rw [this, decide_eq_true hi]; rfl
  by_cases h0 : 18446744073709551615 - b = 0
  · rw [h0]
    have : b = 2 ^ 64 - 1 := by omega
    refine ⟨fun i hi => ?_, ?_, Nat.le_refl _⟩
    · rw [this, Nat.testBit_two_pow_sub_one]; have hi : i < 64 := hi; simpa using hi
    · exact Nat.testBit_lt_two_pow hb
  · obtain ⟨m, h1, h2⟩ := ctzFrom_spec 64 (18446744073709551615 - b) (by omega) (by omega)
    have e : ctz 64 (18446744073709551615 - b) = ctzFrom 64 (18446744073709551615 - b) := by simp [ctz, h0]
    rw [e]
    generalize ctzFrom 64 (18446744073709551615 - b) = c at *
    refine ⟨fun i hi => ?_, ?_, by omega⟩
    · have := hn i (by omega)
      rw [h1, Nat.mul_comm, Nat.testBit_mul_two_pow, decide_eq_false (by omega), Bool.false_and] at this
      simpa using this
    · have := hn c h2
      rw [h1, Nat.mul_comm, Nat.testBit_mul_two_pow, decide_eq_true (Nat.le_refl _), Nat.sub_self] at this
      simp [Nat.testBit_zero] at this
      exact this
theorem norm_ok (m : Mk) (hb : m.b < 18446744073709551616) (hl : m.l ≤ 4611686018427387840) (ht : ∀ n, hasM m n = true → n ≤ 4611686018427387840) : Gd (normM m) ∧ ∀ n, hasM (normM m) n = hasM m n := by
  obtain ⟨c1, c2, c3⟩ := ctz_not m.b hb
  have hn : normM m = ⟨m.l + upM' m, m.b >>> upM' m⟩ := rfl
  have hu : upM' m = min (ctz 64 (18446744073709551615 - m.b)) (4611686018427387840 - m.l) := rfl
  generalize ctz 64 (18446744073709551615 - m.b) = c at *
  have huc : upM' m = c := by
    by_cases h : c = 0
    · rw [hu, h]; simp
    · have := has_bit m (c - 1) (by omega)
      rw [c1 (c - 1) (by omega)] at this
      have := ht _ this
      omega
  rw [huc] at hn
  have has : ∀ n, hasM (normM m) n = hasM m n := by
    intro n
    rw [hn]
    by_cases g1 : n ≤ m.l
    · rw [has_low g1, has_low (m := ⟨m.l + c, m.b >>> c⟩) (by show n ≤ m.l + c; omega)]
    · by_cases g2 : n ≤ m.l + c
      · rw [has_low (m := ⟨m.l + c, m.b >>> c⟩) g2]
        have := has_bit m (n - m.l - 1) (by omega)
        rw [c1 _ (by omega), show m.l + 1 + (n - m.l - 1) = n by omega] at this
        exact this.symm
      · by_cases g3 : n ≤ m.l + c + 64
        · have := has_bit ⟨m.l + c, m.b >>> c⟩ (n - (m.l + c) - 1) (by omega)
          simp only at this
          rw [show m.l + c + 1 + (n - (m.l + c) - 1) = n by omega, Nat.testBit_shiftRight] at this
          rw [this]
          by_cases g4 : n ≤ m.l + 64
          · have := has_bit m (n - m.l - 1) (by omega)
            rw [show m.l + 1 + (n - m.l - 1) = n by omega] at this
            rw [this]
            congr 1; omega
          · rw [has_far (by omega)]
            exact Nat.testBit_lt_two_pow (Nat.lt_of_lt_of_le hb (Nat.pow_le_pow_right (n := 2) (i := 64) (by omega) (by omega)))
        · rw [has_far (m := ⟨m.l + c, m.b >>> c⟩) (by show n > m.l + c + 64; omega), has_far (by omega)]
  refine ⟨⟨?_, ?_, ?_, fun n h => ht n (by rw [← has]; exact h)⟩, has⟩
  · rw [hn]; exact shr_lt _ _ hb
  · rw [hn]; show m.l + c ≤ _; omega
  · rw [has, hn]
    show hasM m (m.l + c + 1) = false
    by_cases g : c < 64
    · have := has_bit m c g
      rw [c2] at this
      rw [show m.l + c + 1 = m.l + 1 + c by omega]; exact this
    · exact has_far (by omega)
theorem or_has (m : Mk) (n : Nat) (h1 : m.l < n) (h2 : n ≤ m.l + 64) (x : Nat) : hasM ⟨m.l, m.b ||| 1 <<< (n - m.l - 1)⟩ x = (hasM m x || x == n) := by
  by_cases g : x ≤ m.l
  · rw [has_low g, has_low (m := ⟨m.l, m.b ||| 1 <<< (n - m.l - 1)⟩) g]; rfl
  · by_cases g2 : x ≤ m.l + 64
    · have e1 := has_bit ⟨m.l, m.b ||| 1 <<< (n - m.l - 1)⟩ (x - m.l - 1) (by omega)
      have e2 := has_bit m (x - m.l - 1) (by omega)
      simp only at e1
      rw [show m.l + 1 + (x - m.l - 1) = x by omega] at e1 e2
      rw [e1, e2, Nat.testBit_or, Nat.one_shiftLeft, Nat.testBit_two_pow]
      congr 1
      rw [Bool.eq_iff_iff]
      simp
      omega
    · rw [has_far (m := ⟨m.l, m.b ||| 1 <<< (n - m.l - 1)⟩) (by show x > m.l + 64; omega), has_far (m := m) (by omega)]
      have : ¬ x = n := by omega
      simp [this]
def canSet (m : Mk) (n : Nat) : Prop := n ≤ 4611686018427387840 ∧ n ≤ m.l + 64
theorem set_no {m : Mk} {n : Nat} (h : ¬ canSet m n) : setM m n = (m, 30) ∧ rsetM m n = (m, 30) := by
  unfold canSet at h
  exact ⟨if_pos (by omega), if_pos (by omega)⟩
theorem set_ok {m : Mk} {n : Nat} (hg : Gd m) (h : canSet m n) : (setM m n).2 = 0 ∧ Gd (setM m n).1 ∧ (∀ x, hasM (setM m n).1 x = (hasM m x || x == n)) ∧ rsetM m n = setM m n := by
  obtain ⟨h1, h2⟩ := h
  have hr : rsetM m n = (madeM (PM m m n) m.l, 0) := if_neg (by omega)
  obtain ⟨r1, r2⟩ := made_ok (PM m m n) m.l hg.l (fun x hx hp => by
    simp only [PM, Bool.or_eq_true, beq_iff_eq] at hp
    rcases hp with hp | hp | hp
    · exact hg.t _ hp
    · exact hg.t _ hp
    · omega) (fun x hp => by
    simp only [PM, Bool.or_eq_true, beq_iff_eq] at hp
    rcases hp with hp | hp | hp
    · apply Decidable.byContradiction; intro h; rw [has_far (by omega)] at hp; cases hp
    · apply Decidable.byContradiction; intro h; rw [has_far (by omega)] at hp; cases hp
    · omega)
  have r2' : ∀ x, hasM (madeM (PM m m n) m.l) x = (hasM m x || x == n) := by
    intro x
    rw [r2]
    by_cases g : x ≤ m.l
    · rw [decide_eq_true g, has_low g]; rfl
    · rw [decide_eq_false g]
      simp only [PM, Bool.false_or]
      cases hasM m x <;> rfl
  by_cases h3 : n ≤ m.l
  · have e : setM m n = (m, 0) := by unfold setM; rw [if_neg (by omega), if_pos h3]
    have hx : ∀ x, hasM m x = (hasM m x || x == n) := by
      intro x
      by_cases g : x = n
      · subst g; rw [has_low h3]; rfl
      · simp [g]
    rw [e, hr]
    exact ⟨rfl, hg, hx, by rw [gd_eq r1 hg (fun x => by rw [r2' x]; exact (hx x).symm)]⟩
  · have e : setM m n = (normM ⟨m.l, m.b ||| 1 <<< (n - m.l - 1)⟩, 0) := by unfold setM; rw [if_neg (by omega), if_neg h3]
    have ho := or_has m n (by omega) h2
    have hp : 1 <<< (n - m.l - 1) < 18446744073709551616 := by
      rw [Nat.one_shiftLeft]; exact Nat.pow_lt_pow_right (a := 2) (n := 64) (by omega) (by omega)
    obtain ⟨n1, n2⟩ := norm_ok ⟨m.l, m.b ||| 1 <<< (n - m.l - 1)⟩ (show m.b ||| 1 <<< (n - m.l - 1) < 2 ^ 64 from Nat.or_lt_two_pow hg.b hp) hg.l (fun x hx => by
      rw [ho] at hx
      simp only [Bool.or_eq_true, beq_iff_eq] at hx
      rcases hx with hx | hx
      · exact hg.t _ hx
      · omega)
    rw [e, hr]
    refine ⟨rfl, n1, fun x => by rw [n2, ho], ?_⟩
    rw [gd_eq r1 n1 (fun x => by rw [r2', n2, ho])]
def u64n (l : List Nat) : List (List AV) := l.map fun (n : Nat) => [.int .u64 (n : Int)]
end Go.Proofs.YtlnafekmiidpkaaDoor.S
