/- Contracts of marks. -/
import Derived.Test.YtapfediapkklnaaDoorMk1
namespace Go.Proofs.YtapfediapkklnaaDoor.S
open Go.Lib
set_option linter.all false
set_option maxRecDepth 100000
structure Mk where
  l : Nat
  b : Nat
  deriving DecidableEq
def mkA (m : Mk) : AV := .arr [.int .u64 m.l, .int .u64 m.b]
def MkOK (m : Mk) : Prop := m.l < 18446744073709551616 ∧ m.b < 18446744073709551616
def topM (m : Mk) : Nat := m.l + Lib.bitLen m.b
def hasM (m : Mk) (n : Nat) : Bool := decide (n ≤ m.l) || (decide (n - m.l ≤ 64) && m.b.testBit (n - m.l - 1))
def goodM (m : Mk) : Bool := decide (m.l ≤ 4611686018427387840) && (!m.b.testBit 0 && decide (topM m ≤ 4611686018427387840))
def upM' (m : Mk) : Nat := min (ctz 64 (18446744073709551615 - m.b)) (4611686018427387840 - m.l)
def normM (m : Mk) : Mk := ⟨m.l + upM' m, m.b >>> upM' m⟩
def liftM (m : Mk) (low : Nat) : Mk := if low ≤ m.l then m else ⟨low, m.b >>> (low - m.l)⟩
def overM (m : Mk) (low : Nat) : Mk := if low > 4611686018427387840 then m else normM (liftM m low)
def setM (m : Mk) (n : Nat) : Mk × Int := if n > 4611686018427387840 ∨ (n > m.l ∧ n - m.l > 64) then (m, 30) else if n ≤ m.l then (m, 0) else (normM ⟨m.l, m.b ||| 1 <<< (n - m.l - 1)⟩, 0)
def joinM (a b : Mk) : Mk := let low := max a.l b.l; if liftM a low = liftM b low then normM (liftM a low) else normM ⟨low, (liftM a low).b ||| (liftM b low).b⟩
theorem bit_and (b k : Nat) : ((b >>> k) &&& 1 == 1) = b.testBit k := by
  rw [Nat.testBit_eq_decide_div_mod_eq, Nat.and_one_is_mod, Nat.shiftRight_eq_div_pow]
  by_cases h : b / 2 ^ k % 2 = 1 <;> simp [h]
theorem bl64 (b : Nat) (h : b < 18446744073709551616) : Lib.bitLen b ≤ 64 := Lib.bitLen_le b 64 (by omega) h
theorem top_c (m : Mk) (h : m.b < 18446744073709551616) (hl : m.l ≤ 4611686018427387840) : ACalls Tryd.prog 20 [mkA m] [] (fun r hs => r = .int .u64 (topM m) ∧ hs = []) := by
  have h64 := bl64 m.b h
  refine acalls_weak (acalls_of (fn := Tryd.f20) (A := a20) Tryd.func20 ok_20 en_20 ?_)
  dsimp only [a20, mkA]
  (refine eval_sound 2000 _ _ _ ?_; simp only [and, Nat.reduceAdd, Nat.reduceSub, Nat.reduceMul, eval, nf, nfO, opN, appTo, rowsV, getL, setL, getO, setO, snocO, lenO, putL, ev, evs, ifEq, killV, killL, kill1, kill1L, kill, kills, killO, killOs, bin, binI, binS, binB, eq1, eqB, lit, sameK, kn, unI, mxA, mnA, mkAgg, fits, partN, partA, resN, retV, allVal, isVal, allCell, isCell, okVal, okCell, cellsOf, fillN, rowsN, cellsN, bnd, lohi, offAt, overL, segL, leave, NodeOK, List.cons_append, List.nil_append, List.append_nil, catA, anys, lenA])
  refine aw_dregA (show Tryd.prog.follows .mixedOrders = true by kernel_rfl) 1 [(4, ⟨.int .i64 (Lib.bitLen m.b : Nat), [], [], []⟩), (5, ⟨.int .u64 (Lib.bitLen m.b : Nat), [], [], []⟩), (6, ⟨.int .u64 (topM m), [], [], []⟩)] ?_ ?_ ?_
  · kernel_rfl
  · (simp only [AllOps, OpOK, mkR, autoV, autoR, labV, lkD, vOf, preT, preO, setTs, preV, wrt, memN, usesO, usesT, opT, optT, opsT, ptsT, setHs, objF, updD, newO, lkO, lkF, keysO, keysF, visN, deads, getL, setL, getO, setO, lenO, lenA, anys, setDs, setWr, setFr, endO, catD, List.getD_cons_zero, List.getD_cons_succ, List.getElem?_cons_zero, List.getElem?_cons_succ, List.cons_append, List.nil_append, List.append_nil, Nat.reduceAdd, Nat.reduceSub, and, Nat.reduceAdd, Nat.reduceSub, Nat.reduceMul, eval, nf, nfO, opN, appTo, rowsV, getL, setL, getO, setO, snocO, lenO, putL, ev, evs, ifEq, killV, killL, kill1, kill1L, kill, kills, killO, killOs, bin, binI, binS, binB, eq1, eqB, lit, sameK, kn, unI, mxA, mnA, mkAgg, fits, partN, partA, resN, retV, allVal, isVal, allCell, isCell, okVal, okCell, cellsOf, fillN, rowsN, cellsN, bnd, lohi, offAt, overL, segL, leave, NodeOK, List.cons_append, List.nil_append, List.append_nil, catA, anys, lenA]; and_intros) <;> (first | exact trivial | ((refine eval_sound 2000 _ _ _ ?_; simp only [and, Nat.reduceAdd, Nat.reduceSub, Nat.reduceMul, eval, nf, nfO, opN, appTo, rowsV, getL, setL, getO, setO, snocO, lenO, putL, ev, evs, ifEq, killV, killL, kill1, kill1L, kill, kills, killO, killOs, bin, binI, binS, binB, eq1, eqB, lit, sameK, kn, unI, mxA, mnA, mkAgg, fits, partN, partA, resN, retV, allVal, isVal, allCell, isCell, okVal, okCell, cellsOf, fillN, rowsN, cellsN, bnd, lohi, offAt, overL, segL, leave, NodeOK, List.cons_append, List.nil_append, List.append_nil, catA, anys, lenA]); try simp only [JR, dstOK, wrOK, frOK, rdOK, getL, getO]; try simp only [JR, dstOK, wrOK, frOK, rdOK, sig, sigF, isGrowB, mtc, mtc0, mtc0L, mtcO, mtcL, memN, Nat.blt, rl, renV, renL, ren1, ren1L, ren, rens, renO, Nat.blt, lenO, getO, setO, setL, anys]; try simp))
    · (refine aw_call (len64 m.b h) [] rfl (by simp [upM, nthN, matchO, rens, ren, ren1, ren1L, renL, renV, renO, rl, lenO, getO, Nat.blt, mtc, mtc0, mtc0L, mkA]) rfl (by simp [upM, nthN, matchO, rens, ren, ren1, ren1L, renL, renV, renO, rl, lenO, getO, Nat.blt, mtc, mtc0, mtc0L, mkA]) rfl (fun r hs hp hl => ?_); obtain ⟨rfl, rfl⟩ := hp; simp only [snocO, upM, nthN, putAll, snocAll, killsA, killOsA, grows, putL, rl, renV, renL, ren1, ren1L, ren, rens, renO, Nat.blt, lenO, getO, setO, setL, anys, mkA]; (refine eval_sound 2000 _ _ _ ?_; simp only [and, Nat.reduceAdd, Nat.reduceSub, Nat.reduceMul, eval, nf, nfO, opN, appTo, rowsV, getL, setL, getO, setO, snocO, lenO, putL, ev, evs, ifEq, killV, killL, kill1, kill1L, kill, kills, killO, killOs, bin, binI, binS, binB, eq1, eqB, lit, sameK, kn, unI, mxA, mnA, mkAgg, fits, partN, partA, resN, retV, allVal, isVal, allCell, isCell, okVal, okCell, cellsOf, fillN, rowsN, cellsN, bnd, lohi, offAt, overL, segL, leave, NodeOK, List.cons_append, List.nil_append, List.append_nil, catA, anys, lenA]); (try simp only [JR, dstOK, wrOK, frOK, rdOK, getL, getO]); (try simp only [JR, dstOK, wrOK, frOK, rdOK, sig, sigF, isGrowB, mtc, mtc0, mtc0L, mtcO, mtcL, memN, Nat.blt, rl, renV, renL, ren1, ren1L, ren, rens, renO, Nat.blt, lenO, getO, setO, setL, anys, mkA]); try simp)
    · exact (wruN (by omega)).symm
    · unfold topM
      have : ((m.l + Lib.bitLen m.b : Nat) : Int) = (m.l : Int) + (Lib.bitLen m.b : Nat) := by omega
      rw [← this]
      exact (wruN (by omega)).symm
  · (simp only [AllOps, OpOK, mkR, autoV, autoR, labV, lkD, vOf, preT, preO, setTs, preV, wrt, memN, usesO, usesT, opT, optT, opsT, ptsT, setHs, objF, updD, newO, lkO, lkF, keysO, keysF, visN, deads, getL, setL, getO, setO, lenO, lenA, anys, setDs, setWr, setFr, endO, catD, List.getD_cons_zero, List.getD_cons_succ, List.getElem?_cons_zero, List.getElem?_cons_succ, List.cons_append, List.nil_append, List.append_nil, Nat.reduceAdd, Nat.reduceSub, and, Nat.reduceAdd, Nat.reduceSub, Nat.reduceMul, eval, nf, nfO, opN, appTo, rowsV, getL, setL, getO, setO, snocO, lenO, putL, ev, evs, ifEq, killV, killL, kill1, kill1L, kill, kills, killO, killOs, bin, binI, binS, binB, eq1, eqB, lit, sameK, kn, unI, mxA, mnA, mkAgg, fits, partN, partA, resN, retV, allVal, isVal, allCell, isCell, okVal, okCell, cellsOf, fillN, rowsN, cellsN, bnd, lohi, offAt, overL, segL, leave, NodeOK, List.cons_append, List.nil_append, List.append_nil, catA, anys, lenA]; (refine eval_sound 2000 _ _ _ ?_; simp only [and, Nat.reduceAdd, Nat.reduceSub, Nat.reduceMul, eval, nf, nfO, opN, appTo, rowsV, getL, setL, getO, setO, snocO, lenO, putL, ev, evs, ifEq, killV, killL, kill1, kill1L, kill, kills, killO, killOs, bin, binI, binS, binB, eq1, eqB, lit, sameK, kn, unI, mxA, mnA, mkAgg, fits, partN, partA, resN, retV, allVal, isVal, allCell, isCell, okVal, okCell, cellsOf, fillN, rowsN, cellsN, bnd, lohi, offAt, overL, segL, leave, NodeOK, List.cons_append, List.nil_append, List.append_nil, catA, anys, lenA]))
    ((repeat (with_reducible refine And.intro ?_ ?_; focus (simp; done))); refine ⟨[], rfl, _, _, ?_, ?_, rfl, rfl⟩ <;> simp [Wk, mtc, mtc0, mtc0L, mtcL, mtcO, mtcOs, cutM, takeE, stA, rl, renV, renL, ren1, ren1L, ren, rens, renO, Nat.blt, lenO, getO, setO, setL, anys, okS, endM, endH, idxN, takeE, pickE, catO, rl, renV, renL, ren1, ren1L, ren, rens, renO, Nat.blt, lenO, getO, setO, setL, anys, mkA])
theorem good_c (m : Mk) (h : MkOK m) : ACalls Tryd.prog 7 [mkA m] [] (fun r hs => r = .bool (goodM m) ∧ hs = []) := by
  refine acalls_weak (acalls_of (fn := Tryd.f7) (A := a7) Tryd.func7 ok_7 en_7 ?_)
  dsimp only [a7, mkA]
  (refine eval_sound 2000 _ _ _ ?_; simp only [and, Nat.reduceAdd, Nat.reduceSub, Nat.reduceMul, eval, nf, nfO, opN, appTo, rowsV, getL, setL, getO, setO, snocO, lenO, putL, ev, evs, ifEq, killV, killL, kill1, kill1L, kill, kills, killO, killOs, bin, binI, binS, binB, eq1, eqB, lit, sameK, kn, unI, mxA, mnA, mkAgg, fits, partN, partA, resN, retV, allVal, isVal, allCell, isCell, okVal, okCell, cellsOf, fillN, rowsN, cellsN, bnd, lohi, offAt, overL, segL, leave, NodeOK, List.cons_append, List.nil_append, List.append_nil, catA, anys, lenA])
  have e1 : (IntKind.u64.wrap ((BitVec.ofInt IntKind.u64.bits (m.b : Int) &&& BitVec.ofInt IntKind.u64.bits 1).toNat : Int) == 0) = !m.b.testBit 0 := by
    have := andN (a := m.b) (b := 1) h.2 (by decide)
    rw [show (((1 : Nat) : Int)) = 1 from rfl] at this
    rw [this]
    have h2 := bit_and m.b 0
    rw [Nat.shiftRight_zero] at h2
    rw [← h2, Nat.and_one_is_mod]
    have : m.b % 2 = 0 ∨ m.b % 2 = 1 := by omega
    rcases this with h | h <;> simp [h]
  rw [e1]
  refine ⟨fun h1 => ⟨fun h2 => ?_, fun h2 => ?_⟩, fun h1 => ?_⟩
  · have h1 : m.l ≤ 4611686018427387840 := by simp at h1; omega
    have hb := h.2
    have hT := top_c m hb h1
    ((repeat (with_reducible refine And.intro ?_ ?_; focus (simp; done))); refine aw_call (hT) [] rfl (by simp [upM, nthN, matchO, rens, ren, ren1, ren1L, renL, renV, renO, rl, lenO, getO, Nat.blt, mtc, mtc0, mtc0L, mkA]) rfl (by simp [upM, nthN, matchO, rens, ren, ren1, ren1L, renL, renV, renO, rl, lenO, getO, Nat.blt, mtc, mtc0, mtc0L, mkA]) rfl (fun r hs hp hl => ?_); obtain ⟨rfl, rfl⟩ := hp; simp only [snocO, upM, nthN, putAll, snocAll, killsA, killOsA, grows, putL, rl, renV, renL, ren1, ren1L, ren, rens, renO, Nat.blt, lenO, getO, setO, setL, anys, mkA]; (refine eval_sound 2000 _ _ _ ?_; simp only [and, Nat.reduceAdd, Nat.reduceSub, Nat.reduceMul, eval, nf, nfO, opN, appTo, rowsV, getL, setL, getO, setO, snocO, lenO, putL, ev, evs, ifEq, killV, killL, kill1, kill1L, kill, kills, killO, killOs, bin, binI, binS, binB, eq1, eqB, lit, sameK, kn, unI, mxA, mnA, mkAgg, fits, partN, partA, resN, retV, allVal, isVal, allCell, isCell, okVal, okCell, cellsOf, fillN, rowsN, cellsN, bnd, lohi, offAt, overL, segL, leave, NodeOK, List.cons_append, List.nil_append, List.append_nil, catA, anys, lenA]))
    have e2 : goodM m = decide (((topM m : Nat) : Int) ≤ 4611686018427387840) := by
      unfold goodM
      rw [h2, decide_eq_true h1]
      simp only [Bool.true_and]
      exact decide_eq_decide.2 (by omega)
    ((repeat (with_reducible refine And.intro ?_ ?_; focus (simp; done))); refine ⟨[], rfl, _, _, ?_, ?_, rfl, rfl⟩ <;> simp [Wk, mtc, mtc0, mtc0L, mtcL, mtcO, mtcOs, cutM, takeE, stA, rl, renV, renL, ren1, ren1L, ren, rens, renO, Nat.blt, lenO, getO, setO, setL, anys, okS, endM, endH, idxN, takeE, pickE, catO, rl, renV, renL, ren1, ren1L, ren, rens, renO, Nat.blt, lenO, getO, setO, setL, anys, e2])
  · have : goodM m = false := by unfold goodM; rw [h2]; simp
    ((repeat (with_reducible refine And.intro ?_ ?_; focus (simp; done))); refine ⟨[], rfl, _, _, ?_, ?_, rfl, rfl⟩ <;> simp [Wk, mtc, mtc0, mtc0L, mtcL, mtcO, mtcOs, cutM, takeE, stA, rl, renV, renL, ren1, ren1L, ren, rens, renO, Nat.blt, lenO, getO, setO, setL, anys, okS, endM, endH, idxN, takeE, pickE, catO, rl, renV, renL, ren1, ren1L, ren, rens, renO, Nat.blt, lenO, getO, setO, setL, anys, this])
  · have : goodM m = false := by unfold goodM; simp at h1 ⊢; intro h3; omega
    ((repeat (with_reducible refine And.intro ?_ ?_; focus (simp; done))); refine ⟨[], rfl, _, _, ?_, ?_, rfl, rfl⟩ <;> simp [Wk, mtc, mtc0, mtc0L, mtcL, mtcO, mtcOs, cutM, takeE, stA, rl, renV, renL, ren1, ren1L, ren, rens, renO, Nat.blt, lenO, getO, setO, setL, anys, okS, endM, endH, idxN, takeE, pickE, catO, rl, renV, renL, ren1, ren1L, ren, rens, renO, Nat.blt, lenO, getO, setO, setL, anys, this])
theorem has_c (m : Mk) (n : Nat) (h : MkOK m) (hn : n < 18446744073709551616) : ACalls Tryd.prog 10 [mkA m, .int .u64 n] [] (fun r hs => r = .bool (hasM m n) ∧ hs = []) := by
  refine acalls_weak (acalls_of (fn := Tryd.f10) (A := a10) Tryd.func10 ok_10 en_10 ?_)
  dsimp only [a10, mkA]
  (refine eval_sound 2000 _ _ _ ?_; simp only [and, Nat.reduceAdd, Nat.reduceSub, Nat.reduceMul, eval, nf, nfO, opN, appTo, rowsV, getL, setL, getO, setO, snocO, lenO, putL, ev, evs, ifEq, killV, killL, kill1, kill1L, kill, kills, killO, killOs, bin, binI, binS, binB, eq1, eqB, lit, sameK, kn, unI, mxA, mnA, mkAgg, fits, partN, partA, resN, retV, allVal, isVal, allCell, isCell, okVal, okCell, cellsOf, fillN, rowsN, cellsN, bnd, lohi, offAt, overL, segL, leave, NodeOK, List.cons_append, List.nil_append, List.append_nil, catA, anys, lenA])
  simp only [decide_eq_true_eq, decide_eq_false_iff_not]
  refine ⟨fun h1 => ?_, fun h1 => ?_⟩
  · have : hasM m n = true := by unfold hasM; simp; left; omega
    ((repeat (with_reducible refine And.intro ?_ ?_; focus (simp; done))); refine ⟨[], rfl, _, _, ?_, ?_, rfl, rfl⟩ <;> simp [Wk, mtc, mtc0, mtc0L, mtcL, mtcO, mtcOs, cutM, takeE, stA, rl, renV, renL, ren1, ren1L, ren, rens, renO, Nat.blt, lenO, getO, setO, setL, anys, okS, endM, endH, idxN, takeE, pickE, catO, rl, renV, renL, ren1, ren1L, ren, rens, renO, Nat.blt, lenO, getO, setO, setL, anys, this])
  · have e1 : IntKind.u64.wrap ((n : Int) - m.l) = ((n - m.l : Nat) : Int) := by
      rw [show (n : Int) - m.l = ((n - m.l : Nat) : Int) by omega]; exact wruN (by omega)
    have e2 : IntKind.u64.wrap (((n - m.l : Nat) : Int) - 1) = ((n - m.l - 1 : Nat) : Int) := by
      rw [show ((n - m.l : Nat) : Int) - 1 = ((n - m.l - 1 : Nat) : Int) by omega]; exact wruN (by omega)
    rw [e1, e2, shrN _ _ h.2]
    have e3 : IntKind.u64.wrap ((BitVec.ofInt IntKind.u64.bits ((m.b >>> (n - m.l - 1) : Nat) : Int) &&& BitVec.ofInt IntKind.u64.bits 1).toNat : Int) = (((m.b >>> (n - m.l - 1)) &&& 1 : Nat) : Int) :=
      andN (b := 1) (Nat.lt_of_le_of_lt (by rw [Nat.shiftRight_eq_div_pow]; exact Nat.div_le_self _ _) h.2) (by decide)
    rw [e3]
    have e4 : ((((m.b >>> (n - m.l - 1)) &&& 1 : Nat) : Int) == 1) = m.b.testBit (n - m.l - 1) := by
      rw [← bit_and, Bool.eq_iff_iff, beq_iff_eq, beq_iff_eq]
      omega
    rw [e4]
    refine ⟨fun h2 => ⟨by omega, ?_⟩, fun h2 => ?_⟩
    · have : hasM m n = m.b.testBit (n - m.l - 1) := by
        unfold hasM
        rw [decide_eq_false (by omega), decide_eq_true (by omega)]
        simp
      ((repeat (with_reducible refine And.intro ?_ ?_; focus (simp; done))); refine ⟨[], rfl, _, _, ?_, ?_, rfl, rfl⟩ <;> simp [Wk, mtc, mtc0, mtc0L, mtcL, mtcO, mtcOs, cutM, takeE, stA, rl, renV, renL, ren1, ren1L, ren, rens, renO, Nat.blt, lenO, getO, setO, setL, anys, okS, endM, endH, idxN, takeE, pickE, catO, rl, renV, renL, ren1, ren1L, ren, rens, renO, Nat.blt, lenO, getO, setO, setL, anys, this])
    · have : hasM m n = false := by
        unfold hasM
        rw [decide_eq_false (by omega), decide_eq_false (by omega)]
        rfl
      ((repeat (with_reducible refine And.intro ?_ ?_; focus (simp; done))); refine ⟨[], rfl, _, _, ?_, ?_, rfl, rfl⟩ <;> simp [Wk, mtc, mtc0, mtc0L, mtcL, mtcO, mtcOs, cutM, takeE, stA, rl, renV, renL, ren1, ren1L, ren, rens, renO, Nat.blt, lenO, getO, setO, setL, anys, okS, endM, endH, idxN, takeE, pickE, catO, rl, renV, renL, ren1, ren1L, ren, rens, renO, Nat.blt, lenO, getO, setO, setL, anys, this])
theorem ctz_le (x : Nat) (hx : x < 18446744073709551616) : ctz 64 x ≤ 64 := by
  by_cases h : x = 0
  · subst h; exact Nat.le_refl _
  · exact Nat.le_of_lt (lowest_bit 64 x h hx).2
theorem norm_c (m : Mk) (h : m.b < 18446744073709551616) (hl : m.l ≤ 4611686018427387840) : ACalls Tryd.prog 27 [mkA m] [] (fun r hs => r = mkA (normM m) ∧ hs = []) := by
  have hc := ctz_le (18446744073709551615 - m.b) (by omega)
  have hu : upM' m ≤ 64 ∧ upM' m ≤ 4611686018427387840 - m.l := by unfold upM'; omega
  refine acalls_weak (acalls_of (fn := Tryd.f27) (A := a27) Tryd.func27 ok_27 en_27 ?_)
  dsimp only [a27, mkA]
  (refine eval_sound 2000 _ _ _ ?_; simp only [and, Nat.reduceAdd, Nat.reduceSub, Nat.reduceMul, eval, nf, nfO, opN, appTo, rowsV, getL, setL, getO, setO, snocO, lenO, putL, ev, evs, ifEq, killV, killL, kill1, kill1L, kill, kills, killO, killOs, bin, binI, binS, binB, eq1, eqB, lit, sameK, kn, unI, mxA, mnA, mkAgg, fits, partN, partA, resN, retV, allVal, isVal, allCell, isCell, okVal, okCell, cellsOf, fillN, rowsN, cellsN, bnd, lohi, offAt, overL, segL, leave, NodeOK, List.cons_append, List.nil_append, List.append_nil, catA, anys, lenA])
  refine aw_dregA (show Tryd.prog.follows .mixedOrders = true by kernel_rfl) 2 [(2, ⟨.int .u64 (18446744073709551615 - m.b : Nat), [], [], []⟩), (3, ⟨.int .i64 (ctz 64 (18446744073709551615 - m.b) : Nat), [], [], []⟩), (4, ⟨.int .u64 (ctz 64 (18446744073709551615 - m.b) : Nat), [], [], []⟩), (7, ⟨.int .u64 (4611686018427387840 - m.l : Nat), [], [], []⟩), (8, ⟨.int .u64 (upM' m : Nat), [], [], []⟩)] ?_ ?_ ?_
  · kernel_rfl
  · (simp only [AllOps, OpOK, mkR, autoV, autoR, labV, lkD, vOf, preT, preO, setTs, preV, wrt, memN, usesO, usesT, opT, optT, opsT, ptsT, setHs, objF, updD, newO, lkO, lkF, keysO, keysF, visN, deads, getL, setL, getO, setO, lenO, lenA, anys, setDs, setWr, setFr, endO, catD, List.getD_cons_zero, List.getD_cons_succ, List.getElem?_cons_zero, List.getElem?_cons_succ, List.cons_append, List.nil_append, List.append_nil, Nat.reduceAdd, Nat.reduceSub, and, Nat.reduceAdd, Nat.reduceSub, Nat.reduceMul, eval, nf, nfO, opN, appTo, rowsV, getL, setL, getO, setO, snocO, lenO, putL, ev, evs, ifEq, killV, killL, kill1, kill1L, kill, kills, killO, killOs, bin, binI, binS, binB, eq1, eqB, lit, sameK, kn, unI, mxA, mnA, mkAgg, fits, partN, partA, resN, retV, allVal, isVal, allCell, isCell, okVal, okCell, cellsOf, fillN, rowsN, cellsN, bnd, lohi, offAt, overL, segL, leave, NodeOK, List.cons_append, List.nil_append, List.append_nil, catA, anys, lenA]; and_intros) <;> (first | exact trivial | ((refine eval_sound 2000 _ _ _ ?_; simp only [and, Nat.reduceAdd, Nat.reduceSub, Nat.reduceMul, eval, nf, nfO, opN, appTo, rowsV, getL, setL, getO, setO, snocO, lenO, putL, ev, evs, ifEq, killV, killL, kill1, kill1L, kill, kills, killO, killOs, bin, binI, binS, binB, eq1, eqB, lit, sameK, kn, unI, mxA, mnA, mkAgg, fits, partN, partA, resN, retV, allVal, isVal, allCell, isCell, okVal, okCell, cellsOf, fillN, rowsN, cellsN, bnd, lohi, offAt, overL, segL, leave, NodeOK, List.cons_append, List.nil_append, List.append_nil, catA, anys, lenA]); try simp only [JR, dstOK, wrOK, frOK, rdOK, getL, getO]; try simp only [JR, dstOK, wrOK, frOK, rdOK, sig, sigF, isGrowB, mtc, mtc0, mtc0L, mtcO, mtcL, memN, Nat.blt, rl, renV, renL, ren1, ren1L, ren, rens, renO, Nat.blt, lenO, getO, setO, setL, anys]; try simp))
    · exact (notN h).symm
    · (refine aw_call (tz64 (18446744073709551615 - m.b) (by omega)) [] rfl (by simp [upM, nthN, matchO, rens, ren, ren1, ren1L, renL, renV, renO, rl, lenO, getO, Nat.blt, mtc, mtc0, mtc0L, mkA]) rfl (by simp [upM, nthN, matchO, rens, ren, ren1, ren1L, renL, renV, renO, rl, lenO, getO, Nat.blt, mtc, mtc0, mtc0L, mkA]) rfl (fun r hs hp hl => ?_); obtain ⟨rfl, rfl⟩ := hp; simp only [snocO, upM, nthN, putAll, snocAll, killsA, killOsA, grows, putL, rl, renV, renL, ren1, ren1L, ren, rens, renO, Nat.blt, lenO, getO, setO, setL, anys, mkA]; (refine eval_sound 2000 _ _ _ ?_; simp only [and, Nat.reduceAdd, Nat.reduceSub, Nat.reduceMul, eval, nf, nfO, opN, appTo, rowsV, getL, setL, getO, setO, snocO, lenO, putL, ev, evs, ifEq, killV, killL, kill1, kill1L, kill, kills, killO, killOs, bin, binI, binS, binB, eq1, eqB, lit, sameK, kn, unI, mxA, mnA, mkAgg, fits, partN, partA, resN, retV, allVal, isVal, allCell, isCell, okVal, okCell, cellsOf, fillN, rowsN, cellsN, bnd, lohi, offAt, overL, segL, leave, NodeOK, List.cons_append, List.nil_append, List.append_nil, catA, anys, lenA]); (try simp only [JR, dstOK, wrOK, frOK, rdOK, getL, getO]); (try simp only [JR, dstOK, wrOK, frOK, rdOK, sig, sigF, isGrowB, mtc, mtc0, mtc0L, mtcO, mtcL, memN, Nat.blt, rl, renV, renL, ren1, ren1L, ren, rens, renO, Nat.blt, lenO, getO, setO, setL, anys, mkA]); try simp)
    · exact (wruN (n := ctz 64 (18446744073709551615 - m.b)) (by omega)).symm
    · rw [show (4611686018427387840 : Int) - m.l = ((4611686018427387840 - m.l : Nat) : Int) by omega]
      exact (wruN (by omega)).symm
    · unfold upM'
      split <;> omega
  · (simp only [AllOps, OpOK, mkR, autoV, autoR, labV, lkD, vOf, preT, preO, setTs, preV, wrt, memN, usesO, usesT, opT, optT, opsT, ptsT, setHs, objF, updD, newO, lkO, lkF, keysO, keysF, visN, deads, getL, setL, getO, setO, lenO, lenA, anys, setDs, setWr, setFr, endO, catD, List.getD_cons_zero, List.getD_cons_succ, List.getElem?_cons_zero, List.getElem?_cons_succ, List.cons_append, List.nil_append, List.append_nil, Nat.reduceAdd, Nat.reduceSub, and, Nat.reduceAdd, Nat.reduceSub, Nat.reduceMul, eval, nf, nfO, opN, appTo, rowsV, getL, setL, getO, setO, snocO, lenO, putL, ev, evs, ifEq, killV, killL, kill1, kill1L, kill, kills, killO, killOs, bin, binI, binS, binB, eq1, eqB, lit, sameK, kn, unI, mxA, mnA, mkAgg, fits, partN, partA, resN, retV, allVal, isVal, allCell, isCell, okVal, okCell, cellsOf, fillN, rowsN, cellsN, bnd, lohi, offAt, overL, segL, leave, NodeOK, List.cons_append, List.nil_append, List.append_nil, catA, anys, lenA]; (refine eval_sound 2000 _ _ _ ?_; simp only [and, Nat.reduceAdd, Nat.reduceSub, Nat.reduceMul, eval, nf, nfO, opN, appTo, rowsV, getL, setL, getO, setO, snocO, lenO, putL, ev, evs, ifEq, killV, killL, kill1, kill1L, kill, kills, killO, killOs, bin, binI, binS, binB, eq1, eqB, lit, sameK, kn, unI, mxA, mnA, mkAgg, fits, partN, partA, resN, retV, allVal, isVal, allCell, isCell, okVal, okCell, cellsOf, fillN, rowsN, cellsN, bnd, lohi, offAt, overL, segL, leave, NodeOK, List.cons_append, List.nil_append, List.append_nil, catA, anys, lenA]))
    have e1 : (m.l : Int) + (upM' m : Nat) = ((m.l + upM' m : Nat) : Int) := by omega
    rw [e1, wruN (n := m.l + upM' m) (by omega), shrN _ _ h]
    ((repeat (with_reducible refine And.intro ?_ ?_; focus (simp; done))); refine ⟨[], rfl, _, _, ?_, ?_, rfl, rfl⟩ <;> simp [Wk, mtc, mtc0, mtc0L, mtcL, mtcO, mtcOs, cutM, takeE, stA, rl, renV, renL, ren1, ren1L, ren, rens, renO, Nat.blt, lenO, getO, setO, setL, anys, okS, endM, endH, idxN, takeE, pickE, catO, rl, renV, renL, ren1, ren1L, ren, rens, renO, Nat.blt, lenO, getO, setO, setL, anys, mkA, normM])
theorem lift_c (m : Mk) (low : Nat) (h : m.b < 18446744073709551616) (hw : low < 18446744073709551616) : ACalls Tryd.prog 29 [mkA m, .int .u64 low] [] (fun r hs => r = mkA (liftM m low) ∧ hs = []) := by
  refine acalls_weak (acalls_of (fn := Tryd.f29) (A := a29) Tryd.func29 ok_29 en_29 ?_)
  dsimp only [a29, mkA]
  (refine eval_sound 2000 _ _ _ ?_; simp only [and, Nat.reduceAdd, Nat.reduceSub, Nat.reduceMul, eval, nf, nfO, opN, appTo, rowsV, getL, setL, getO, setO, snocO, lenO, putL, ev, evs, ifEq, killV, killL, kill1, kill1L, kill, kills, killO, killOs, bin, binI, binS, binB, eq1, eqB, lit, sameK, kn, unI, mxA, mnA, mkAgg, fits, partN, partA, resN, retV, allVal, isVal, allCell, isCell, okVal, okCell, cellsOf, fillN, rowsN, cellsN, bnd, lohi, offAt, overL, segL, leave, NodeOK, List.cons_append, List.nil_append, List.append_nil, catA, anys, lenA])
  simp only [decide_eq_true_eq, decide_eq_false_iff_not]
  refine ⟨fun h1 => ?_, fun h1 => ?_⟩
  · have : liftM m low = m := if_pos (by omega)
    rw [this]
    ((repeat (with_reducible refine And.intro ?_ ?_; focus (simp; done))); refine ⟨[], rfl, _, _, ?_, ?_, rfl, rfl⟩ <;> simp [Wk, mtc, mtc0, mtc0L, mtcL, mtcO, mtcOs, cutM, takeE, stA, rl, renV, renL, ren1, ren1L, ren, rens, renO, Nat.blt, lenO, getO, setO, setL, anys, okS, endM, endH, idxN, takeE, pickE, catO, rl, renV, renL, ren1, ren1L, ren, rens, renO, Nat.blt, lenO, getO, setO, setL, anys, mkA])
  · have e0 : liftM m low = ⟨low, m.b >>> (low - m.l)⟩ := if_neg (by omega)
    have e1 : IntKind.u64.wrap ((low : Int) - m.l) = ((low - m.l : Nat) : Int) := by
      rw [show (low : Int) - m.l = ((low - m.l : Nat) : Int) by omega]; exact wruN (by omega)
    rw [e0, e1, shrN _ _ h]
    ((repeat (with_reducible refine And.intro ?_ ?_; focus (simp; done))); refine ⟨[], rfl, _, _, ?_, ?_, rfl, rfl⟩ <;> simp [Wk, mtc, mtc0, mtc0L, mtcL, mtcO, mtcOs, cutM, takeE, stA, rl, renV, renL, ren1, ren1L, ren, rens, renO, Nat.blt, lenO, getO, setO, setL, anys, okS, endM, endH, idxN, takeE, pickE, catO, rl, renV, renL, ren1, ren1L, ren, rens, renO, Nat.blt, lenO, getO, setO, setL, anys, mkA])
theorem shr_lt (b k : Nat) (h : b < 18446744073709551616) : b >>> k < 18446744073709551616 := Nat.lt_of_le_of_lt (by rw [Nat.shiftRight_eq_div_pow]; exact Nat.div_le_self _ _) h
theorem lift_lt (m : Mk) (low : Nat) (h : m.b < 18446744073709551616) : (liftM m low).b < 18446744073709551616 := by
  unfold liftM; split
  · exact h
  · exact shr_lt _ _ h
theorem over_c (m : Mk) (low : Nat) (h : m.b < 18446744073709551616) (hl : m.l ≤ 4611686018427387840) (hw : low < 18446744073709551616) : ACalls Tryd.prog 12 [mkA m, .int .u64 low] [] (fun r hs => r = mkA (overM m low) ∧ hs = []) := by
  refine acalls_weak (acalls_of (fn := Tryd.f12) (A := a12) Tryd.func12 ok_12 en_12 ?_)
  dsimp only [a12, mkA]
  (refine eval_sound 2000 _ _ _ ?_; simp only [and, Nat.reduceAdd, Nat.reduceSub, Nat.reduceMul, eval, nf, nfO, opN, appTo, rowsV, getL, setL, getO, setO, snocO, lenO, putL, ev, evs, ifEq, killV, killL, kill1, kill1L, kill, kills, killO, killOs, bin, binI, binS, binB, eq1, eqB, lit, sameK, kn, unI, mxA, mnA, mkAgg, fits, partN, partA, resN, retV, allVal, isVal, allCell, isCell, okVal, okCell, cellsOf, fillN, rowsN, cellsN, bnd, lohi, offAt, overL, segL, leave, NodeOK, List.cons_append, List.nil_append, List.append_nil, catA, anys, lenA])
  simp only [decide_eq_true_eq, decide_eq_false_iff_not]
  refine ⟨fun h1 => ?_, fun h1 => ?_⟩
  · have : overM m low = m := if_pos (by omega)
    rw [this]
    ((repeat (with_reducible refine And.intro ?_ ?_; focus (simp; done))); refine ⟨[], rfl, _, _, ?_, ?_, rfl, rfl⟩ <;> simp [Wk, mtc, mtc0, mtc0L, mtcL, mtcO, mtcOs, cutM, takeE, stA, rl, renV, renL, ren1, ren1L, ren, rens, renO, Nat.blt, lenO, getO, setO, setL, anys, okS, endM, endH, idxN, takeE, pickE, catO, rl, renV, renL, ren1, ren1L, ren, rens, renO, Nat.blt, lenO, getO, setO, setL, anys, mkA])
  · have h2 : ¬ low > 4611686018427387840 := by omega
    have e0 : overM m low = normM (liftM m low) := if_neg h2
    rw [e0]
    ((repeat (with_reducible refine And.intro ?_ ?_; focus (simp; done))); refine aw_call (lift_c m low h hw) [] rfl (by simp [upM, nthN, matchO, rens, ren, ren1, ren1L, renL, renV, renO, rl, lenO, getO, Nat.blt, mtc, mtc0, mtc0L, mkA]) rfl (by simp [upM, nthN, matchO, rens, ren, ren1, ren1L, renL, renV, renO, rl, lenO, getO, Nat.blt, mtc, mtc0, mtc0L, mkA]) rfl (fun r hs hp hl => ?_); obtain ⟨rfl, rfl⟩ := hp; simp only [snocO, upM, nthN, putAll, snocAll, killsA, killOsA, grows, putL, rl, renV, renL, ren1, ren1L, ren, rens, renO, Nat.blt, lenO, getO, setO, setL, anys, mkA]; (refine eval_sound 2000 _ _ _ ?_; simp only [and, Nat.reduceAdd, Nat.reduceSub, Nat.reduceMul, eval, nf, nfO, opN, appTo, rowsV, getL, setL, getO, setO, snocO, lenO, putL, ev, evs, ifEq, killV, killL, kill1, kill1L, kill, kills, killO, killOs, bin, binI, binS, binB, eq1, eqB, lit, sameK, kn, unI, mxA, mnA, mkAgg, fits, partN, partA, resN, retV, allVal, isVal, allCell, isCell, okVal, okCell, cellsOf, fillN, rowsN, cellsN, bnd, lohi, offAt, overL, segL, leave, NodeOK, List.cons_append, List.nil_append, List.append_nil, catA, anys, lenA]))
    ((repeat (with_reducible refine And.intro ?_ ?_; focus (simp; done))); refine aw_call (norm_c (liftM m low) (lift_lt m low h) (by unfold liftM; split <;> (try simp only []) <;> omega)) [] rfl (by simp [upM, nthN, matchO, rens, ren, ren1, ren1L, renL, renV, renO, rl, lenO, getO, Nat.blt, mtc, mtc0, mtc0L, mkA]) rfl (by simp [upM, nthN, matchO, rens, ren, ren1, ren1L, renL, renV, renO, rl, lenO, getO, Nat.blt, mtc, mtc0, mtc0L, mkA]) rfl (fun r hs hp hl => ?_); obtain ⟨rfl, rfl⟩ := hp; simp only [snocO, upM, nthN, putAll, snocAll, killsA, killOsA, grows, putL, rl, renV, renL, ren1, ren1L, ren, rens, renO, Nat.blt, lenO, getO, setO, setL, anys, mkA]; (refine eval_sound 2000 _ _ _ ?_; simp only [and, Nat.reduceAdd, Nat.reduceSub, Nat.reduceMul, eval, nf, nfO, opN, appTo, rowsV, getL, setL, getO, setO, snocO, lenO, putL, ev, evs, ifEq, killV, killL, kill1, kill1L, kill, kills, killO, killOs, bin, binI, binS, binB, eq1, eqB, lit, sameK, kn, unI, mxA, mnA, mkAgg, fits, partN, partA, resN, retV, allVal, isVal, allCell, isCell, okVal, okCell, cellsOf, fillN, rowsN, cellsN, bnd, lohi, offAt, overL, segL, leave, NodeOK, List.cons_append, List.nil_append, List.append_nil, catA, anys, lenA]))
    ((repeat (with_reducible refine And.intro ?_ ?_; focus (simp; done))); refine ⟨[], rfl, _, _, ?_, ?_, rfl, rfl⟩ <;> simp [Wk, mtc, mtc0, mtc0L, mtcL, mtcO, mtcOs, cutM, takeE, stA, rl, renV, renL, ren1, ren1L, ren, rens, renO, Nat.blt, lenO, getO, setO, setL, anys, okS, endM, endH, idxN, takeE, pickE, catO, rl, renV, renL, ren1, ren1L, ren, rens, renO, Nat.blt, lenO, getO, setO, setL, anys, mkA])
theorem set_c (m : Mk) (n : Nat) (h : m.b < 18446744073709551616) (hl : m.l ≤ 4611686018427387840) (hn : n < 18446744073709551616) : ACalls Tryd.prog 9 [mkA m, .int .u64 n] [] (fun r hs => r = .tup [mkA (setM m n).1, .int .i64 (setM m n).2] ∧ hs = []) := by
  refine acalls_weak (acalls_of (fn := Tryd.f9) (A := a9) Tryd.func9 ok_9 en_9 ?_)
  dsimp only [a9, mkA]
  (refine eval_sound 2000 _ _ _ ?_; simp only [and, Nat.reduceAdd, Nat.reduceSub, Nat.reduceMul, eval, nf, nfO, opN, appTo, rowsV, getL, setL, getO, setO, snocO, lenO, putL, ev, evs, ifEq, killV, killL, kill1, kill1L, kill, kills, killO, killOs, bin, binI, binS, binB, eq1, eqB, lit, sameK, kn, unI, mxA, mnA, mkAgg, fits, partN, partA, resN, retV, allVal, isVal, allCell, isCell, okVal, okCell, cellsOf, fillN, rowsN, cellsN, bnd, lohi, offAt, overL, segL, leave, NodeOK, List.cons_append, List.nil_append, List.append_nil, catA, anys, lenA])
  simp only [decide_eq_true_eq, decide_eq_false_iff_not]
  have e1 : n > m.l → IntKind.u64.wrap ((n : Int) - m.l) = ((n - m.l : Nat) : Int) := fun h => by
    rw [show (n : Int) - m.l = ((n - m.l : Nat) : Int) by omega]; exact wruN (by omega)
  refine ⟨fun h1 => ?_, fun h1 => ⟨fun h2 => ⟨fun h3 => ?_, fun h3 => ⟨fun h4 => ?_, fun h4 => ?_⟩⟩, fun h2 => ⟨fun h4 => ?_, fun h4 => ?_⟩⟩⟩
  · have : setM m n = (m, 30) := if_pos (.inl (by omega))
    rw [this]
    ((repeat (with_reducible refine And.intro ?_ ?_; focus (simp; done))); refine ⟨[], rfl, _, _, ?_, ?_, rfl, rfl⟩ <;> simp [Wk, mtc, mtc0, mtc0L, mtcL, mtcO, mtcOs, cutM, takeE, stA, rl, renV, renL, ren1, ren1L, ren, rens, renO, Nat.blt, lenO, getO, setO, setL, anys, okS, endM, endH, idxN, takeE, pickE, catO, rl, renV, renL, ren1, ren1L, ren, rens, renO, Nat.blt, lenO, getO, setO, setL, anys, mkA])
  · rw [e1 (by omega)] at h3
    have : setM m n = (m, 30) := if_pos (.inr ⟨by omega, by omega⟩)
    rw [this]
    ((repeat (with_reducible refine And.intro ?_ ?_; focus (simp; done))); refine ⟨[], rfl, _, _, ?_, ?_, rfl, rfl⟩ <;> simp [Wk, mtc, mtc0, mtc0L, mtcL, mtcO, mtcOs, cutM, takeE, stA, rl, renV, renL, ren1, ren1L, ren, rens, renO, Nat.blt, lenO, getO, setO, setL, anys, okS, endM, endH, idxN, takeE, pickE, catO, rl, renV, renL, ren1, ren1L, ren, rens, renO, Nat.blt, lenO, getO, setO, setL, anys, mkA])
  · omega
  · rw [e1 (by omega)] at h3
    have e0 : setM m n = (normM ⟨m.l, m.b ||| 1 <<< (n - m.l - 1)⟩, 0) := by
      unfold setM
      rw [if_neg (by omega), if_neg (by omega)]
    have hk : n - m.l - 1 < 64 := by omega
    have e2 : IntKind.u64.wrap (((n - m.l : Nat) : Int) - 1) = ((n - m.l - 1 : Nat) : Int) := by
      rw [show ((n - m.l : Nat) : Int) - 1 = ((n - m.l - 1 : Nat) : Int) by omega]; exact wruN (by omega)
    have hp : 1 <<< (n - m.l - 1) < 18446744073709551616 := by
      rw [Nat.one_shiftLeft]; exact Nat.pow_lt_pow_right (by omega) hk
    rw [e1 (by omega), e2, shl1N _ hk, orN h hp, e0]
    refine ⟨by omega, ?_⟩
    have hN := norm_c ⟨m.l, m.b ||| 1 <<< (n - m.l - 1)⟩ (show m.b ||| 1 <<< (n - m.l - 1) < 2 ^ 64 from Nat.or_lt_two_pow h hp) hl
    ((repeat (with_reducible refine And.intro ?_ ?_; focus (simp; done))); refine aw_call (hN) [] rfl (by simp [upM, nthN, matchO, rens, ren, ren1, ren1L, renL, renV, renO, rl, lenO, getO, Nat.blt, mtc, mtc0, mtc0L, mkA]) rfl (by simp [upM, nthN, matchO, rens, ren, ren1, ren1L, renL, renV, renO, rl, lenO, getO, Nat.blt, mtc, mtc0, mtc0L, mkA]) rfl (fun r hs hp hl => ?_); obtain ⟨rfl, rfl⟩ := hp; simp only [snocO, upM, nthN, putAll, snocAll, killsA, killOsA, grows, putL, rl, renV, renL, ren1, ren1L, ren, rens, renO, Nat.blt, lenO, getO, setO, setL, anys, mkA]; (refine eval_sound 2000 _ _ _ ?_; simp only [and, Nat.reduceAdd, Nat.reduceSub, Nat.reduceMul, eval, nf, nfO, opN, appTo, rowsV, getL, setL, getO, setO, snocO, lenO, putL, ev, evs, ifEq, killV, killL, kill1, kill1L, kill, kills, killO, killOs, bin, binI, binS, binB, eq1, eqB, lit, sameK, kn, unI, mxA, mnA, mkAgg, fits, partN, partA, resN, retV, allVal, isVal, allCell, isCell, okVal, okCell, cellsOf, fillN, rowsN, cellsN, bnd, lohi, offAt, overL, segL, leave, NodeOK, List.cons_append, List.nil_append, List.append_nil, catA, anys, lenA]))
    ((repeat (with_reducible refine And.intro ?_ ?_; focus (simp; done))); refine ⟨[], rfl, _, _, ?_, ?_, rfl, rfl⟩ <;> simp [Wk, mtc, mtc0, mtc0L, mtcL, mtcO, mtcOs, cutM, takeE, stA, rl, renV, renL, ren1, ren1L, ren, rens, renO, Nat.blt, lenO, getO, setO, setL, anys, okS, endM, endH, idxN, takeE, pickE, catO, rl, renV, renL, ren1, ren1L, ren, rens, renO, Nat.blt, lenO, getO, setO, setL, anys, mkA])
  · have : setM m n = (m, 0) := by
      unfold setM
      rw [if_neg (by omega), if_pos (by omega)]
    rw [this]
    ((repeat (with_reducible refine And.intro ?_ ?_; focus (simp; done))); refine ⟨[], rfl, _, _, ?_, ?_, rfl, rfl⟩ <;> simp [Wk, mtc, mtc0, mtc0L, mtcL, mtcO, mtcOs, cutM, takeE, stA, rl, renV, renL, ren1, ren1L, ren, rens, renO, Nat.blt, lenO, getO, setO, setL, anys, okS, endM, endH, idxN, takeE, pickE, catO, rl, renV, renL, ren1, ren1L, ren, rens, renO, Nat.blt, lenO, getO, setO, setL, anys, mkA])
  · omega
theorem eq_mk (a b : Mk) : eqCells [.int .u64 (a.l : Int), .int .u64 (a.b : Int)] [.int .u64 (b.l : Int), .int .u64 (b.b : Int)] = decide (a = b) := by
  rw [Bool.eq_iff_iff]
  cases a; cases b
  simp [eqCells, eqCell]
  omega
theorem join_c (a b : Mk) (ha : a.b < 18446744073709551616) (hb : b.b < 18446744073709551616) (hal : a.l ≤ 4611686018427387840) (hbl : b.l ≤ 4611686018427387840) : ACalls Tryd.prog 13 [mkA a, mkA b] [] (fun r hs => r = mkA (joinM a b) ∧ hs = []) := by
  have h1 := lift_lt a (max a.l b.l) ha
  have h2 := lift_lt b (max a.l b.l) hb
  have hl : ∀ m : Mk, m.l ≤ 4611686018427387840 → (liftM m (max a.l b.l)).l ≤ 4611686018427387840 := by
    intro m hm
    unfold liftM; split <;> (try simp only []) <;> omega
  have hla := hl a hal
  have hlb := hl b hbl
  have hlow : max a.l b.l ≤ 4611686018427387840 := by omega
  have hL := lift_c a (max a.l b.l) ha (by omega)
  have hR := lift_c b (max a.l b.l) hb (by omega)
  refine acalls_weak (acalls_of (fn := Tryd.f13) (A := a13) Tryd.func13 ok_13 en_13 ?_)
  dsimp only [a13, mkA]
  (refine eval_sound 2000 _ _ _ ?_; simp only [and, Nat.reduceAdd, Nat.reduceSub, Nat.reduceMul, eval, nf, nfO, opN, appTo, rowsV, getL, setL, getO, setO, snocO, lenO, putL, ev, evs, ifEq, killV, killL, kill1, kill1L, kill, kills, killO, killOs, bin, binI, binS, binB, eq1, eqB, lit, sameK, kn, unI, mxA, mnA, mkAgg, fits, partN, partA, resN, retV, allVal, isVal, allCell, isCell, okVal, okCell, cellsOf, fillN, rowsN, cellsN, bnd, lohi, offAt, overL, segL, leave, NodeOK, List.cons_append, List.nil_append, List.append_nil, catA, anys, lenA])
  have e1 : (if (b.l : Int) > a.l then (b.l : Int) else (a.l : Int)) = ((max a.l b.l : Nat) : Int) := by split <;> omega
  rw [e1]
  have ej : joinM a b = if liftM a (max a.l b.l) = liftM b (max a.l b.l) then normM (liftM a (max a.l b.l)) else normM ⟨max a.l b.l, (liftM a (max a.l b.l)).b ||| (liftM b (max a.l b.l)).b⟩ := rfl
  generalize max a.l b.l = low at *
  generalize liftM a low = x at *
  generalize liftM b low = y at *
  refine aw_dregA (show Tryd.prog.follows .mixedOrders = true by kernel_rfl) 3 [(2, ⟨mkA x, [], [], []⟩), (5, ⟨mkA y, [], [], []⟩), (6, ⟨.any, [(0, .arr 24 [.int .u64 x.l, .int .u64 x.b])], [], []⟩), (7, ⟨.any, [(1, .arr 24 [.int .u64 y.l, .int .u64 y.b])], [], []⟩)] ?_ ?_ ?_
  · kernel_rfl
  · simp only [mkA]
    (simp only [AllOps, OpOK, mkR, autoV, autoR, labV, lkD, vOf, preT, preO, setTs, preV, wrt, memN, usesO, usesT, opT, optT, opsT, ptsT, setHs, objF, updD, newO, lkO, lkF, keysO, keysF, visN, deads, getL, setL, getO, setO, lenO, lenA, anys, setDs, setWr, setFr, endO, catD, List.getD_cons_zero, List.getD_cons_succ, List.getElem?_cons_zero, List.getElem?_cons_succ, List.cons_append, List.nil_append, List.append_nil, Nat.reduceAdd, Nat.reduceSub, and, Nat.reduceAdd, Nat.reduceSub, Nat.reduceMul, eval, nf, nfO, opN, appTo, rowsV, getL, setL, getO, setO, snocO, lenO, putL, ev, evs, ifEq, killV, killL, kill1, kill1L, kill, kills, killO, killOs, bin, binI, binS, binB, eq1, eqB, lit, sameK, kn, unI, mxA, mnA, mkAgg, fits, partN, partA, resN, retV, allVal, isVal, allCell, isCell, okVal, okCell, cellsOf, fillN, rowsN, cellsN, bnd, lohi, offAt, overL, segL, leave, NodeOK, List.cons_append, List.nil_append, List.append_nil, catA, anys, lenA]; and_intros) <;> (first | exact trivial | ((refine eval_sound 2000 _ _ _ ?_; simp only [and, Nat.reduceAdd, Nat.reduceSub, Nat.reduceMul, eval, nf, nfO, opN, appTo, rowsV, getL, setL, getO, setO, snocO, lenO, putL, ev, evs, ifEq, killV, killL, kill1, kill1L, kill, kills, killO, killOs, bin, binI, binS, binB, eq1, eqB, lit, sameK, kn, unI, mxA, mnA, mkAgg, fits, partN, partA, resN, retV, allVal, isVal, allCell, isCell, okVal, okCell, cellsOf, fillN, rowsN, cellsN, bnd, lohi, offAt, overL, segL, leave, NodeOK, List.cons_append, List.nil_append, List.append_nil, catA, anys, lenA]); try simp only [JR, dstOK, wrOK, frOK, rdOK, getL, getO]; try simp only [JR, dstOK, wrOK, frOK, rdOK, sig, sigF, isGrowB, mtc, mtc0, mtc0L, mtcO, mtcL, memN, Nat.blt, rl, renV, renL, ren1, ren1L, ren, rens, renO, Nat.blt, lenO, getO, setO, setL, anys]; try simp))
    · (refine aw_call (hL) [] rfl (by simp [upM, nthN, matchO, rens, ren, ren1, ren1L, renL, renV, renO, rl, lenO, getO, Nat.blt, mtc, mtc0, mtc0L, mkA]) rfl (by simp [upM, nthN, matchO, rens, ren, ren1, ren1L, renL, renV, renO, rl, lenO, getO, Nat.blt, mtc, mtc0, mtc0L, mkA]) rfl (fun r hs hp hl => ?_); obtain ⟨rfl, rfl⟩ := hp; simp only [snocO, upM, nthN, putAll, snocAll, killsA, killOsA, grows, putL, rl, renV, renL, ren1, ren1L, ren, rens, renO, Nat.blt, lenO, getO, setO, setL, anys, mkA]; (refine eval_sound 2000 _ _ _ ?_; simp only [and, Nat.reduceAdd, Nat.reduceSub, Nat.reduceMul, eval, nf, nfO, opN, appTo, rowsV, getL, setL, getO, setO, snocO, lenO, putL, ev, evs, ifEq, killV, killL, kill1, kill1L, kill, kills, killO, killOs, bin, binI, binS, binB, eq1, eqB, lit, sameK, kn, unI, mxA, mnA, mkAgg, fits, partN, partA, resN, retV, allVal, isVal, allCell, isCell, okVal, okCell, cellsOf, fillN, rowsN, cellsN, bnd, lohi, offAt, overL, segL, leave, NodeOK, List.cons_append, List.nil_append, List.append_nil, catA, anys, lenA]); (try simp only [JR, dstOK, wrOK, frOK, rdOK, getL, getO]); (try simp only [JR, dstOK, wrOK, frOK, rdOK, sig, sigF, isGrowB, mtc, mtc0, mtc0L, mtcO, mtcL, memN, Nat.blt, rl, renV, renL, ren1, ren1L, ren, rens, renO, Nat.blt, lenO, getO, setO, setL, anys, mkA]); try simp)
    · (refine aw_call (hR) [] rfl (by simp [upM, nthN, matchO, rens, ren, ren1, ren1L, renL, renV, renO, rl, lenO, getO, Nat.blt, mtc, mtc0, mtc0L, mkA]) rfl (by simp [upM, nthN, matchO, rens, ren, ren1, ren1L, renL, renV, renO, rl, lenO, getO, Nat.blt, mtc, mtc0, mtc0L, mkA]) rfl (fun r hs hp hl => ?_); obtain ⟨rfl, rfl⟩ := hp; simp only [snocO, upM, nthN, putAll, snocAll, killsA, killOsA, grows, putL, rl, renV, renL, ren1, ren1L, ren, rens, renO, Nat.blt, lenO, getO, setO, setL, anys, mkA]; (refine eval_sound 2000 _ _ _ ?_; simp only [and, Nat.reduceAdd, Nat.reduceSub, Nat.reduceMul, eval, nf, nfO, opN, appTo, rowsV, getL, setL, getO, setO, snocO, lenO, putL, ev, evs, ifEq, killV, killL, kill1, kill1L, kill, kills, killO, killOs, bin, binI, binS, binB, eq1, eqB, lit, sameK, kn, unI, mxA, mnA, mkAgg, fits, partN, partA, resN, retV, allVal, isVal, allCell, isCell, okVal, okCell, cellsOf, fillN, rowsN, cellsN, bnd, lohi, offAt, overL, segL, leave, NodeOK, List.cons_append, List.nil_append, List.append_nil, catA, anys, lenA]); (try simp only [JR, dstOK, wrOK, frOK, rdOK, getL, getO]); (try simp only [JR, dstOK, wrOK, frOK, rdOK, sig, sigF, isGrowB, mtc, mtc0, mtc0L, mtcO, mtcL, memN, Nat.blt, rl, renV, renL, ren1, ren1L, ren, rens, renO, Nat.blt, lenO, getO, setO, setL, anys, mkA]); try simp)
  · simp only [mkA]
    (simp only [AllOps, OpOK, mkR, autoV, autoR, labV, lkD, vOf, preT, preO, setTs, preV, wrt, memN, usesO, usesT, opT, optT, opsT, ptsT, setHs, objF, updD, newO, lkO, lkF, keysO, keysF, visN, deads, getL, setL, getO, setO, lenO, lenA, anys, setDs, setWr, setFr, endO, catD, List.getD_cons_zero, List.getD_cons_succ, List.getElem?_cons_zero, List.getElem?_cons_succ, List.cons_append, List.nil_append, List.append_nil, Nat.reduceAdd, Nat.reduceSub, and, Nat.reduceAdd, Nat.reduceSub, Nat.reduceMul, eval, nf, nfO, opN, appTo, rowsV, getL, setL, getO, setO, snocO, lenO, putL, ev, evs, ifEq, killV, killL, kill1, kill1L, kill, kills, killO, killOs, bin, binI, binS, binB, eq1, eqB, lit, sameK, kn, unI, mxA, mnA, mkAgg, fits, partN, partA, resN, retV, allVal, isVal, allCell, isCell, okVal, okCell, cellsOf, fillN, rowsN, cellsN, bnd, lohi, offAt, overL, segL, leave, NodeOK, List.cons_append, List.nil_append, List.append_nil, catA, anys, lenA]; (refine eval_sound 2000 _ _ _ ?_; simp only [and, Nat.reduceAdd, Nat.reduceSub, Nat.reduceMul, eval, nf, nfO, opN, appTo, rowsV, getL, setL, getO, setO, snocO, lenO, putL, ev, evs, ifEq, killV, killL, kill1, kill1L, kill, kills, killO, killOs, bin, binI, binS, binB, eq1, eqB, lit, sameK, kn, unI, mxA, mnA, mkAgg, fits, partN, partA, resN, retV, allVal, isVal, allCell, isCell, okVal, okCell, cellsOf, fillN, rowsN, cellsN, bnd, lohi, offAt, overL, segL, leave, NodeOK, List.cons_append, List.nil_append, List.append_nil, catA, anys, lenA]))
    rw [eq_mk, orN h1 h2]
    simp only [decide_eq_true_eq, decide_eq_false_iff_not]
    refine ⟨by simp, by simp, by simp [Fit], fun h => ?_, fun h => ?_⟩
    · rw [ej, if_pos h]
      have hN := norm_c x h1 hla
      ((repeat (with_reducible refine And.intro ?_ ?_; focus (simp; done))); refine aw_call (hN) [] rfl (by simp [upM, nthN, matchO, rens, ren, ren1, ren1L, renL, renV, renO, rl, lenO, getO, Nat.blt, mtc, mtc0, mtc0L, mkA]) rfl (by simp [upM, nthN, matchO, rens, ren, ren1, ren1L, renL, renV, renO, rl, lenO, getO, Nat.blt, mtc, mtc0, mtc0L, mkA]) rfl (fun r hs hp hl => ?_); obtain ⟨rfl, rfl⟩ := hp; simp only [snocO, upM, nthN, putAll, snocAll, killsA, killOsA, grows, putL, rl, renV, renL, ren1, ren1L, ren, rens, renO, Nat.blt, lenO, getO, setO, setL, anys, mkA]; (refine eval_sound 2000 _ _ _ ?_; simp only [and, Nat.reduceAdd, Nat.reduceSub, Nat.reduceMul, eval, nf, nfO, opN, appTo, rowsV, getL, setL, getO, setO, snocO, lenO, putL, ev, evs, ifEq, killV, killL, kill1, kill1L, kill, kills, killO, killOs, bin, binI, binS, binB, eq1, eqB, lit, sameK, kn, unI, mxA, mnA, mkAgg, fits, partN, partA, resN, retV, allVal, isVal, allCell, isCell, okVal, okCell, cellsOf, fillN, rowsN, cellsN, bnd, lohi, offAt, overL, segL, leave, NodeOK, List.cons_append, List.nil_append, List.append_nil, catA, anys, lenA]))
      ((repeat (with_reducible refine And.intro ?_ ?_; focus (simp; done))); refine ⟨[], rfl, _, _, ?_, ?_, rfl, rfl⟩ <;> simp [Wk, mtc, mtc0, mtc0L, mtcL, mtcO, mtcOs, cutM, takeE, stA, rl, renV, renL, ren1, ren1L, ren, rens, renO, Nat.blt, lenO, getO, setO, setL, anys, okS, endM, endH, idxN, takeE, pickE, catO, rl, renV, renL, ren1, ren1L, ren, rens, renO, Nat.blt, lenO, getO, setO, setL, anys, mkA])
    · rw [ej, if_neg h]
      have hN := norm_c ⟨low, x.b ||| y.b⟩ (show x.b ||| y.b < 2 ^ 64 from Nat.or_lt_two_pow h1 h2) hlow
      ((repeat (with_reducible refine And.intro ?_ ?_; focus (simp; done))); refine aw_call (hN) [] rfl (by simp [upM, nthN, matchO, rens, ren, ren1, ren1L, renL, renV, renO, rl, lenO, getO, Nat.blt, mtc, mtc0, mtc0L, mkA]) rfl (by simp [upM, nthN, matchO, rens, ren, ren1, ren1L, renL, renV, renO, rl, lenO, getO, Nat.blt, mtc, mtc0, mtc0L, mkA]) rfl (fun r hs hp hl => ?_); obtain ⟨rfl, rfl⟩ := hp; simp only [snocO, upM, nthN, putAll, snocAll, killsA, killOsA, grows, putL, rl, renV, renL, ren1, ren1L, ren, rens, renO, Nat.blt, lenO, getO, setO, setL, anys, mkA]; (refine eval_sound 2000 _ _ _ ?_; simp only [and, Nat.reduceAdd, Nat.reduceSub, Nat.reduceMul, eval, nf, nfO, opN, appTo, rowsV, getL, setL, getO, setO, snocO, lenO, putL, ev, evs, ifEq, killV, killL, kill1, kill1L, kill, kills, killO, killOs, bin, binI, binS, binB, eq1, eqB, lit, sameK, kn, unI, mxA, mnA, mkAgg, fits, partN, partA, resN, retV, allVal, isVal, allCell, isCell, okVal, okCell, cellsOf, fillN, rowsN, cellsN, bnd, lohi, offAt, overL, segL, leave, NodeOK, List.cons_append, List.nil_append, List.append_nil, catA, anys, lenA]))
      ((repeat (with_reducible refine And.intro ?_ ?_; focus (simp; done))); refine ⟨[], rfl, _, _, ?_, ?_, rfl, rfl⟩ <;> simp [Wk, mtc, mtc0, mtc0L, mtcL, mtcO, mtcOs, cutM, takeE, stA, rl, renV, renL, ren1, ren1L, ren, rens, renO, Nat.blt, lenO, getO, setO, setL, anys, okS, endM, endH, idxN, takeE, pickE, catO, rl, renV, renL, ren1, ren1L, ren, rens, renO, Nat.blt, lenO, getO, setO, setL, anys, mkA])
end Go.Proofs.YtapfediapkklnaaDoor.S
