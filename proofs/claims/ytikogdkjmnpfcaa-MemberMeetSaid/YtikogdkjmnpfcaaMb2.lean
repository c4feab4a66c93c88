/- Contracts of quorum and member. -/
import Derived.Test.YtikogdkjmnpfcaaMb1
import Derived.Test.YtikogdkjmnpfcaaBitN
namespace Go.Proofs.Ytikogdkjmnpfcaa.S
set_option linter.all false
set_option maxRecDepth 100000
theorem xorN {a b : Nat} (ha : a < 18446744073709551616) (hb : b < 18446744073709551616) : IntKind.u64.wrap ((BitVec.ofInt IntKind.u64.bits (a : Int) ^^^ BitVec.ofInt IntKind.u64.bits (b : Int)).toNat : Int) = ((a ^^^ b : Nat) : Int) := by
  show IntKind.u64.wrap ((BitVec.ofInt 64 (a : Int) ^^^ BitVec.ofInt 64 (b : Int)).toNat : Int) = _
  rw [BitVec.toNat_xor, bvN ha, bvN hb]
  exact wruN (show a ^^^ b < 2 ^ 64 from Nat.xor_lt_two_pow ha hb)
theorem divN (a k : Nat) (ha : a < 18446744073709551616) : (a : Int).fdiv (2 ^ min ((k : Int)).toNat IntKind.u64.bits) = ((a / 2 ^ k : Nat) : Int) := by rw [shrN a k ha, Nat.shiftRight_eq_div_pow]
theorem sumN {a b : Nat} (h : a + b < 18446744073709551616) : IntKind.u64.wrap ((a : Int) + (b : Int)) = ((a + b : Nat) : Int) := by
  rw [show (a : Int) + (b : Int) = ((a + b : Nat) : Int) by omega]; exact wruN h
theorem and127a (K : Nat) (q7 : K < 18446744073709551616) : (BitVec.ofInt 64 (IntKind.i64.wrap (K : Int))).toNat = K := by
  rw [BitVec.toNat_ofInt, IntKind.wrap_i64]
  have : ((2 ^ 64 : Nat) : Int) = 18446744073709551616 := by decide
  rw [this]
  omega
theorem and127b : (BitVec.ofInt 64 127).toNat = 127 := by decide
theorem and127 (K : Nat) (q7 : K < 18446744073709551616) : IntKind.i64.wrap ((BitVec.ofInt IntKind.i64.bits (IntKind.i64.wrap (K : Int)) &&& BitVec.ofInt IntKind.i64.bits 127).toNat : Int) = ((K % 128 : Nat) : Int) := by
  have h : IntKind.i64.bits = 64 := rfl
  rw [h, BitVec.toNat_and, and127a K q7, and127b, show 127 = 2 ^ 7 - 1 from rfl, Nat.and_two_pow_sub_one_eq_mod]
  exact wr64 (by omega) (by omega)
theorem ones_c (x : Nat) (h : x < 18446744073709551616) : ACalls Try.prog 84 [.int .u64 (x : Int)] [] (fun r hs => r = .int .i64 (cnt 64 x : Nat) ∧ hs = []) := by
  have q := swar x h
  dsimp only at q
  obtain ⟨q1, q2, q3, q4, q5, q6, q7, q8⟩ := q
  have q9 := cnt64 x h
  refine acalls_weak (acalls_of (fn := Try.f84) (A := a84) Try.func84 ok_84 en_84 ?_)
  dsimp only [a84]
  have m1 : (6148914691236517205 : Int) = ((6148914691236517205 : Nat) : Int) := rfl
  have m2 : (3689348814741910323 : Int) = ((3689348814741910323 : Nat) : Int) := rfl
  have m3 : (1085102592571150095 : Int) = ((1085102592571150095 : Nat) : Int) := rfl
  have dv : ∀ (y k : Nat), y < 18446744073709551616 → (y : Int).fdiv (2 ^ min (Int.toNat ((k : Nat) : Int)) IntKind.u64.bits) = ((y / 2 ^ k : Nat) : Int) := fun y k hy => divN y k hy
  (refine eval_sound 13 _ _ _ ?_; simp only [and, Nat.reduceAdd, Nat.reduceSub, Nat.reduceMul, eval, nf, nfO, opN, appTo, rowsV, getL, setL, getO, setO, snocO, lenO, putL, ev, evs, ifEq, killV, killL, kill1, kill1L, kill, kills, killO, killOs, bin, binI, binS, binB, eq1, eqB, lit, sameK, kn, unI, mxA, mnA, mkAgg, fits, partN, partA, resN, retV, allVal, isVal, allCell, isCell, okVal, okCell, cellsOf, fillN, rowsN, cellsN, bnd, lohi, offAt, overL, segL, leave, NodeOK, List.cons_append, List.nil_append, List.append_nil, catA, anys, lenA])
  have d1 : (x : Int).fdiv (2 ^ min (Int.toNat 1) IntKind.u64.bits) = ((x / 2 : Nat) : Int) := dv x 1 h
  rw [d1, m1, andN (a := x / 2) (by omega) (by decide), andN h (by decide), sumN q1]
  generalize (x / 2 &&& 6148914691236517205) + (x &&& 6148914691236517205) = A at *
  refine ⟨by omega, ?_⟩
  (refine eval_sound 9 _ _ _ ?_; simp only [and, Nat.reduceAdd, Nat.reduceSub, Nat.reduceMul, eval, nf, nfO, opN, appTo, rowsV, getL, setL, getO, setO, snocO, lenO, putL, ev, evs, ifEq, killV, killL, kill1, kill1L, kill, kills, killO, killOs, bin, binI, binS, binB, eq1, eqB, lit, sameK, kn, unI, mxA, mnA, mkAgg, fits, partN, partA, resN, retV, allVal, isVal, allCell, isCell, okVal, okCell, cellsOf, fillN, rowsN, cellsN, bnd, lohi, offAt, overL, segL, leave, NodeOK, List.cons_append, List.nil_append, List.append_nil, catA, anys, lenA])
  have d2 : (A : Int).fdiv (2 ^ min (Int.toNat 2) IntKind.u64.bits) = ((A / 4 : Nat) : Int) := dv A 2 q1
  rw [d2, m2, andN (a := A / 4) (by omega) (by decide), andN q1 (by decide), sumN q2]
  generalize (A / 4 &&& 3689348814741910323) + (A &&& 3689348814741910323) = B at *
  refine ⟨by omega, ?_⟩
  (refine eval_sound 9 _ _ _ ?_; simp only [and, Nat.reduceAdd, Nat.reduceSub, Nat.reduceMul, eval, nf, nfO, opN, appTo, rowsV, getL, setL, getO, setO, snocO, lenO, putL, ev, evs, ifEq, killV, killL, kill1, kill1L, kill, kills, killO, killOs, bin, binI, binS, binB, eq1, eqB, lit, sameK, kn, unI, mxA, mnA, mkAgg, fits, partN, partA, resN, retV, allVal, isVal, allCell, isCell, okVal, okCell, cellsOf, fillN, rowsN, cellsN, bnd, lohi, offAt, overL, segL, leave, NodeOK, List.cons_append, List.nil_append, List.append_nil, catA, anys, lenA])
  have d3 : (B : Int).fdiv (2 ^ min (Int.toNat 4) IntKind.u64.bits) = ((B / 16 : Nat) : Int) := dv B 4 q2
  rw [d3, m3, sumN q3, andN q3 (by decide)]
  generalize (B / 16 + B &&& 1085102592571150095) = C at *
  refine ⟨by omega, ?_⟩
  (refine eval_sound 8 _ _ _ ?_; simp only [and, Nat.reduceAdd, Nat.reduceSub, Nat.reduceMul, eval, nf, nfO, opN, appTo, rowsV, getL, setL, getO, setO, snocO, lenO, putL, ev, evs, ifEq, killV, killL, kill1, kill1L, kill, kills, killO, killOs, bin, binI, binS, binB, eq1, eqB, lit, sameK, kn, unI, mxA, mnA, mkAgg, fits, partN, partA, resN, retV, allVal, isVal, allCell, isCell, okVal, okCell, cellsOf, fillN, rowsN, cellsN, bnd, lohi, offAt, overL, segL, leave, NodeOK, List.cons_append, List.nil_append, List.append_nil, catA, anys, lenA])
  have d4 : (C : Int).fdiv (2 ^ min (Int.toNat 8) IntKind.u64.bits) = ((C / 256 : Nat) : Int) := dv C 8 q4
  rw [d4, sumN q5]
  generalize C + C / 256 = D at *
  refine ⟨by omega, ?_⟩
  (refine eval_sound 8 _ _ _ ?_; simp only [and, Nat.reduceAdd, Nat.reduceSub, Nat.reduceMul, eval, nf, nfO, opN, appTo, rowsV, getL, setL, getO, setO, snocO, lenO, putL, ev, evs, ifEq, killV, killL, kill1, kill1L, kill, kills, killO, killOs, bin, binI, binS, binB, eq1, eqB, lit, sameK, kn, unI, mxA, mnA, mkAgg, fits, partN, partA, resN, retV, allVal, isVal, allCell, isCell, okVal, okCell, cellsOf, fillN, rowsN, cellsN, bnd, lohi, offAt, overL, segL, leave, NodeOK, List.cons_append, List.nil_append, List.append_nil, catA, anys, lenA])
  have d5 : (D : Int).fdiv (2 ^ min (Int.toNat 16) IntKind.u64.bits) = ((D / 65536 : Nat) : Int) := dv D 16 q5
  rw [d5, sumN q6]
  generalize D + D / 65536 = G at *
  refine ⟨by omega, ?_⟩
  (refine eval_sound 8 _ _ _ ?_; simp only [and, Nat.reduceAdd, Nat.reduceSub, Nat.reduceMul, eval, nf, nfO, opN, appTo, rowsV, getL, setL, getO, setO, snocO, lenO, putL, ev, evs, ifEq, killV, killL, kill1, kill1L, kill, kills, killO, killOs, bin, binI, binS, binB, eq1, eqB, lit, sameK, kn, unI, mxA, mnA, mkAgg, fits, partN, partA, resN, retV, allVal, isVal, allCell, isCell, okVal, okCell, cellsOf, fillN, rowsN, cellsN, bnd, lohi, offAt, overL, segL, leave, NodeOK, List.cons_append, List.nil_append, List.append_nil, catA, anys, lenA])
  have d6 : (G : Int).fdiv (2 ^ min (Int.toNat 32) IntKind.u64.bits) = ((G / 4294967296 : Nat) : Int) := dv G 32 q6
  rw [d6, sumN q7]
  generalize G + G / 4294967296 = K at *
  refine ⟨by omega, ?_⟩
  (refine eval_sound 2000 _ _ _ ?_; simp only [and, Nat.reduceAdd, Nat.reduceSub, Nat.reduceMul, eval, nf, nfO, opN, appTo, rowsV, getL, setL, getO, setO, snocO, lenO, putL, ev, evs, ifEq, killV, killL, kill1, kill1L, kill, kills, killO, killOs, bin, binI, binS, binB, eq1, eqB, lit, sameK, kn, unI, mxA, mnA, mkAgg, fits, partN, partA, resN, retV, allVal, isVal, allCell, isCell, okVal, okCell, cellsOf, fillN, rowsN, cellsN, bnd, lohi, offAt, overL, segL, leave, NodeOK, List.cons_append, List.nil_append, List.append_nil, catA, anys, lenA])
  rw [and127 K q7, q8]
  ((repeat (with_reducible refine And.intro ?_ ?_; focus (simp; done))); refine ⟨[], rfl, _, _, ?_, ?_, rfl, rfl⟩ <;> simp [Wk, mtc, mtc0, mtc0L, mtcL, mtcO, mtcOs, cutM, takeE, stA, rl, renV, renL, ren1, ren1L, ren, rens, renO, Nat.blt, lenO, getO, setO, setL, anys, okS, endM, endH, idxN, takeE, pickE, catO, rl, renV, renL, ren1, ren1L, ren, rens, renO, Nat.blt, lenO, getO, setO, setL, anys, u8s])
theorem size_c (x : Nat) (h : x < 18446744073709551616) : ACalls Try.prog 55 [.int .u64 (x : Int)] [] (fun r hs => r = .int .i64 (cnt 64 x : Nat) ∧ hs = []) := by
  have hO := ones_c x h
  refine acalls_weak (acalls_of (fn := Try.f55) (A := a55) Try.func55 ok_55 en_55 ?_)
  dsimp only [a55, u8s]
  (refine eval_sound 2000 _ _ _ ?_; simp only [and, Nat.reduceAdd, Nat.reduceSub, Nat.reduceMul, eval, nf, nfO, opN, appTo, rowsV, getL, setL, getO, setO, snocO, lenO, putL, ev, evs, ifEq, killV, killL, kill1, kill1L, kill, kills, killO, killOs, bin, binI, binS, binB, eq1, eqB, lit, sameK, kn, unI, mxA, mnA, mkAgg, fits, partN, partA, resN, retV, allVal, isVal, allCell, isCell, okVal, okCell, cellsOf, fillN, rowsN, cellsN, bnd, lohi, offAt, overL, segL, leave, NodeOK, List.cons_append, List.nil_append, List.append_nil, catA, anys, lenA])
  ((repeat (with_reducible refine And.intro ?_ ?_; focus (simp; done))); refine aw_call (hO) [] rfl (by simp [upM, nthN, matchO, rens, ren, ren1, ren1L, renL, renV, renO, rl, lenO, getO, Nat.blt, mtc, mtc0, mtc0L]) rfl (by simp [upM, nthN, matchO, rens, ren, ren1, ren1L, renL, renV, renO, rl, lenO, getO, Nat.blt, mtc, mtc0, mtc0L]) rfl (fun r hs hp hl => ?_); obtain ⟨rfl, rfl⟩ := hp; simp only [snocO, upM, nthN, putAll, snocAll, killsA, killOsA, grows, putL, rl, renV, renL, ren1, ren1L, ren, rens, renO, Nat.blt, lenO, getO, setO, setL, anys]; (refine eval_sound 2000 _ _ _ ?_; simp only [and, Nat.reduceAdd, Nat.reduceSub, Nat.reduceMul, eval, nf, nfO, opN, appTo, rowsV, getL, setL, getO, setO, snocO, lenO, putL, ev, evs, ifEq, killV, killL, kill1, kill1L, kill, kills, killO, killOs, bin, binI, binS, binB, eq1, eqB, lit, sameK, kn, unI, mxA, mnA, mkAgg, fits, partN, partA, resN, retV, allVal, isVal, allCell, isCell, okVal, okCell, cellsOf, fillN, rowsN, cellsN, bnd, lohi, offAt, overL, segL, leave, NodeOK, List.cons_append, List.nil_append, List.append_nil, catA, anys, lenA]))
  ((repeat (with_reducible refine And.intro ?_ ?_; focus (simp; done))); refine ⟨[], rfl, _, _, ?_, ?_, rfl, rfl⟩ <;> simp [Wk, mtc, mtc0, mtc0L, mtcL, mtcO, mtcOs, cutM, takeE, stA, rl, renV, renL, ren1, ren1L, ren, rens, renO, Nat.blt, lenO, getO, setO, setL, anys, okS, endM, endH, idxN, takeE, pickE, catO, rl, renV, renL, ren1, ren1L, ren, rens, renO, Nat.blt, lenO, getO, setO, setL, anys, u8s])
def fineB (x : Nat) : Bool := decide (1 ≤ x ∧ x ≤ 127)
theorem fine_c (x : Nat) : ACalls Try.prog 52 [.int .u64 (x : Int)] [] (fun r hs => r = .bool (fineB x) ∧ hs = []) := by
  refine acalls_weak (acalls_of (fn := Try.f52) (A := a52) Try.func52 ok_52 en_52 ?_)
  dsimp only [a52, u8s]
  (refine eval_sound 2000 _ _ _ ?_; simp only [and, Nat.reduceAdd, Nat.reduceSub, Nat.reduceMul, eval, nf, nfO, opN, appTo, rowsV, getL, setL, getO, setO, snocO, lenO, putL, ev, evs, ifEq, killV, killL, kill1, kill1L, kill, kills, killO, killOs, bin, binI, binS, binB, eq1, eqB, lit, sameK, kn, unI, mxA, mnA, mkAgg, fits, partN, partA, resN, retV, allVal, isVal, allCell, isCell, okVal, okCell, cellsOf, fillN, rowsN, cellsN, bnd, lohi, offAt, overL, segL, leave, NodeOK, List.cons_append, List.nil_append, List.append_nil, catA, anys, lenA])
  refine ⟨fun h1 => ?_, fun h1 => ?_⟩
  · have h1 : x ≠ 0 := by simpa using h1
    have : fineB x = decide ((x : Int) ≤ 127) := by unfold fineB; exact decide_eq_decide.2 (by omega)
    ((repeat (with_reducible refine And.intro ?_ ?_; focus (simp; done))); refine ⟨[], rfl, _, _, ?_, ?_, rfl, rfl⟩ <;> simp [Wk, mtc, mtc0, mtc0L, mtcL, mtcO, mtcOs, cutM, takeE, stA, rl, renV, renL, ren1, ren1L, ren, rens, renO, Nat.blt, lenO, getO, setO, setL, anys, okS, endM, endH, idxN, takeE, pickE, catO, rl, renV, renL, ren1, ren1L, ren, rens, renO, Nat.blt, lenO, getO, setO, setL, anys, this])
  · have h1 : x = 0 := by simpa using h1
    have : fineB x = false := by unfold fineB; simp; omega
    ((repeat (with_reducible refine And.intro ?_ ?_; focus (simp; done))); refine ⟨[], rfl, _, _, ?_, ?_, rfl, rfl⟩ <;> simp [Wk, mtc, mtc0, mtc0L, mtcL, mtcO, mtcOs, cutM, takeE, stA, rl, renV, renL, ren1, ren1L, ren, rens, renO, Nat.blt, lenO, getO, setO, setL, anys, okS, endM, endH, idxN, takeE, pickE, catO, rl, renV, renL, ren1, ren1L, ren, rens, renO, Nat.blt, lenO, getO, setO, setL, anys, this])
def mayB (a b : Nat) : Bool := fineB b && (cnt 64 (a ^^^ b) == 1)
theorem may_c (a b : Nat) (ha : a < 18446744073709551616) (hb : b < 18446744073709551616) : ACalls Try.prog 17 [.int .u64 (a : Int), .int .u64 (b : Int)] [] (fun r hs => r = .bool (mayB a b) ∧ hs = []) := by
  have hf := fine_c b
  have hs := size_c (a ^^^ b) (show a ^^^ b < 2 ^ 64 from Nat.xor_lt_two_pow ha hb)
  refine acalls_weak (acalls_of (fn := Try.f17) (A := a17) Try.func17 ok_17 en_17 ?_)
  dsimp only [a17, u8s]
  (refine eval_sound 2000 _ _ _ ?_; simp only [and, Nat.reduceAdd, Nat.reduceSub, Nat.reduceMul, eval, nf, nfO, opN, appTo, rowsV, getL, setL, getO, setO, snocO, lenO, putL, ev, evs, ifEq, killV, killL, kill1, kill1L, kill, kills, killO, killOs, bin, binI, binS, binB, eq1, eqB, lit, sameK, kn, unI, mxA, mnA, mkAgg, fits, partN, partA, resN, retV, allVal, isVal, allCell, isCell, okVal, okCell, cellsOf, fillN, rowsN, cellsN, bnd, lohi, offAt, overL, segL, leave, NodeOK, List.cons_append, List.nil_append, List.append_nil, catA, anys, lenA])
  ((repeat (with_reducible refine And.intro ?_ ?_; focus (simp; done))); refine aw_call (hf) [] rfl (by simp [upM, nthN, matchO, rens, ren, ren1, ren1L, renL, renV, renO, rl, lenO, getO, Nat.blt, mtc, mtc0, mtc0L]) rfl (by simp [upM, nthN, matchO, rens, ren, ren1, ren1L, renL, renV, renO, rl, lenO, getO, Nat.blt, mtc, mtc0, mtc0L]) rfl (fun r hs hp hl => ?_); obtain ⟨rfl, rfl⟩ := hp; simp only [snocO, upM, nthN, putAll, snocAll, killsA, killOsA, grows, putL, rl, renV, renL, ren1, ren1L, ren, rens, renO, Nat.blt, lenO, getO, setO, setL, anys]; (refine eval_sound 2000 _ _ _ ?_; simp only [and, Nat.reduceAdd, Nat.reduceSub, Nat.reduceMul, eval, nf, nfO, opN, appTo, rowsV, getL, setL, getO, setO, snocO, lenO, putL, ev, evs, ifEq, killV, killL, kill1, kill1L, kill, kills, killO, killOs, bin, binI, binS, binB, eq1, eqB, lit, sameK, kn, unI, mxA, mnA, mkAgg, fits, partN, partA, resN, retV, allVal, isVal, allCell, isCell, okVal, okCell, cellsOf, fillN, rowsN, cellsN, bnd, lohi, offAt, overL, segL, leave, NodeOK, List.cons_append, List.nil_append, List.append_nil, catA, anys, lenA]))
  rw [xorN ha hb]
  refine ⟨fun h1 => ?_, fun h1 => ?_⟩
  · ((repeat (with_reducible refine And.intro ?_ ?_; focus (simp; done))); refine aw_call (hs) [] rfl (by simp [upM, nthN, matchO, rens, ren, ren1, ren1L, renL, renV, renO, rl, lenO, getO, Nat.blt, mtc, mtc0, mtc0L]) rfl (by simp [upM, nthN, matchO, rens, ren, ren1, ren1L, renL, renV, renO, rl, lenO, getO, Nat.blt, mtc, mtc0, mtc0L]) rfl (fun r hs hp hl => ?_); obtain ⟨rfl, rfl⟩ := hp; simp only [snocO, upM, nthN, putAll, snocAll, killsA, killOsA, grows, putL, rl, renV, renL, ren1, ren1L, ren, rens, renO, Nat.blt, lenO, getO, setO, setL, anys]; (refine eval_sound 2000 _ _ _ ?_; simp only [and, Nat.reduceAdd, Nat.reduceSub, Nat.reduceMul, eval, nf, nfO, opN, appTo, rowsV, getL, setL, getO, setO, snocO, lenO, putL, ev, evs, ifEq, killV, killL, kill1, kill1L, kill, kills, killO, killOs, bin, binI, binS, binB, eq1, eqB, lit, sameK, kn, unI, mxA, mnA, mkAgg, fits, partN, partA, resN, retV, allVal, isVal, allCell, isCell, okVal, okCell, cellsOf, fillN, rowsN, cellsN, bnd, lohi, offAt, overL, segL, leave, NodeOK, List.cons_append, List.nil_append, List.append_nil, catA, anys, lenA]))
    have : mayB a b = (((cnt 64 (a ^^^ b) : Nat) : Int) == 1) := by
      unfold mayB
      rw [h1, Bool.true_and, Bool.eq_iff_iff, beq_iff_eq, beq_iff_eq]
      omega
    ((repeat (with_reducible refine And.intro ?_ ?_; focus (simp; done))); refine ⟨[], rfl, _, _, ?_, ?_, rfl, rfl⟩ <;> simp [Wk, mtc, mtc0, mtc0L, mtcL, mtcO, mtcOs, cutM, takeE, stA, rl, renV, renL, ren1, ren1L, ren, rens, renO, Nat.blt, lenO, getO, setO, setL, anys, okS, endM, endH, idxN, takeE, pickE, catO, rl, renV, renL, ren1, ren1L, ren, rens, renO, Nat.blt, lenO, getO, setO, setL, anys, this])
  · have : mayB a b = false := by unfold mayB; rw [h1]; rfl
    ((repeat (with_reducible refine And.intro ?_ ?_; focus (simp; done))); refine ⟨[], rfl, _, _, ?_, ?_, rfl, rfl⟩ <;> simp [Wk, mtc, mtc0, mtc0L, mtcL, mtcO, mtcOs, cutM, takeE, stA, rl, renV, renL, ren1, ren1L, ren, rens, renO, Nat.blt, lenO, getO, setO, setL, anys, okS, endM, endH, idxN, takeE, pickE, catO, rl, renV, renL, ren1, ren1L, ren, rens, renO, Nat.blt, lenO, getO, setO, setL, anys, this])
theorem maj_c (a b : Nat) (ha : a < 18446744073709551616) (hb : b < 18446744073709551616) : ACalls Try.prog 20 [.int .u64 (a : Int), .int .u64 (b : Int)] [] (fun r hs => r = .bool (decide (2 * cnt 64 (a &&& b) > cnt 64 b)) ∧ hs = []) := by
  have hab : a &&& b < 18446744073709551616 := Nat.lt_of_le_of_lt Nat.and_le_left ha
  have h1 := size_c (a &&& b) hab
  have h2 := size_c b hb
  have g1 := cnt64 (a &&& b) hab
  refine acalls_weak (acalls_of (fn := Try.f20) (A := a20) Try.func20 ok_20 en_20 ?_)
  dsimp only [a20, u8s]
  (refine eval_sound 2000 _ _ _ ?_; simp only [and, Nat.reduceAdd, Nat.reduceSub, Nat.reduceMul, eval, nf, nfO, opN, appTo, rowsV, getL, setL, getO, setO, snocO, lenO, putL, ev, evs, ifEq, killV, killL, kill1, kill1L, kill, kills, killO, killOs, bin, binI, binS, binB, eq1, eqB, lit, sameK, kn, unI, mxA, mnA, mkAgg, fits, partN, partA, resN, retV, allVal, isVal, allCell, isCell, okVal, okCell, cellsOf, fillN, rowsN, cellsN, bnd, lohi, offAt, overL, segL, leave, NodeOK, List.cons_append, List.nil_append, List.append_nil, catA, anys, lenA])
  rw [andN ha hb]
  ((repeat (with_reducible refine And.intro ?_ ?_; focus (simp; done))); refine aw_call (h1) [] rfl (by simp [upM, nthN, matchO, rens, ren, ren1, ren1L, renL, renV, renO, rl, lenO, getO, Nat.blt, mtc, mtc0, mtc0L]) rfl (by simp [upM, nthN, matchO, rens, ren, ren1, ren1L, renL, renV, renO, rl, lenO, getO, Nat.blt, mtc, mtc0, mtc0L]) rfl (fun r hs hp hl => ?_); obtain ⟨rfl, rfl⟩ := hp; simp only [snocO, upM, nthN, putAll, snocAll, killsA, killOsA, grows, putL, rl, renV, renL, ren1, ren1L, ren, rens, renO, Nat.blt, lenO, getO, setO, setL, anys]; (refine eval_sound 2000 _ _ _ ?_; simp only [and, Nat.reduceAdd, Nat.reduceSub, Nat.reduceMul, eval, nf, nfO, opN, appTo, rowsV, getL, setL, getO, setO, snocO, lenO, putL, ev, evs, ifEq, killV, killL, kill1, kill1L, kill, kills, killO, killOs, bin, binI, binS, binB, eq1, eqB, lit, sameK, kn, unI, mxA, mnA, mkAgg, fits, partN, partA, resN, retV, allVal, isVal, allCell, isCell, okVal, okCell, cellsOf, fillN, rowsN, cellsN, bnd, lohi, offAt, overL, segL, leave, NodeOK, List.cons_append, List.nil_append, List.append_nil, catA, anys, lenA]))
  ((repeat (with_reducible refine And.intro ?_ ?_; focus (simp; done))); refine aw_call (h2) [] rfl (by simp [upM, nthN, matchO, rens, ren, ren1, ren1L, renL, renV, renO, rl, lenO, getO, Nat.blt, mtc, mtc0, mtc0L]) rfl (by simp [upM, nthN, matchO, rens, ren, ren1, ren1L, renL, renV, renO, rl, lenO, getO, Nat.blt, mtc, mtc0, mtc0L]) rfl (fun r hs hp hl => ?_); obtain ⟨rfl, rfl⟩ := hp; simp only [snocO, upM, nthN, putAll, snocAll, killsA, killOsA, grows, putL, rl, renV, renL, ren1, ren1L, ren, rens, renO, Nat.blt, lenO, getO, setO, setL, anys]; (refine eval_sound 2000 _ _ _ ?_; simp only [and, Nat.reduceAdd, Nat.reduceSub, Nat.reduceMul, eval, nf, nfO, opN, appTo, rowsV, getL, setL, getO, setO, snocO, lenO, putL, ev, evs, ifEq, killV, killL, kill1, kill1L, kill, kills, killO, killOs, bin, binI, binS, binB, eq1, eqB, lit, sameK, kn, unI, mxA, mnA, mkAgg, fits, partN, partA, resN, retV, allVal, isVal, allCell, isCell, okVal, okCell, cellsOf, fillN, rowsN, cellsN, bnd, lohi, offAt, overL, segL, leave, NodeOK, List.cons_append, List.nil_append, List.append_nil, catA, anys, lenA]))
  have : decide (IntKind.i64.wrap (2 * ((cnt 64 (a &&& b) : Nat) : Int)) > ((cnt 64 b : Nat) : Int)) = decide (2 * cnt 64 (a &&& b) > cnt 64 b) := by
    rw [wr64 (by omega) (by omega)]
    exact decide_eq_decide.2 (by omega)
  rw [this]
  ((repeat (with_reducible refine And.intro ?_ ?_; focus (simp; done))); refine ⟨[], rfl, _, _, ?_, ?_, rfl, rfl⟩ <;> simp [Wk, mtc, mtc0, mtc0L, mtcL, mtcO, mtcOs, cutM, takeE, stA, rl, renV, renL, ren1, ren1L, ren, rens, renO, Nat.blt, lenO, getO, setO, setL, anys, okS, endM, endH, idxN, takeE, pickE, catO, rl, renV, renL, ren1, ren1L, ren, rens, renO, Nat.blt, lenO, getO, setO, setL, anys, u8s])
def withV (n : Int) : Nat := if 0 ≤ n ∧ n < 64 then 2 ^ n.toNat else 0
theorem with_c (n : Int) : ACalls Try.prog 54 [.int .u64 0, .ro 1 [[.int .i64 n]]] [] (fun r hs => r = .int .u64 (withV n : Nat) ∧ hs = []) := by
  refine acalls_weak (acalls_of (fn := Try.f54) (A := a54) Try.func54 ok_54 en_54 ?_)
  dsimp only [a54, u8s]
  (refine eval_sound 2000 _ _ _ ?_; simp only [and, Nat.reduceAdd, Nat.reduceSub, Nat.reduceMul, eval, nf, nfO, opN, appTo, rowsV, getL, setL, getO, setO, snocO, lenO, putL, ev, evs, ifEq, killV, killL, kill1, kill1L, kill, kills, killO, killOs, bin, binI, binS, binB, eq1, eqB, lit, sameK, kn, unI, mxA, mnA, mkAgg, fits, partN, partA, resN, retV, allVal, isVal, allCell, isCell, okVal, okCell, cellsOf, fillN, rowsN, cellsN, bnd, lohi, offAt, overL, segL, leave, NodeOK, List.cons_append, List.nil_append, List.append_nil, catA, anys, lenA])
  refine aw_loopU (α := Nat) (fun k => k ≤ 1) (fun k => [(9, .int .i64 (k : Nat)), (0, .int .u64 (if k = 0 then 0 else withV n : Nat))]) (fun k => []) (fun k => 1 - k) (0) (Nat.zero_le _) ?_ fun x hx => ?_
  · (simp only [wrC, wrOs, keepT, memN, setsL, setsO, setL, setO, snocO, List.cons_append, List.nil_append, List.append_nil, Nat.reduceAdd, Nat.zero_add, Wk, mtc, mtc0, mtc0L, mtcL, mtcO, mtcOs, cutM, takeE, stA, rl, renV, renL, ren1, ren1L, ren, rens, renO, Nat.blt, lenO, getO, setO, setL, anys, u8s]; simp [u8s])
  (simp only [wrC, wrOs, keepT, memN, setsL, setsO, setL, setO, snocO, List.cons_append, List.nil_append, List.append_nil, Nat.reduceAdd, Nat.zero_add, u8s]; (refine eval_sound 2000 _ _ _ ?_; simp only [and, Nat.reduceAdd, Nat.reduceSub, Nat.reduceMul, eval, nf, nfO, opN, appTo, rowsV, getL, setL, getO, setO, snocO, lenO, putL, ev, evs, ifEq, killV, killL, kill1, kill1L, kill, kills, killO, killOs, bin, binI, binS, binB, eq1, eqB, lit, sameK, kn, unI, mxA, mnA, mkAgg, fits, partN, partA, resN, retV, allVal, isVal, allCell, isCell, okVal, okCell, cellsOf, fillN, rowsN, cellsN, bnd, lohi, offAt, overL, segL, leave, NodeOK, List.cons_append, List.nil_append, List.append_nil, catA, anys, lenA]))
  simp only [decide_eq_true_eq, decide_eq_false_iff_not, List.length_cons, List.length_nil]
  refine ⟨fun h1 => ?_, fun h1 => ?_⟩
  · have : x = 0 := by omega
    subst this
    refine ⟨by omega, [.int .i64 n], rfl, ?_⟩
    (refine eval_sound 2000 _ _ _ ?_; simp only [and, Nat.reduceAdd, Nat.reduceSub, Nat.reduceMul, eval, nf, nfO, opN, appTo, rowsV, getL, setL, getO, setO, snocO, lenO, putL, ev, evs, ifEq, killV, killL, kill1, kill1L, kill, kills, killO, killOs, bin, binI, binS, binB, eq1, eqB, lit, sameK, kn, unI, mxA, mnA, mkAgg, fits, partN, partA, resN, retV, allVal, isVal, allCell, isCell, okVal, okCell, cellsOf, fillN, rowsN, cellsN, bnd, lohi, offAt, overL, segL, leave, NodeOK, List.cons_append, List.nil_append, List.append_nil, catA, anys, lenA])
    simp only [decide_eq_true_eq, decide_eq_false_iff_not]
    have w1 : IntKind.i64.wrap (((0 : Nat) : Int) + 1) = ((1 : Nat) : Int) := by decide
    rw [w1]
    refine ⟨fun h2 => ⟨fun h3 => ⟨by omega, 1, by omega, by omega, ?_⟩, fun h3 => ⟨1, by omega, by omega, ?_⟩⟩, fun h2 => ⟨1, by omega, by omega, ?_⟩⟩
    · have hw : withV n = 1 <<< n.toNat := by unfold withV; rw [if_pos ⟨h2, h3⟩, Nat.one_shiftLeft]
      have hs := shl1N n.toNat (by omega)
      rw [Int.toNat_natCast] at hs
      have hp : 1 <<< n.toNat < 18446744073709551616 := by
        rw [Nat.one_shiftLeft]; exact Nat.pow_lt_pow_right (a := 2) (n := 64) (by omega) (by omega)
      have ho := orN (a := 0) (b := 1 <<< n.toNat) (by omega) hp
      rw [Nat.zero_or] at ho
      simp only [if_true]
      rw [hs, ho, show (1 : Nat) = 0 + 1 from rfl]
      simp only [Nat.add_eq_zero_iff, Nat.one_ne_zero, and_false, if_false]
      rw [hw]
      (simp only [wrC, wrOs, keepT, memN, setsL, setsO, setL, setO, snocO, List.cons_append, List.nil_append, List.append_nil, Nat.reduceAdd, Nat.zero_add, Wk, mtc, mtc0, mtc0L, mtcL, mtcO, mtcOs, cutM, takeE, stA, rl, renV, renL, ren1, ren1L, ren, rens, renO, Nat.blt, lenO, getO, setO, setL, anys, u8s]; simp [u8s])
    · have hw : withV n = 0 := by unfold withV; rw [if_neg (by omega)]
      rw [hw]
      (simp only [wrC, wrOs, keepT, memN, setsL, setsO, setL, setO, snocO, List.cons_append, List.nil_append, List.append_nil, Nat.reduceAdd, Nat.zero_add, Wk, mtc, mtc0, mtc0L, mtcL, mtcO, mtcOs, cutM, takeE, stA, rl, renV, renL, ren1, ren1L, ren, rens, renO, Nat.blt, lenO, getO, setO, setL, anys, u8s]; simp [u8s])
    · have hw : withV n = 0 := by unfold withV; rw [if_neg (by omega)]
      rw [hw]
      (simp only [wrC, wrOs, keepT, memN, setsL, setsO, setL, setO, snocO, List.cons_append, List.nil_append, List.append_nil, Nat.reduceAdd, Nat.zero_add, Wk, mtc, mtc0, mtc0L, mtcL, mtcO, mtcOs, cutM, takeE, stA, rl, renV, renL, ren1, ren1L, ren, rens, renO, Nat.blt, lenO, getO, setO, setL, anys, u8s]; simp [u8s])
  · have : x = 1 := by omega
    subst this
    ((repeat (with_reducible refine And.intro ?_ ?_; focus (simp; done))); refine ⟨[], rfl, _, _, ?_, ?_, rfl, rfl⟩ <;> simp [Wk, mtc, mtc0, mtc0L, mtcL, mtcO, mtcOs, cutM, takeE, stA, rl, renV, renL, ren1, ren1L, ren, rens, renO, Nat.blt, lenO, getO, setO, setL, anys, okS, endM, endH, idxN, takeE, pickE, catO, rl, renV, renL, ren1, ren1L, ren, rens, renO, Nat.blt, lenO, getO, setO, setL, anys, u8s])
end Go.Proofs.Ytikogdkjmnpfcaa.S
