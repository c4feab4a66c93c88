/- Contracts, picked of my other texts. -/
import Derived.Test.YtikogdkjmnpfcaaZMl
import Derived.Test.YtikogdkjmnpfcaaS27
namespace Go.Proofs.Ytikogdkjmnpfcaa.S
set_option linter.all false
set_option maxRecDepth 100000
set_option maxHeartbeats 1000000
/-- A reader's object: what is left, and whether it is bad. -/
def rdO (l : List Int) (bad : Bool) : AObj := .cells 129 [.ro 1 (u8s l), .bool bad]
def cutR (l : List Int) (bad : Bool) (n : Int) : List Int × List Int × Bool := if n < 0 ∨ (l.length : Int) < n ∨ bad = true then ([], [], true) else (l.take n.toNat, l.drop n.toNat, bad)
theorem rfail (l : List Int) (bad : Bool) : ACalls Try.prog 92 [.ptr 0 0] [rdO l bad] (fun r hs => hs = [rdO [] true]) := by
  refine acalls_weak (acalls_of (fn := Try.f92) (A := a92) Try.func92 ok_92 en_92 ?_)
  dsimp only [a92, rdO]
  (refine eval_sound 2000 _ _ _ ?_; simp (maxSteps := 1000000) only [ptrL, lenV, Bool.not_true, Bool.not_false, lookR, valOf, asGrow, jump, findA, restA, and, Nat.reduceAdd, Nat.reduceSub, Nat.reduceMul, Int.reduceToNat, eval, nf, nfO, opN, appTo, rowsV, getL, setL, getO, setO, snocO, lenO, putL, ev, evs, ifEq, killV, killL, kill1, kill1L, kill, kills, killO, killOs, bin, binI, binS, binB, eq1, eqB, lit, sameK, kn, unI, mxA, mnA, mkAgg, fits, partN, partA, resN, retV, allVal, isVal, allCell, isCell, okVal, okCell, cellsOf, fillN, rowsN, cellsN, bnd, lohi, offAt, overL, segL, leave, NodeOK, List.cons_append, List.nil_append, List.append_nil, catA, anys, lenA])
  refine ⟨[], rfl, .any, _, trivial, ?_, rfl⟩
  simp [Wk, mtc, mtcS, mtcSL, mtc0, mtc0L, mtcL, mtcO, mtcOs, cutM, takeE, stA, rl, renV, renL, ren1, ren1L, ren, rens, renO, Nat.blt, lenO, getO, setO, setL, anys, okS, endM, endH, idxN, takeE, pickE, catO, rl, renV, renL, ren1, ren1L, ren, rens, renO, Nat.blt, lenO, getO, setO, setL, anys, u8s]
theorem rcut (l : List Int) (bad : Bool) (n : Int) : ACalls Try.prog 83 [.ptr 0 0, .int .i64 n] [rdO l bad] (fun r hs => r = .ro 1 (u8s (cutR l bad n).1) ∧ hs = [rdO (cutR l bad n).2.1 (cutR l bad n).2.2]) := by
  refine acalls_weak (acalls_of (fn := Try.f83) (A := a83) Try.func83 ok_83 en_83 ?_)
  dsimp only [a83, rdO]
  (refine eval_sound 2000 _ _ _ ?_; simp (maxSteps := 1000000) only [ptrL, lenV, Bool.not_true, Bool.not_false, lookR, valOf, asGrow, jump, findA, restA, and, Nat.reduceAdd, Nat.reduceSub, Nat.reduceMul, Int.reduceToNat, eval, nf, nfO, opN, appTo, rowsV, getL, setL, getO, setO, snocO, lenO, putL, ev, evs, ifEq, killV, killL, kill1, kill1L, kill, kills, killO, killOs, bin, binI, binS, binB, eq1, eqB, lit, sameK, kn, unI, mxA, mnA, mkAgg, fits, partN, partA, resN, retV, allVal, isVal, allCell, isCell, okVal, okCell, cellsOf, fillN, rowsN, cellsN, bnd, lohi, offAt, overL, segL, leave, NodeOK, List.cons_append, List.nil_append, List.append_nil, catA, anys, lenA])
  refine ⟨fun h => ?_, fun h => ⟨fun h2 => ?_, fun h2 => ⟨fun h3 => ?_, fun h3 => ?_⟩⟩⟩
  case refine_4 =>
    simp only [decide_eq_false_iff_not, u8s_len] at h h2
    have e : ¬ (n < 0 ∨ (l.length : Int) < n ∨ bad = true) := by simp [h3]; omega
    refine ⟨⟨by omega, by omega, by rw [u8s_len]; omega⟩, ⟨by omega, by rw [u8s_len]; omega, by omega⟩, [], rfl, _, _, ?_, ?_, rfl, rfl⟩
    · simp [Wk, mtc, mtcS, mtcSL, mtc0, mtc0L, mtcL, mtcO, mtcOs, cutM, takeE, stA, rl, renV, renL, ren1, ren1L, ren, rens, renO, Nat.blt, lenO, getO, setO, setL, anys, okS, endM, endH, idxN, takeE, pickE, catO, rl, renV, renL, ren1, ren1L, ren, rens, renO, Nat.blt, lenO, getO, setO, setL, anys, cutR, e, u8s_take]
    · simp [Wk, mtc, mtcS, mtcSL, mtc0, mtc0L, mtcL, mtcO, mtcOs, cutM, takeE, stA, rl, renV, renL, ren1, ren1L, ren, rens, renO, Nat.blt, lenO, getO, setO, setL, anys, okS, endM, endH, idxN, takeE, pickE, catO, rl, renV, renL, ren1, ren1L, ren, rens, renO, Nat.blt, lenO, getO, setO, setL, anys, cutR, e, u8s_drop, u8s_len, u8s_take, List.take_of_length_le]
  all_goals
    have e : n < 0 ∨ (l.length : Int) < n ∨ bad = true := by
      first
        | (left; simpa using h)
        | (right; left; simpa [u8s_len] using h2)
        | (right; right; exact h3)
    refine aw_call (rfail l bad) [0] rfl (by simp [upM, nthN, matchO, rens, ren, ren1, ren1L, renL, renV, renO, rl, lenO, getO, Nat.blt, mtc, mtcS, mtcSL, mtc0, mtc0L]) rfl (by simp [upM, nthN, matchO, rens, ren, ren1, ren1L, renL, renV, renO, rl, lenO, getO, Nat.blt, mtc, mtcS, mtcSL, mtc0, mtc0L, rdO]) rfl (fun r hs hp hl => ?_)
    subst hp
    simp only [snocO, upM, nthN, putAll, snocAll, killsA, killOsA, grows, putL, rl, renV, renL, ren1, ren1L, ren, rens, renO, Nat.blt, lenO, getO, setO, setL, anys, rdO]
    (refine eval_sound 2000 _ _ _ ?_; simp (maxSteps := 1000000) only [ptrL, lenV, Bool.not_true, Bool.not_false, lookR, valOf, asGrow, jump, findA, restA, and, Nat.reduceAdd, Nat.reduceSub, Nat.reduceMul, Int.reduceToNat, eval, nf, nfO, opN, appTo, rowsV, getL, setL, getO, setO, snocO, lenO, putL, ev, evs, ifEq, killV, killL, kill1, kill1L, kill, kills, killO, killOs, bin, binI, binS, binB, eq1, eqB, lit, sameK, kn, unI, mxA, mnA, mkAgg, fits, partN, partA, resN, retV, allVal, isVal, allCell, isCell, okVal, okCell, cellsOf, fillN, rowsN, cellsN, bnd, lohi, offAt, overL, segL, leave, NodeOK, List.cons_append, List.nil_append, List.append_nil, catA, anys, lenA])
    refine ⟨[], rfl, _, _, ?_, ?_, rfl, rfl⟩ <;> simp [Wk, mtc, mtcS, mtcSL, mtc0, mtc0L, mtcL, mtcO, mtcOs, cutM, takeE, stA, rl, renV, renL, ren1, ren1L, ren, rens, renO, Nat.blt, lenO, getO, setO, setL, anys, okS, endM, endH, idxN, takeE, pickE, catO, rl, renV, renL, ren1, ren1L, ren, rens, renO, Nat.blt, lenO, getO, setO, setL, anys, cutR, e, u8s]
theorem fail_ (l : List Int) (bad : Bool) : ACalls Try.prog 81 [.ptr 0 0] [rdO l bad] (fun r hs => hs = [rdO [] true]) := by
  refine acalls_weak (acalls_of (fn := Try.f81) (A := a81) Try.func81 ok_81 en_81 ?_)
  dsimp only [a81, rdO]
  (refine eval_sound 2000 _ _ _ ?_; simp (maxSteps := 1000000) only [ptrL, lenV, Bool.not_true, Bool.not_false, lookR, valOf, asGrow, jump, findA, restA, and, Nat.reduceAdd, Nat.reduceSub, Nat.reduceMul, Int.reduceToNat, eval, nf, nfO, opN, appTo, rowsV, getL, setL, getO, setO, snocO, lenO, putL, ev, evs, ifEq, killV, killL, kill1, kill1L, kill, kills, killO, killOs, bin, binI, binS, binB, eq1, eqB, lit, sameK, kn, unI, mxA, mnA, mkAgg, fits, partN, partA, resN, retV, allVal, isVal, allCell, isCell, okVal, okCell, cellsOf, fillN, rowsN, cellsN, bnd, lohi, offAt, overL, segL, leave, NodeOK, List.cons_append, List.nil_append, List.append_nil, catA, anys, lenA])
  refine aw_call (rfail l bad) [0] rfl (by simp [upM, nthN, matchO, rens, ren, ren1, ren1L, renL, renV, renO, rl, lenO, getO, Nat.blt, mtc, mtcS, mtcSL, mtc0, mtc0L]) rfl (by simp [upM, nthN, matchO, rens, ren, ren1, ren1L, renL, renV, renO, rl, lenO, getO, Nat.blt, mtc, mtcS, mtcSL, mtc0, mtc0L, rdO]) rfl (fun r hs hp hl => ?_)
  subst hp
  simp only [snocO, upM, nthN, putAll, snocAll, killsA, killOsA, grows, putL, rl, renV, renL, ren1, ren1L, ren, rens, renO, Nat.blt, lenO, getO, setO, setL, anys, rdO]
  (refine eval_sound 2000 _ _ _ ?_; simp (maxSteps := 1000000) only [ptrL, lenV, Bool.not_true, Bool.not_false, lookR, valOf, asGrow, jump, findA, restA, and, Nat.reduceAdd, Nat.reduceSub, Nat.reduceMul, Int.reduceToNat, eval, nf, nfO, opN, appTo, rowsV, getL, setL, getO, setO, snocO, lenO, putL, ev, evs, ifEq, killV, killL, kill1, kill1L, kill, kills, killO, killOs, bin, binI, binS, binB, eq1, eqB, lit, sameK, kn, unI, mxA, mnA, mkAgg, fits, partN, partA, resN, retV, allVal, isVal, allCell, isCell, okVal, okCell, cellsOf, fillN, rowsN, cellsN, bnd, lohi, offAt, overL, segL, leave, NodeOK, List.cons_append, List.nil_append, List.append_nil, catA, anys, lenA])
  refine ⟨[], rfl, .any, _, trivial, ?_, rfl⟩ <;> simp [Wk, mtc, mtcS, mtcSL, mtc0, mtc0L, mtcL, mtcO, mtcOs, cutM, takeE, stA, rl, renV, renL, ren1, ren1L, ren, rens, renO, Nat.blt, lenO, getO, setO, setL, anys, okS, endM, endH, idxN, takeE, pickE, catO, rl, renV, renL, ren1, ren1L, ren, rens, renO, Nat.blt, lenO, getO, setO, setL, anys, u8s]
def shl8 (x : Int) (i : Nat) : Int := IntKind.u64.wrap (IntKind.u64.wrap x * 2 ^ min (8 * i) 64)
def numG (c : List Int) : Nat → Int
  | 0 => 0
  | k + 1 => IntKind.u64.wrap (BitVec.ofInt IntKind.u64.bits (numG c k) ||| BitVec.ofInt IntKind.u64.bits (shl8 (c.getD k 0) k)).toNat
theorem num1 (i : Nat) (x : Int) (h1 : i < 8) : ACalls Try.prog 82 [.int .i64 i, .int .u8 x] [] (fun r hs => r = .int .u64 (shl8 x i) ∧ hs = []) := by
  refine acalls_weak (acalls_of (fn := Try.f82) (A := a82) Try.func82 ok_82 en_82 ?_)
  dsimp only [a82, rdO]
  (refine eval_sound 2000 _ _ _ ?_; simp (maxSteps := 1000000) only [ptrL, lenV, Bool.not_true, Bool.not_false, lookR, valOf, asGrow, jump, findA, restA, and, Nat.reduceAdd, Nat.reduceSub, Nat.reduceMul, Int.reduceToNat, eval, nf, nfO, opN, appTo, rowsV, getL, setL, getO, setO, snocO, lenO, putL, ev, evs, ifEq, killV, killL, kill1, kill1L, kill, kills, killO, killOs, bin, binI, binS, binB, eq1, eqB, lit, sameK, kn, unI, mxA, mnA, mkAgg, fits, partN, partA, resN, retV, allVal, isVal, allCell, isCell, okVal, okCell, cellsOf, fillN, rowsN, cellsN, bnd, lohi, offAt, overL, segL, leave, NodeOK, List.cons_append, List.nil_append, List.append_nil, catA, anys, lenA])
  rw [wr64 (n := 8 * (i : Int)) (by omega) (by omega)]
  refine ⟨by omega, [], rfl, _, _, ?_, ?_, rfl, rfl⟩ <;> simp [Wk, mtc, mtcS, mtcSL, mtc0, mtc0L, mtcL, mtcO, mtcOs, cutM, takeE, stA, rl, renV, renL, ren1, ren1L, ren, rens, renO, Nat.blt, lenO, getO, setO, setL, anys, okS, endM, endH, idxN, takeE, pickE, catO, rl, renV, renL, ren1, ren1L, ren, rens, renO, Nat.blt, lenO, getO, setO, setL, anys, shl8, IntKind.bits, show (8 * (i : Int)).toNat = 8 * i by omega]
theorem num_ (l : List Int) (bad : Bool) (n : Int) : ACalls Try.prog 51 [.ptr 0 0, .int .i64 n] [rdO l bad] (fun r hs => if n < 1 ∨ 8 < n then r = .int .u64 0 ∧ hs = [rdO [] true] else r = .int .u64 (numG (cutR l bad n).1 (cutR l bad n).1.length) ∧ hs = [rdO (cutR l bad n).2.1 (cutR l bad n).2.2]) := by
  refine acalls_weak (acalls_of (fn := Try.f51) (A := a51) Try.func51 ok_51 en_51 ?_)
  dsimp only [a51, rdO]
  (refine eval_sound 2000 _ _ _ ?_; simp (maxSteps := 1000000) only [ptrL, lenV, Bool.not_true, Bool.not_false, lookR, valOf, asGrow, jump, findA, restA, and, Nat.reduceAdd, Nat.reduceSub, Nat.reduceMul, Int.reduceToNat, eval, nf, nfO, opN, appTo, rowsV, getL, setL, getO, setO, snocO, lenO, putL, ev, evs, ifEq, killV, killL, kill1, kill1L, kill, kills, killO, killOs, bin, binI, binS, binB, eq1, eqB, lit, sameK, kn, unI, mxA, mnA, mkAgg, fits, partN, partA, resN, retV, allVal, isVal, allCell, isCell, okVal, okCell, cellsOf, fillN, rowsN, cellsN, bnd, lohi, offAt, overL, segL, leave, NodeOK, List.cons_append, List.nil_append, List.append_nil, catA, anys, lenA])
  refine ⟨fun h => ?_, fun h => ⟨fun h2 => ?_, fun h2 => ?_⟩⟩
  case refine_3 =>
    simp only [decide_eq_false_iff_not] at h h2
    have e : ¬ (n < 1 ∨ 8 < n) := by omega
    refine aw_call (rcut l bad n) [0] rfl (by simp [upM, nthN, matchO, rens, ren, ren1, ren1L, renL, renV, renO, rl, lenO, getO, Nat.blt, mtc, mtcS, mtcSL, mtc0, mtc0L]) rfl (by simp [upM, nthN, matchO, rens, ren, ren1, ren1L, renL, renV, renO, rl, lenO, getO, Nat.blt, mtc, mtcS, mtcSL, mtc0, mtc0L, rdO]) rfl (fun r hs hp hl => ?_)
    obtain ⟨rfl, rfl⟩ := hp
    simp only [snocO, upM, nthN, putAll, snocAll, killsA, killOsA, grows, putL, rl, renV, renL, ren1, ren1L, ren, rens, renO, Nat.blt, lenO, getO, setO, setL, anys, rdO]
    (refine eval_sound 2000 _ _ _ ?_; simp (maxSteps := 1000000) only [ptrL, lenV, Bool.not_true, Bool.not_false, lookR, valOf, asGrow, jump, findA, restA, and, Nat.reduceAdd, Nat.reduceSub, Nat.reduceMul, Int.reduceToNat, eval, nf, nfO, opN, appTo, rowsV, getL, setL, getO, setO, snocO, lenO, putL, ev, evs, ifEq, killV, killL, kill1, kill1L, kill, kills, killO, killOs, bin, binI, binS, binB, eq1, eqB, lit, sameK, kn, unI, mxA, mnA, mkAgg, fits, partN, partA, resN, retV, allVal, isVal, allCell, isCell, okVal, okCell, cellsOf, fillN, rowsN, cellsN, bnd, lohi, offAt, overL, segL, leave, NodeOK, List.cons_append, List.nil_append, List.append_nil, catA, anys, lenA])
    have hc : (cutR l bad n).1.length ≤ 8 := by unfold cutR; split <;> simp; omega
    generalize (cutR l bad n).1 = c at *
    generalize (cutR l bad n).2.1 = l' at *
    generalize (cutR l bad n).2.2 = b' at *
    simp only [u8s_len]
    refine aw_loop (α := Nat) (fun i => i ≤ c.length) (fun i => stA 38 [(5, .int .u64 (numG c i)), (6, .fn 82 [] []), (23, .ro 1 (u8s c)), (24, .int .i64 c.length), (25, .int .i64 i)]) (fun i => [rdO l' b']) (fun i => c.length - i) 0 (Nat.zero_le _) ?_ (fun _ => rfl) fun i hi => ?_
    · simp [Wk, mtc, mtcS, mtcSL, mtc0, mtc0L, mtcL, mtcO, mtcOs, cutM, takeE, stA, rl, renV, renL, ren1, ren1L, ren, rens, renO, Nat.blt, lenO, getO, setO, setL, anys, rdO, numG]
    simp only [stA, anys, setL, rdO]
    (refine eval_sound 2000 _ _ _ ?_; simp (maxSteps := 1000000) only [ptrL, lenV, Bool.not_true, Bool.not_false, lookR, valOf, asGrow, jump, findA, restA, and, Nat.reduceAdd, Nat.reduceSub, Nat.reduceMul, Int.reduceToNat, eval, nf, nfO, opN, appTo, rowsV, getL, setL, getO, setO, snocO, lenO, putL, ev, evs, ifEq, killV, killL, kill1, kill1L, kill, kills, killO, killOs, bin, binI, binS, binB, eq1, eqB, lit, sameK, kn, unI, mxA, mnA, mkAgg, fits, partN, partA, resN, retV, allVal, isVal, allCell, isCell, okVal, okCell, cellsOf, fillN, rowsN, cellsN, bnd, lohi, offAt, overL, segL, leave, NodeOK, List.cons_append, List.nil_append, List.append_nil, catA, anys, lenA])
    refine ⟨fun h3 => ?_, fun h3 => ?_⟩
    · have h4 : i < c.length := by simpa using h3
      refine ⟨by omega, [.int .u8 c[i]], by simp [u8s, h4], ?_⟩
      (refine eval_sound 2000 _ _ _ ?_; simp (maxSteps := 1000000) only [ptrL, lenV, Bool.not_true, Bool.not_false, lookR, valOf, asGrow, jump, findA, restA, and, Nat.reduceAdd, Nat.reduceSub, Nat.reduceMul, Int.reduceToNat, eval, nf, nfO, opN, appTo, rowsV, getL, setL, getO, setO, snocO, lenO, putL, ev, evs, ifEq, killV, killL, kill1, kill1L, kill, kills, killO, killOs, bin, binI, binS, binB, eq1, eqB, lit, sameK, kn, unI, mxA, mnA, mkAgg, fits, partN, partA, resN, retV, allVal, isVal, allCell, isCell, okVal, okCell, cellsOf, fillN, rowsN, cellsN, bnd, lohi, offAt, overL, segL, leave, NodeOK, List.cons_append, List.nil_append, List.append_nil, catA, anys, lenA])
      refine aw_call (num1 i c[i] (by omega)) [] rfl (by simp [upM, nthN, matchO, rens, ren, ren1, ren1L, renL, renV, renO, rl, lenO, getO, Nat.blt, mtc, mtcS, mtcSL, mtc0, mtc0L]) rfl (by simp [upM, nthN, matchO, rens, ren, ren1, ren1L, renL, renV, renO, rl, lenO, getO, Nat.blt, mtc, mtcS, mtcSL, mtc0, mtc0L]) rfl (fun r hs hp hl => ?_)
      obtain ⟨rfl, rfl⟩ := hp
      simp only [snocO, upM, nthN, putAll, snocAll, killsA, killOsA, grows, putL, rl, renV, renL, ren1, ren1L, ren, rens, renO, Nat.blt, lenO, getO, setO, setL, anys]
      (refine eval_sound 2000 _ _ _ ?_; simp (maxSteps := 1000000) only [ptrL, lenV, Bool.not_true, Bool.not_false, lookR, valOf, asGrow, jump, findA, restA, and, Nat.reduceAdd, Nat.reduceSub, Nat.reduceMul, Int.reduceToNat, eval, nf, nfO, opN, appTo, rowsV, getL, setL, getO, setO, snocO, lenO, putL, ev, evs, ifEq, killV, killL, kill1, kill1L, kill, kills, killO, killOs, bin, binI, binS, binB, eq1, eqB, lit, sameK, kn, unI, mxA, mnA, mkAgg, fits, partN, partA, resN, retV, allVal, isVal, allCell, isCell, okVal, okCell, cellsOf, fillN, rowsN, cellsN, bnd, lohi, offAt, overL, segL, leave, NodeOK, List.cons_append, List.nil_append, List.append_nil, catA, anys, lenA])
      rw [wr64 (n := (i : Int) + 1) (by omega) (by omega)]
      refine ⟨i + 1, by omega, by omega, ?_⟩
      simp only [Wk, mtc, mtcS, mtcSL, mtc0, mtc0L, mtcL, mtcO, mtcOs, cutM, takeE, stA, rl, renV, renL, ren1, ren1L, ren, rens, renO, Nat.blt, lenO, getO, setO, setL, anys]
      simp [rdO, numG, h4]
    · have : i = c.length := by simp at h3; omega
      subst this
      simp only [e, if_false]
      refine ⟨[], rfl, _, _, ?_, ?_, rfl, rfl⟩ <;> simp [Wk, mtc, mtcS, mtcSL, mtc0, mtc0L, mtcL, mtcO, mtcOs, cutM, takeE, stA, rl, renV, renL, ren1, ren1L, ren, rens, renO, Nat.blt, lenO, getO, setO, setL, anys, okS, endM, endH, idxN, takeE, pickE, catO, rl, renV, renL, ren1, ren1L, ren, rens, renO, Nat.blt, lenO, getO, setO, setL, anys, u8s, rdO]
  all_goals
    have e : n < 1 ∨ 8 < n := by
      first
        | (left; simpa using h)
        | (right; simpa using h2)
    refine aw_call (fail_ l bad) [0] rfl (by simp [upM, nthN, matchO, rens, ren, ren1, ren1L, renL, renV, renO, rl, lenO, getO, Nat.blt, mtc, mtcS, mtcSL, mtc0, mtc0L]) rfl (by simp [upM, nthN, matchO, rens, ren, ren1, ren1L, renL, renV, renO, rl, lenO, getO, Nat.blt, mtc, mtcS, mtcSL, mtc0, mtc0L, rdO]) rfl (fun r hs hp hl => ?_)
    subst hp
    simp only [snocO, upM, nthN, putAll, snocAll, killsA, killOsA, grows, putL, rl, renV, renL, ren1, ren1L, ren, rens, renO, Nat.blt, lenO, getO, setO, setL, anys, rdO, e, if_true]
    (refine eval_sound 2000 _ _ _ ?_; simp (maxSteps := 1000000) only [ptrL, lenV, Bool.not_true, Bool.not_false, lookR, valOf, asGrow, jump, findA, restA, and, Nat.reduceAdd, Nat.reduceSub, Nat.reduceMul, Int.reduceToNat, eval, nf, nfO, opN, appTo, rowsV, getL, setL, getO, setO, snocO, lenO, putL, ev, evs, ifEq, killV, killL, kill1, kill1L, kill, kills, killO, killOs, bin, binI, binS, binB, eq1, eqB, lit, sameK, kn, unI, mxA, mnA, mkAgg, fits, partN, partA, resN, retV, allVal, isVal, allCell, isCell, okVal, okCell, cellsOf, fillN, rowsN, cellsN, bnd, lohi, offAt, overL, segL, leave, NodeOK, List.cons_append, List.nil_append, List.append_nil, catA, anys, lenA])
    refine ⟨[], rfl, _, _, ?_, ?_, rfl, rfl⟩ <;> simp [Wk, mtc, mtcS, mtcSL, mtc0, mtc0L, mtcL, mtcO, mtcOs, cutM, takeE, stA, rl, renV, renL, ren1, ren1L, ren, rens, renO, Nat.blt, lenO, getO, setO, setL, anys, okS, endM, endH, idxN, takeE, pickE, catO, rl, renV, renL, ren1, ren1L, ren, rens, renO, Nat.blt, lenO, getO, setO, setL, anys, u8s]
/-- What Num tells, and what is left. -/
def numV (l : List Int) (bad : Bool) (n : Int) : Int × List Int × Bool := if n < 1 ∨ 8 < n then (0, [], true) else (numG (cutR l bad n).1 (cutR l bad n).1.length, (cutR l bad n).2)
theorem num_c (l : List Int) (bad : Bool) (n : Int) : ACalls Try.prog 51 [.ptr 0 0, .int .i64 n] [rdO l bad] (fun r hs => r = .int .u64 (numV l bad n).1 ∧ hs = [rdO (numV l bad n).2.1 (numV l bad n).2.2]) := by
  refine (num_ l bad n).mono fun r hs h => ?_
  unfold numV
  split at h <;> rename_i e <;> simp only [e, if_true, if_false] <;> exact h
def byteAt (n : Int) (i : Nat) : Int := IntKind.u8.wrap (n.fdiv (2 ^ (min (8 * i) 64)))
def u64s (ns : List Int) : List (List AV) := ns.map fun n => [.int .u64 n]
def numS (n : Int) (k : Nat) : List (List AV) := (List.range k).map fun i => [.int .u8 (byteAt n i)]
def putS (b : List (List AV)) (w : Int) (ns : List Int) : List (List AV) := if w < 1 ∨ 8 < w then b else b ++ ns.flatMap fun n => numS n w.toNat
theorem numS_len (n : Int) (k : Nat) : (numS n k).length = k := by simp [numS]
theorem numS_succ (n : Int) (k : Nat) : numS n (k + 1) = numS n k ++ [[.int .u8 (byteAt n k)]] := by simp [numS, List.range_succ]
theorem flat_len (k : Nat) : ∀ l : List Int, (l.flatMap fun n => numS n k).length = l.length * k
  | [] => by simp
  | n :: l => by simp [flat_len k l, numS_len, Nat.add_mul, Nat.add_comm]
set_option maxHeartbeats 1000000 in
theorem put_calls (b : List (List AV)) (w : Int) (ns : List Int) (hb : b.length + 8 * ns.length ≤ 140737488355328) : ACalls Try.prog 53 [.ro 1 b, .int .i64 w, .ro 1 (u64s ns)] [] (fun r hs => r = .own 0 ∧ hs = [.grow 5 1 (putS b w ns)]) := by
  refine acalls_of (fn := Try.f53) (A := a53) Try.func53 ok_53 en_53 ?_
  dsimp only [a53]
  (refine eval_sound 2000 _ _ _ ?_; simp (maxSteps := 1000000) only [ptrL, lenV, Bool.not_true, Bool.not_false, lookR, valOf, asGrow, jump, findA, restA, and, Nat.reduceAdd, Nat.reduceSub, Nat.reduceMul, Int.reduceToNat, eval, nf, nfO, opN, appTo, rowsV, getL, setL, getO, setO, snocO, lenO, putL, ev, evs, ifEq, killV, killL, kill1, kill1L, kill, kills, killO, killOs, bin, binI, binS, binB, eq1, eqB, lit, sameK, kn, unI, mxA, mnA, mkAgg, fits, partN, partA, resN, retV, allVal, isVal, allCell, isCell, okVal, okCell, cellsOf, fillN, rowsN, cellsN, bnd, lohi, offAt, overL, segL, leave, NodeOK, List.cons_append, List.nil_append, List.append_nil, catA, anys, lenA])
  refine ⟨by simp; omega, fun h => ⟨[0], rfl, rfl, ?_⟩, fun h => ⟨fun h2 => ⟨[0], rfl, rfl, ?_⟩, fun h2 => ?_⟩⟩
  · have : w < 1 ∨ 8 < w := by simp at h; omega
    simp [okS, endM, endH, idxN, takeE, pickE, catO, rl, renV, renL, ren1, ren1L, ren, rens, renO, Nat.blt, lenO, getO, setO, setL, anys, putS, this]
  · have : w < 1 ∨ 8 < w := by simp at h2; omega
    simp [okS, endM, endH, idxN, takeE, pickE, catO, rl, renV, renL, ren1, ren1L, ren, rens, renO, Nat.blt, lenO, getO, setO, setL, anys, putS, this]
  simp only [decide_eq_false_iff_not] at h h2
  refine aw_loop (α := Nat) (fun i => i ≤ ns.length) (fun i => stA 42 [(1, .int .i64 w), (7, .own 0), (21, .ro 1 (u64s ns)), (22, .int .i64 (ns.length)), (23, .int .i64 i)]) (fun i => [.grow 5 1 (b ++ (ns.take i).flatMap fun n => numS n w.toNat)]) (fun i => ns.length - i) 0 (Nat.zero_le _) ?_ (fun _ => rfl) fun i hi => ?_
  · simp [Wk, mtc, mtcS, mtcSL, mtc0, mtc0L, mtcL, mtcO, mtcOs, cutM, takeE, stA, rl, renV, renL, ren1, ren1L, ren, rens, renO, Nat.blt, lenO, getO, setO, setL, anys, u64s]
  simp only [stA, anys, setL]
  (refine eval_sound 2000 _ _ _ ?_; simp (maxSteps := 1000000) only [ptrL, lenV, Bool.not_true, Bool.not_false, lookR, valOf, asGrow, jump, findA, restA, and, Nat.reduceAdd, Nat.reduceSub, Nat.reduceMul, Int.reduceToNat, eval, nf, nfO, opN, appTo, rowsV, getL, setL, getO, setO, snocO, lenO, putL, ev, evs, ifEq, killV, killL, kill1, kill1L, kill, kills, killO, killOs, bin, binI, binS, binB, eq1, eqB, lit, sameK, kn, unI, mxA, mnA, mkAgg, fits, partN, partA, resN, retV, allVal, isVal, allCell, isCell, okVal, okCell, cellsOf, fillN, rowsN, cellsN, bnd, lohi, offAt, overL, segL, leave, NodeOK, List.cons_append, List.nil_append, List.append_nil, catA, anys, lenA])
  refine ⟨fun h3 => ?_, fun h3 => ?_⟩
  · have h4 : i < ns.length := by simpa using h3
    refine ⟨by omega, [.int .u64 ns[i]], by simp [u64s, h4], ?_⟩
    (refine eval_sound 2000 _ _ _ ?_; simp (maxSteps := 1000000) only [ptrL, lenV, Bool.not_true, Bool.not_false, lookR, valOf, asGrow, jump, findA, restA, and, Nat.reduceAdd, Nat.reduceSub, Nat.reduceMul, Int.reduceToNat, eval, nf, nfO, opN, appTo, rowsV, getL, setL, getO, setO, snocO, lenO, putL, ev, evs, ifEq, killV, killL, kill1, kill1L, kill, kills, killO, killOs, bin, binI, binS, binB, eq1, eqB, lit, sameK, kn, unI, mxA, mnA, mkAgg, fits, partN, partA, resN, retV, allVal, isVal, allCell, isCell, okVal, okCell, cellsOf, fillN, rowsN, cellsN, bnd, lohi, offAt, overL, segL, leave, NodeOK, List.cons_append, List.nil_append, List.append_nil, catA, anys, lenA])
    refine aw_loop (α := Nat) (fun j => (j : Int) ≤ w) (fun j => stA 42 [(1, .int .i64 w), (7, .own 0), (21, .ro 1 (u64s ns)), (22, .int .i64 (ns.length)), (23, .int .i64 i), (9, .int .u64 ns[i]), (27, .int .i64 w), (28, .int .i64 j)]) (fun j => [.grow 5 1 (b ++ ((ns.take i).flatMap fun n => numS n w.toNat) ++ numS ns[i] j)]) (fun j => w.toNat - j) 0 (by omega) ?_ (fun _ => rfl) fun j hj => ?_
    · simp [Wk, mtc, mtcS, mtcSL, mtc0, mtc0L, mtcL, mtcO, mtcOs, cutM, takeE, stA, rl, renV, renL, ren1, ren1L, ren, rens, renO, Nat.blt, lenO, getO, setO, setL, anys, u64s, numS]
    simp only [stA, anys, setL]
    (refine eval_sound 2000 _ _ _ ?_; simp (maxSteps := 1000000) only [ptrL, lenV, Bool.not_true, Bool.not_false, lookR, valOf, asGrow, jump, findA, restA, and, Nat.reduceAdd, Nat.reduceSub, Nat.reduceMul, Int.reduceToNat, eval, nf, nfO, opN, appTo, rowsV, getL, setL, getO, setO, snocO, lenO, putL, ev, evs, ifEq, killV, killL, kill1, kill1L, kill, kills, killO, killOs, bin, binI, binS, binB, eq1, eqB, lit, sameK, kn, unI, mxA, mnA, mkAgg, fits, partN, partA, resN, retV, allVal, isVal, allCell, isCell, okVal, okCell, cellsOf, fillN, rowsN, cellsN, bnd, lohi, offAt, overL, segL, leave, NodeOK, List.cons_append, List.nil_append, List.append_nil, catA, anys, lenA])
    refine ⟨fun h5 => ?_, fun h5 => ?_⟩
    · have h6 : (j : Int) < w := by simpa using h5
      rw [wr64 (n := 8 * (j : Int)) (by omega) (by omega), wr64 (n := (j : Int) + 1) (by omega) (by omega)]
      have hm : i * w.toNat ≤ (ns.length - 1) * 8 := Nat.mul_le_mul (by omega) (by omega)
      refine ⟨by omega, ?_, j + 1, by omega, by omega, ?_⟩
      · simp only [List.length_append, flat_len, numS_len, List.length_take, Nat.min_eq_left hi, List.length_cons, List.length_nil]
        omega
      · simp [Wk, mtc, mtcS, mtcSL, mtc0, mtc0L, mtcL, mtcO, mtcOs, cutM, takeE, stA, rl, renV, renL, ren1, ren1L, ren, rens, renO, Nat.blt, lenO, getO, setO, setL, anys, numS_succ, byteAt, IntKind.bits, show (8 * (j : Int)).toNat = 8 * j by omega]
    have h6 : (j : Int) = w := by simp at h5; omega
    have : j = w.toNat := by omega
    subst this
    rw [wr64 (n := (i : Int) + 1) (by omega) (by omega)]
    refine ⟨i + 1, by omega, by omega, ?_⟩
    simp only [Wk, mtc, mtcS, mtcSL, mtc0, mtc0L, mtcL, mtcO, mtcOs, cutM, takeE, stA, rl, renV, renL, ren1, ren1L, ren, rens, renO, Nat.blt, lenO, getO, setO, setL, anys]
    rw [List.take_succ_eq_append_getElem h4]
    refine ⟨by omega, by simp, ?_, trivial⟩
    simp only [List.flatMap_append, List.flatMap_cons, List.flatMap_nil, List.append_nil, List.append_assoc]
  refine ⟨[0], rfl, rfl, ?_⟩
  have : ns.length = i := by simp at h3; omega
  subst this
  have : ¬ (w < 1 ∨ 8 < w) := by omega
  simp [okS, endM, endH, idxN, takeE, pickE, catO, rl, renV, renL, ren1, ren1L, ren, rens, renO, Nat.blt, lenO, getO, setO, setL, anys, putS, this]
theorem read_ (b : List Int) : ACalls Try.prog 50 [.ro 1 (u8s b)] [] (fun r hs => r = .ptr 0 0 ∧ hs = [rdO b false]) := by
  refine acalls_weak (acalls_of (fn := Try.f50) (A := a50) Try.func50 ok_50 en_50 ?_)
  dsimp only [a50, rdO]
  (refine eval_sound 2000 _ _ _ ?_; simp (maxSteps := 1000000) only [ptrL, lenV, Bool.not_true, Bool.not_false, lookR, valOf, asGrow, jump, findA, restA, and, Nat.reduceAdd, Nat.reduceSub, Nat.reduceMul, Int.reduceToNat, eval, nf, nfO, opN, appTo, rowsV, getL, setL, getO, setO, snocO, lenO, putL, ev, evs, ifEq, killV, killL, kill1, kill1L, kill, kills, killO, killOs, bin, binI, binS, binB, eq1, eqB, lit, sameK, kn, unI, mxA, mnA, mkAgg, fits, partN, partA, resN, retV, allVal, isVal, allCell, isCell, okVal, okCell, cellsOf, fillN, rowsN, cellsN, bnd, lohi, offAt, overL, segL, leave, NodeOK, List.cons_append, List.nil_append, List.append_nil, catA, anys, lenA])
  refine ⟨by simp, [0], rfl, _, _, ?_, ?_, rfl, rfl⟩ <;> simp [Wk, mtc, mtcS, mtcSL, mtc0, mtc0L, mtcL, mtcO, mtcOs, cutM, takeE, stA, rl, renV, renL, ren1, ren1L, ren, rens, renO, Nat.blt, lenO, getO, setO, setL, anys, okS, endM, endH, idxN, takeE, pickE, catO, rl, renV, renL, ren1, ren1L, ren, rens, renO, Nat.blt, lenO, getO, setO, setL, anys, rdO]
def ByteL (l : List Int) : Prop := ∀ x ∈ l, 0 ≤ x ∧ x ≤ 255
theorem wru64 {n : Int} (h1 : 0 ≤ n) (h2 : n < 18446744073709551616) : IntKind.u64.wrap n = n := IntWalk.u64_in _ ⟨h1, by omega⟩
def leN : List Int → Nat
  | [] => 0
  | x :: l => x.toNat + 256 * leN l
theorem leN_lt (l : List Int) (h : ByteL l) : leN l < 256 ^ l.length := by
  induction l with
  | nil => simp [leN]
  | cons x l ih =>
    have := ih fun y hy => h y (by simp [hy])
    have h1 := h x (by simp)
    simp only [leN, List.length_cons, Nat.pow_succ]
    omega
theorem pow8 {k : Nat} (h : k ≤ 8) : 256 ^ k ≤ 18446744073709551616 := by
  have : 256 ^ k ≤ 256 ^ 8 := Nat.pow_le_pow_right (by omega) h
  simpa using this
theorem leN_snoc (x : Int) : ∀ l : List Int, leN (l ++ [x]) = leN l + x.toNat * 256 ^ l.length
  | [] => by simp [leN]
  | y :: l => by
    simp only [List.cons_append, leN, leN_snoc x l, List.length_cons, Nat.pow_succ]
    rw [Nat.mul_add, Nat.add_assoc]
    congr 2
    rw [Nat.mul_comm 256, Nat.mul_assoc]
theorem or_add (a x k : Nat) (ha : a < 256 ^ k) : a ||| (x * 256 ^ k) = a + x * 256 ^ k := by
  have e : 256 ^ k = 2 ^ (8 * k) := by rw [Nat.pow_mul]
  rw [e] at ha ⊢
  have := Nat.shiftLeft_add_eq_or_of_lt ha x
  rw [Nat.shiftLeft_eq] at this
  rw [Nat.or_comm, ← this, Nat.add_comm]
theorem numG_eq (c : List Int) (h : ByteL c) (hl : c.length ≤ 8) : ∀ k, k ≤ c.length → numG c k = leN (c.take k)
  | 0, _ => by simp [numG, leN]
  | k + 1, hk => by
    have hk' : k < c.length := by omega
    have ih := numG_eq c h hl k (by omega)
    have hx := h c[k] (List.getElem_mem hk')
    have hb : ByteL (c.take k) := fun y hy => h y (List.mem_of_mem_take hy)
    have hb2 : ByteL (c.take (k + 1)) := fun y hy => h y (List.mem_of_mem_take hy)
    have h1 := leN_lt _ hb
    have h2 := leN_lt _ hb2
    have h3 := pow8 (k := (c.take (k + 1)).length) (by simp; omega)
    have e : c.take (k + 1) = c.take k ++ [c[k]] := List.take_succ_eq_append_getElem hk'
    rw [e, leN_snoc] at h2
    rw [e, leN_snoc]
    rw [← e] at h2
    simp only [List.length_take, Nat.min_eq_left (show k ≤ c.length by omega)] at h1 h2 ⊢
    have hlen : (c.take (k + 1)).length = k + 1 := by simp; omega
    rw [hlen] at h3
    rw [Nat.min_eq_left hk] at h2
    have hs : shl8 (c.getD k 0) k = ((c[k].toNat * 256 ^ k : Nat) : Int) := by
      unfold shl8
      rw [List.getD_eq_getElem?_getD, List.getElem?_eq_getElem hk', Option.getD_some, Nat.min_eq_left (by omega), wru64 (n := c[k]) (by omega) (by omega)]
      have e2 : (c[k] * 2 ^ (8 * k) : Int) = ((c[k].toNat * 256 ^ k : Nat) : Int) := by
        have e3 : (2 : Int) ^ (8 * k) = ((256 ^ k : Nat) : Int) := by
          rw [show (256 : Nat) = 2 ^ 8 from rfl, ← Nat.pow_mul]
          simp
        rw [e3, Int.natCast_mul, Int.toNat_of_nonneg hx.1]
      rw [e2, wru64 (by omega) (by omega)]
    simp only [numG, ih, hs]
    generalize leN (c.take k) = A at *
    generalize hB : c[k].toNat * 256 ^ k = B at *
    have : (BitVec.ofInt IntKind.u64.bits (A : Int) ||| BitVec.ofInt IntKind.u64.bits (B : Int)).toNat = A ||| B := by
      show (BitVec.ofInt 64 (A : Int) ||| BitVec.ofInt 64 (B : Int)).toNat = A ||| B
      rw [BitVec.toNat_or, BitVec.toNat_ofInt, BitVec.toNat_ofInt]
      congr 1 <;> (simp; omega)
    rw [this, ← hB, or_add _ _ _ h1, hB, wru64 (by omega) (by omega)]
theorem div_pow (n : Int) (h : 0 ≤ n) (i : Nat) (hi : i < 8) : byteAt n i = IntKind.u8.wrap ((n / 256 ^ i).tmod 256) := by
  unfold byteAt
  rw [Nat.min_eq_left (by omega), show (2 : Int) ^ (8 * i) = 256 ^ i by rw [Int.pow_mul]; rfl, Int.fdiv_eq_ediv_of_nonneg _ (by have : (0 : Int) < 256 ^ i := Int.pow_pos (by omega); omega)]
  have h2 : 0 ≤ n / 256 ^ i := Int.ediv_nonneg h (by have : (0 : Int) < 256 ^ i := Int.pow_pos (by omega); omega)
  rw [Int.tmod_eq_emod_of_nonneg h2, IntKind.wrap_u8, IntKind.wrap_u8]
  omega
def numI (n : Int) (k : Nat) : List Int := (List.range k).map fun i => byteAt n i
theorem numI_len (n : Int) (k : Nat) : (numI n k).length = k := by simp [numI]
theorem numI_byte (n : Int) (k : Nat) : ByteL (numI n k) := by
  intro x hx
  simp only [numI, List.mem_map] at hx
  obtain ⟨i, _, rfl⟩ := hx
  unfold byteAt
  rw [IntKind.wrap_u8]
  omega
theorem byteAt_eq (n : Int) (h : 0 ≤ n) (i : Nat) (hi : i < 8) : byteAt n i = n / 256 ^ i % 256 := by
  have h2 : 0 ≤ n / 256 ^ i := Int.ediv_nonneg h (by have : (0 : Int) < 256 ^ i := Int.pow_pos (by omega); omega)
  rw [div_pow n h i hi, Int.tmod_eq_emod_of_nonneg h2, IntKind.wrap_u8]
  omega
theorem leN_num (n : Int) (h : 0 ≤ n) : ∀ k, k ≤ 8 → (leN (numI n k) : Int) = n % 256 ^ k
  | 0, _ => by simp [numI, leN]
  | k + 1, hk => by
    have ih := leN_num n h k (by omega)
    have hb := numI_byte n (k + 1)
    have e : numI n (k + 1) = numI n k ++ [byteAt n k] := by simp [numI, List.range_succ]
    have hx := hb (byteAt n k) (by rw [e]; simp)
    rw [e, leN_snoc, numI_len, Int.natCast_add, ih, Int.natCast_mul, Int.toNat_of_nonneg hx.1, byteAt_eq n h k (by omega)]
    have hp : (0 : Int) < 256 ^ k := Int.pow_pos (by omega)
    rw [Int.natCast_pow, show (256 : Int) ^ (k + 1) = 256 ^ k * 256 from Int.pow_succ _ _]
    show n % 256 ^ k + (n / 256 ^ k % 256) * (256 : Int) ^ k = _
    have h1 := Int.emod_add_mul_ediv n (256 ^ k)
    have h2 := Int.emod_add_mul_ediv (n / 256 ^ k) 256
    have h3 : n / 256 ^ (k + 1) = n / 256 ^ k / 256 := by rw [Int.pow_succ, Int.ediv_ediv_of_nonneg (by omega)]
    have h4 := Int.emod_add_mul_ediv n (256 ^ (k + 1))
    rw [h3, Int.pow_succ] at h4
    generalize n / 256 ^ k = q at *
    generalize (256 : Int) ^ k = p at *
    have : (p * 256) * (q / 256) = p * (256 * (q / 256)) := by rw [Int.mul_assoc]
    have h5 : p * q = p * (q % 256) + p * (256 * (q / 256)) := by rw [← Int.mul_add, h2]
    rw [Int.mul_comm (q % 256) _]
    have : n % (p * 256) = n % p + p * (q % 256) := by omega
    rw [this]
theorem numV_num (n : Int) (k : Nat) (hk : 1 ≤ k ∧ k ≤ 8) (h : 0 ≤ n) (h2 : n < 256 ^ k) (rest : List Int) : numV (numI n k ++ rest) false k = (n, rest, false) := by
  have hc : cutR (numI n k ++ rest) false k = (numI n k, rest, false) := by
    have hl := numI_len n k
    unfold cutR
    rw [if_neg (by simp [hl]; omega), Int.toNat_natCast]
    rw [List.take_left' hl, List.drop_left' hl]
  unfold numV
  rw [if_neg (by omega), hc]
  simp only []
  rw [numG_eq _ (numI_byte n k) (by rw [numI_len]; omega) _ (Nat.le_refl _), List.take_length, leN_num n h k hk.2, Int.emod_eq_of_lt h h2]
def cnt : Nat → Nat → Nat
  | 0, _ => 0
  | f + 1, x => x % 2 + cnt f (x / 2)
def val : List Nat → Nat
  | [] => 0
  | b :: l => b + 256 * val l
def rep (c : Nat) : Nat → Nat
  | 0 => 0
  | k + 1 => c + 256 * rep c k
theorem and_split (a b x y : Nat) (ha : a < 256) (hb : b < 256) : (a + 256 * x) &&& (b + 256 * y) = (a &&& b) + 256 * (x &&& y) := by
  have h1 : ((a + 256 * x) &&& (b + 256 * y)) % 2 ^ 8 = a &&& b := by
    rw [Nat.and_mod_two_pow, show (a + 256 * x) % 2 ^ 8 = a by omega, show (b + 256 * y) % 2 ^ 8 = b by omega]
  have h2 : ((a + 256 * x) &&& (b + 256 * y)) / 2 ^ 8 = x &&& y := by
    rw [Nat.and_div_two_pow, show (a + 256 * x) / 2 ^ 8 = x by omega, show (b + 256 * y) / 2 ^ 8 = y by omega]
  omega
def p1 (b : Nat) : Nat := (b / 2 &&& 85) + (b &&& 85)
def p2 (b : Nat) : Nat := (b / 4 &&& 51) + (b &&& 51)
def p3 (b : Nat) : Nat := (b / 16 + b) % 16
theorem c1 : ∀ b : Fin 256, ∀ c : Fin 2, ((b.val / 2 + 128 * c.val) &&& 85) = b.val / 2 &&& 85 := by decide +kernel
theorem c2 : ∀ b : Fin 256, ∀ c : Fin 4, ((b.val / 4 + 64 * c.val) &&& 51) = b.val / 4 &&& 51 := by decide +kernel
theorem st1 : ∀ l : List Nat, (∀ b ∈ l, b < 256) → (val l / 2 &&& rep 85 l.length) + (val l &&& rep 85 l.length) = val (l.map p1)
  | [], _ => rfl
  | b :: l, h => by
    have ih := st1 l fun x hx => h x (by simp [hx])
    have hb := h b (by simp)
    have e := c1 ⟨b, hb⟩ ⟨val l % 2, by omega⟩
    simp only at e
    have e1 : (b + 256 * val l) / 2 = (b / 2 + 128 * (val l % 2)) + 256 * (val l / 2) := by omega
    simp only [val, rep, List.length_cons, List.map_cons]
    rw [e1, and_split _ _ _ _ (by omega) (by omega), and_split _ _ _ _ hb (by omega), e, ← ih]
    unfold p1
    omega
theorem st2 : ∀ l : List Nat, (∀ b ∈ l, b < 256) → (val l / 4 &&& rep 51 l.length) + (val l &&& rep 51 l.length) = val (l.map p2)
  | [], _ => rfl
  | b :: l, h => by
    have ih := st2 l fun x hx => h x (by simp [hx])
    have hb := h b (by simp)
    have e := c2 ⟨b, hb⟩ ⟨val l % 4, by omega⟩
    simp only at e
    have e1 : (b + 256 * val l) / 4 = (b / 4 + 64 * (val l % 4)) + 256 * (val l / 4) := by omega
    simp only [val, rep, List.length_cons, List.map_cons]
    rw [e1, and_split _ _ _ _ (by omega) (by omega), and_split _ _ _ _ hb (by omega), e, ← ih]
    unfold p2
    omega
theorem st3 : ∀ l : List Nat, (∀ b ∈ l, b % 16 ≤ 4 ∧ b / 16 ≤ 4) → ((val l / 16 + val l) &&& rep 15 l.length) = val (l.map p3)
  | [], _ => rfl
  | b :: l, h => by
    have ih := st3 l fun x hx => h x (by simp [hx])
    obtain ⟨hb1, hb2⟩ := h b (by simp)
    have hl : val l % 16 ≤ 4 := by
      cases l with
      | nil => simp [val]
      | cons c l => have := (h c (by simp)).1; simp only [val]; omega
    have e1 : (b + 256 * val l) / 16 + (b + 256 * val l) = (b / 16 + 16 * (val l % 16) + b) + 256 * (val l / 16 + val l) := by omega
    simp only [val, rep, List.length_cons, List.map_cons]
    rw [e1, and_split _ _ _ _ (by omega) (by omega), ih, show (15 : Nat) = 2 ^ 4 - 1 by rfl, Nat.and_two_pow_sub_one_eq_mod]
    unfold p3
    omega
theorem p_all : ∀ b : Fin 256, p1 b.val < 256 ∧ p2 (p1 b.val) < 256 ∧ (p2 (p1 b.val) % 16 ≤ 4 ∧ p2 (p1 b.val) / 16 ≤ 4) ∧ p3 (p2 (p1 b.val)) = cnt 8 b.val ∧ cnt 8 b.val ≤ 8 := by decide +kernel
theorem cnt_split : ∀ (k f b x : Nat), b < 2 ^ k → cnt (k + f) (b + 2 ^ k * x) = cnt k b + cnt f x
  | 0, f, b, x, h => by
    have : b = 0 := by simpa using h
    subst this
    simp [cnt]
  | k + 1, f, b, x, h => by
    rw [show k + 1 + f = (k + f) + 1 by omega]
    simp only [cnt]
    have h2 : b / 2 < 2 ^ k := by rw [Nat.pow_succ] at h; omega
    have e1 : (b + 2 ^ (k + 1) * x) % 2 = b % 2 := by
      rw [Nat.pow_succ, show 2 ^ k * 2 * x = 2 * (2 ^ k * x) by rw [Nat.mul_comm (2 ^ k) 2, Nat.mul_assoc]]; omega
    have e2 : (b + 2 ^ (k + 1) * x) / 2 = b / 2 + 2 ^ k * x := by
      rw [Nat.pow_succ, show 2 ^ k * 2 * x = 2 * (2 ^ k * x) by rw [Nat.mul_comm (2 ^ k) 2, Nat.mul_assoc]]; omega
    rw [e1, e2, cnt_split k f (b / 2) x h2]
    omega
theorem bytes8 (x : Nat) (h : x < 18446744073709551616) : ∃ b0 b1 b2 b3 b4 b5 b6 b7 : Nat, x = val [b0, b1, b2, b3, b4, b5, b6, b7] ∧ ∀ b ∈ [b0, b1, b2, b3, b4, b5, b6, b7], b < 256 := by
  refine ⟨x % 256, x / 256 % 256, x / 65536 % 256, x / 16777216 % 256, x / 4294967296 % 256, x / 1099511627776 % 256, x / 281474976710656 % 256, x / 72057594037927936 % 256, ?_, ?_⟩
  · simp only [val]; omega
  · intro b hb
    simp at hb
    omega
theorem cnt64 (x : Nat) (h : x < 18446744073709551616) : cnt 64 x ≤ 64 := by
  have : ∀ f x, cnt f x ≤ f := by
    intro f
    induction f with
    | zero => intro x; exact Nat.le_refl _
    | succ f ih => intro x; have := ih (x / 2); simp only [cnt]; omega
  exact this 64 x
set_option maxHeartbeats 4000000 in
theorem swar (x : Nat) (h : x < 18446744073709551616) :
    let a := (x / 2 &&& 6148914691236517205) + (x &&& 6148914691236517205)
    let b := (a / 4 &&& 3689348814741910323) + (a &&& 3689348814741910323)
    let c := ((b / 16 + b) &&& 1085102592571150095)
    let d := c + c / 256
    let e := d + d / 65536
    let g := e + e / 4294967296
    a < 18446744073709551616 ∧ b < 18446744073709551616 ∧ b / 16 + b < 18446744073709551616 ∧ c < 18446744073709551616 ∧ d < 18446744073709551616 ∧ e < 18446744073709551616 ∧ g < 18446744073709551616 ∧ g % 128 = cnt 64 x := by
  obtain ⟨b0, b1, b2, b3, b4, b5, b6, b7, hx, hb⟩ := bytes8 x h
  have q := fun (b : Nat) (hm : b ∈ [b0, b1, b2, b3, b4, b5, b6, b7]) => p_all ⟨b, hb b hm⟩
  have s1 := st1 [b0, b1, b2, b3, b4, b5, b6, b7] hb
  rw [← hx, show rep 85 [b0, b1, b2, b3, b4, b5, b6, b7].length = 6148914691236517205 from rfl] at s1
  have s2 := st2 ([b0, b1, b2, b3, b4, b5, b6, b7].map p1) (fun b hm => by
    obtain ⟨c, hc, rfl⟩ := List.mem_map.1 hm
    exact (q c hc).1)
  rw [show rep 51 ([b0, b1, b2, b3, b4, b5, b6, b7].map p1).length = 3689348814741910323 from rfl] at s2
  have s3 := st3 (([b0, b1, b2, b3, b4, b5, b6, b7].map p1).map p2) (fun b hm => by
    obtain ⟨c, hc, rfl⟩ := List.mem_map.1 hm
    obtain ⟨c', hc', rfl⟩ := List.mem_map.1 hc
    exact (q c' hc').2.2.1)
  rw [show rep 15 (([b0, b1, b2, b3, b4, b5, b6, b7].map p1).map p2).length = 1085102592571150095 from rfl] at s3
  have hcnt : cnt 64 x = cnt 8 b0 + (cnt 8 b1 + (cnt 8 b2 + (cnt 8 b3 + (cnt 8 b4 + (cnt 8 b5 + (cnt 8 b6 + cnt 8 b7)))))) := by
    have z := fun (b : Nat) (hm : b ∈ [b0, b1, b2, b3, b4, b5, b6, b7]) (f y : Nat) => cnt_split 8 f b y (hb b hm)
    rw [hx]
    simp only [val]
    rw [show (64 : Nat) = 8 + 56 from rfl, show (256 : Nat) = 2 ^ 8 from rfl, z b0 (by simp) 56, show (56 : Nat) = 8 + 48 from rfl, z b1 (by simp) 48, show (48 : Nat) = 8 + 40 from rfl, z b2 (by simp) 40, show (40 : Nat) = 8 + 32 from rfl, z b3 (by simp) 32, show (32 : Nat) = 8 + 24 from rfl, z b4 (by simp) 24, show (24 : Nat) = 8 + 16 from rfl, z b5 (by simp) 16, show (16 : Nat) = 8 + 8 from rfl, z b6 (by simp) 8, show (8 : Nat) = 8 + 0 from rfl, z b7 (by simp) 0]
    rfl
  intro a b c d e g
  have ha : a = val ([b0, b1, b2, b3, b4, b5, b6, b7].map p1) := s1
  have hbb : b = val (([b0, b1, b2, b3, b4, b5, b6, b7].map p1).map p2) := by rw [← s2, ← ha]
  have hc : c = val ((([b0, b1, b2, b3, b4, b5, b6, b7].map p1).map p2).map p3) := by rw [← s3, ← hbb]
  simp only [List.map_cons, List.map_nil, val] at ha hbb hc
  obtain ⟨g1, g2, g3, g4, g5⟩ := q b0 (by simp)
  obtain ⟨i1, i2, i3, i4, i5⟩ := q b1 (by simp)
  obtain ⟨j1, j2, j3, j4, j5⟩ := q b2 (by simp)
  obtain ⟨k1, k2, k3, k4, k5⟩ := q b3 (by simp)
  obtain ⟨l1, l2, l3, l4, l5⟩ := q b4 (by simp)
  obtain ⟨m1, m2, m3, m4, m5⟩ := q b5 (by simp)
  obtain ⟨n1, n2, n3, n4, n5⟩ := q b6 (by simp)
  obtain ⟨o1, o2, o3, o4, o5⟩ := q b7 (by simp)
  simp only at g1 g2 g3 g4 g5 i1 i2 i3 i4 i5 j1 j2 j3 j4 j5 k1 k2 k3 k4 k5 l1 l2 l3 l4 l5 m1 m2 m3 m4 m5 n1 n2 n3 n4 n5 o1 o2 o3 o4 o5
  rw [g4, i4, j4, k4, l4, m4, n4, o4] at hc
  rw [hcnt]
  have hd : d = c + c / 256 := rfl
  have he : e = d + d / 65536 := rfl
  have hg : g = e + e / 4294967296 := rfl
  clear_value a b c d e g
  generalize cnt 8 b0 = r0 at *
  generalize cnt 8 b1 = r1 at *
  generalize cnt 8 b2 = r2 at *
  generalize cnt 8 b3 = r3 at *
  generalize cnt 8 b4 = r4 at *
  generalize cnt 8 b5 = r5 at *
  generalize cnt 8 b6 = r6 at *
  generalize cnt 8 b7 = r7 at *
  clear s1 s2 s3 q hb hx hcnt
  refine ⟨by omega, by omega, by omega, by omega, by omega, by omega, by omega, ?_⟩
  have hd' : d = (r0 + r1) + 256 * ((r1 + r2) + 256 * ((r2 + r3) + 256 * ((r3 + r4) + 256 * ((r4 + r5) + 256 * ((r5 + r6) + 256 * ((r6 + r7) + 256 * r7)))))) := by
    have : c / 256 = r1 + 256 * (r2 + 256 * (r3 + 256 * (r4 + 256 * (r5 + 256 * (r6 + 256 * r7))))) := by omega
    omega
  have he' : e % 256 = r0 + r1 + r2 + r3 ∧ e / 4294967296 % 256 = r4 + r5 + r6 + r7 := by
    have : d / 65536 = (r2 + r3) + 256 * ((r3 + r4) + 256 * ((r4 + r5) + 256 * ((r5 + r6) + 256 * ((r6 + r7) + 256 * r7)))) := by omega
    have : e = (r0 + r1 + r2 + r3) + 256 * ((r1 + r2 + r3 + r4) + 256 * ((r2 + r3 + r4 + r5) + 256 * ((r3 + r4 + r5 + r6) + 256 * ((r4 + r5 + r6 + r7) + 256 * ((r5 + r6 + r7) + 256 * ((r6 + r7) + 256 * r7)))))) := by omega
    have h1 : ∃ B, e = (r0 + r1 + r2 + r3) + 256 * B := ⟨_, this⟩
    have h2 : ∃ lo hi, lo < 4294967296 ∧ e = lo + 4294967296 * ((r4 + r5 + r6 + r7) + 256 * hi) := ⟨(r0 + r1 + r2 + r3) + 256 * ((r1 + r2 + r3 + r4) + 256 * ((r2 + r3 + r4 + r5) + 256 * (r3 + r4 + r5 + r6))), (r5 + r6 + r7) + 256 * ((r6 + r7) + 256 * r7), by omega, by omega⟩
    clear this hd' hd he hg ha hbb hc
    obtain ⟨B, h1⟩ := h1
    obtain ⟨lo, hi, h2, h3⟩ := h2
    constructor
    · clear h3; omega
    · clear h1; omega
  clear hd' hd he ha hbb hc
  omega
theorem wruN {n : Nat} (h : n < 18446744073709551616) : IntKind.u64.wrap (n : Int) = n := IntWalk.u64_in _ ⟨by omega, by omega⟩
theorem bvN {n : Nat} (h : n < 18446744073709551616) : (BitVec.ofInt 64 (n : Int)).toNat = n := by
  rw [BitVec.toNat_ofInt]
  simp; omega
theorem andN {a b : Nat} (ha : a < 18446744073709551616) (hb : b < 18446744073709551616) : IntKind.u64.wrap ((BitVec.ofInt IntKind.u64.bits (a : Int) &&& BitVec.ofInt IntKind.u64.bits (b : Int)).toNat : Int) = ((a &&& b : Nat) : Int) := by
  show IntKind.u64.wrap ((BitVec.ofInt 64 (a : Int) &&& BitVec.ofInt 64 (b : Int)).toNat : Int) = _
  rw [BitVec.toNat_and, bvN ha, bvN hb]
  exact wruN (Nat.lt_of_le_of_lt Nat.and_le_left ha)
theorem orN {a b : Nat} (ha : a < 18446744073709551616) (hb : b < 18446744073709551616) : IntKind.u64.wrap ((BitVec.ofInt IntKind.u64.bits (a : Int) ||| BitVec.ofInt IntKind.u64.bits (b : Int)).toNat : Int) = ((a ||| b : Nat) : Int) := by
  show IntKind.u64.wrap ((BitVec.ofInt 64 (a : Int) ||| BitVec.ofInt 64 (b : Int)).toNat : Int) = _
  rw [BitVec.toNat_or, bvN ha, bvN hb]
  exact wruN (show a ||| b < 2 ^ 64 from Nat.or_lt_two_pow ha hb)
theorem shrN (a k : Nat) (ha : a < 18446744073709551616) : (a : Int).fdiv (2 ^ min ((k : Int)).toNat IntKind.u64.bits) = ((a >>> k : Nat) : Int) := by
  show (a : Int).fdiv (2 ^ min ((k : Int)).toNat 64) = _
  have hp : ∀ j : Nat, ((2 : Int) ^ j) = ((2 ^ j : Nat) : Int) := fun j => by norm_cast
  rw [Int.toNat_natCast, Int.fdiv_eq_ediv_of_nonneg _ (by rw [hp]; exact Int.natCast_nonneg _), Nat.shiftRight_eq_div_pow]
  by_cases h : k ≤ 64
  · rw [Nat.min_eq_left h]; norm_cast
  · rw [Nat.min_eq_right (by omega)]
    have h1 : a / 2 ^ 64 = 0 := Nat.div_eq_of_lt ha
    have h2 : a / 2 ^ k = 0 := Nat.div_eq_of_lt (Nat.lt_of_lt_of_le (m := 2 ^ 64) ha (Nat.pow_le_pow_right (by decide) (by omega)))
    rw [h2]
    have : ((a : Int) / 2 ^ 64) = ((a / 2 ^ 64 : Nat) : Int) := by norm_cast
    rw [this, h1]
theorem shl1N (k : Nat) (hk : k < 64) : IntKind.u64.wrap ((1 : Int) * 2 ^ min ((k : Int)).toNat IntKind.u64.bits) = ((1 <<< k : Nat) : Int) := by
  show IntKind.u64.wrap ((1 : Int) * 2 ^ min ((k : Int)).toNat 64) = _
  rw [Int.toNat_natCast, Nat.min_eq_left (by omega), Nat.one_shiftLeft, Int.one_mul]
  have h : 2 ^ k < 18446744073709551616 := Nat.pow_lt_pow_right (by omega) hk
  have := wruN h
  rw [← this]
  norm_cast
theorem xorN {a b : Nat} (ha : a < 18446744073709551616) (hb : b < 18446744073709551616) : IntKind.u64.wrap ((BitVec.ofInt IntKind.u64.bits (a : Int) ^^^ BitVec.ofInt IntKind.u64.bits (b : Int)).toNat : Int) = ((a ^^^ b : Nat) : Int) := by
  show IntKind.u64.wrap ((BitVec.ofInt 64 (a : Int) ^^^ BitVec.ofInt 64 (b : Int)).toNat : Int) = _
  rw [BitVec.toNat_xor, bvN ha, bvN hb]
  exact wruN (show a ^^^ b < 2 ^ 64 from Nat.xor_lt_two_pow ha hb)
theorem divN (a k : Nat) (ha : a < 18446744073709551616) : (a : Int).fdiv (2 ^ min ((k : Int)).toNat IntKind.u64.bits) = ((a / 2 ^ k : Nat) : Int) := by rw [shrN a k ha, Nat.shiftRight_eq_div_pow]
theorem sumN {a b : Nat} (h : a + b < 18446744073709551616) : IntKind.u64.wrap ((a : Int) + (b : Int)) = ((a + b : Nat) : Int) := by
  rw [show (a : Int) + (b : Int) = ((a + b : Nat) : Int) by omega]; exact wruN h
theorem and127a (K : Nat) (q7 : K < 18446744073709551616) : (BitVec.ofInt 64 (IntKind.i64.wrap (K : Int))).toNat = K := by
  rw [BitVec.toNat_ofInt, IntKind.wrap_i64]
  have : ((2 ^ 64 : Nat) : Int) = 18446744073709551616 := by decide
  rw [this]
  omega
theorem and127b : (BitVec.ofInt 64 127).toNat = 127 := by decide
theorem and127 (K : Nat) (q7 : K < 18446744073709551616) : IntKind.i64.wrap ((BitVec.ofInt IntKind.i64.bits (IntKind.i64.wrap (K : Int)) &&& BitVec.ofInt IntKind.i64.bits 127).toNat : Int) = ((K % 128 : Nat) : Int) := by
  have h : IntKind.i64.bits = 64 := rfl
  rw [h, BitVec.toNat_and, and127a K q7, and127b, show 127 = 2 ^ 7 - 1 from rfl, Nat.and_two_pow_sub_one_eq_mod]
  exact wr64 (by omega) (by omega)
theorem ones_c (x : Nat) (h : x < 18446744073709551616) : ACalls Try.prog 84 [.int .u64 (x : Int)] [] (fun r hs => r = .int .i64 (cnt 64 x : Nat) ∧ hs = []) := by
  have q := swar x h
  dsimp only at q
  obtain ⟨q1, q2, q3, q4, q5, q6, q7, q8⟩ := q
  have q9 := cnt64 x h
  refine acalls_weak (acalls_of (fn := Try.f84) (A := a84) Try.func84 ok_84 en_84 ?_)
  dsimp only [a84]
  have m1 : (6148914691236517205 : Int) = ((6148914691236517205 : Nat) : Int) := rfl
  have m2 : (3689348814741910323 : Int) = ((3689348814741910323 : Nat) : Int) := rfl
  have m3 : (1085102592571150095 : Int) = ((1085102592571150095 : Nat) : Int) := rfl
  have dv : ∀ (y k : Nat), y < 18446744073709551616 → (y : Int).fdiv (2 ^ min (Int.toNat ((k : Nat) : Int)) IntKind.u64.bits) = ((y / 2 ^ k : Nat) : Int) := fun y k hy => divN y k hy
  (refine eval_sound 13 _ _ _ ?_; simp only [ptrL, lenV, Bool.not_true, Bool.not_false, lookR, valOf, asGrow, jump, findA, restA, and, Nat.reduceAdd, Nat.reduceSub, Nat.reduceMul, Int.reduceToNat, eval, nf, nfO, opN, appTo, rowsV, getL, setL, getO, setO, snocO, lenO, putL, ev, evs, ifEq, killV, killL, kill1, kill1L, kill, kills, killO, killOs, bin, binI, binS, binB, eq1, eqB, lit, sameK, kn, unI, mxA, mnA, mkAgg, fits, partN, partA, resN, retV, allVal, isVal, allCell, isCell, okVal, okCell, cellsOf, fillN, rowsN, cellsN, bnd, lohi, offAt, overL, segL, leave, NodeOK, List.cons_append, List.nil_append, List.append_nil, catA, anys, lenA])
  have d1 : (x : Int).fdiv (2 ^ min 1 IntKind.u64.bits) = ((x / 2 : Nat) : Int) := dv x 1 h
  rw [d1, m1, andN (a := x / 2) (by omega) (by decide), andN h (by decide), sumN q1]
  generalize (x / 2 &&& 6148914691236517205) + (x &&& 6148914691236517205) = A at *
  refine ⟨by omega, ?_⟩
  (refine eval_sound 9 _ _ _ ?_; simp only [ptrL, lenV, Bool.not_true, Bool.not_false, lookR, valOf, asGrow, jump, findA, restA, and, Nat.reduceAdd, Nat.reduceSub, Nat.reduceMul, Int.reduceToNat, eval, nf, nfO, opN, appTo, rowsV, getL, setL, getO, setO, snocO, lenO, putL, ev, evs, ifEq, killV, killL, kill1, kill1L, kill, kills, killO, killOs, bin, binI, binS, binB, eq1, eqB, lit, sameK, kn, unI, mxA, mnA, mkAgg, fits, partN, partA, resN, retV, allVal, isVal, allCell, isCell, okVal, okCell, cellsOf, fillN, rowsN, cellsN, bnd, lohi, offAt, overL, segL, leave, NodeOK, List.cons_append, List.nil_append, List.append_nil, catA, anys, lenA])
  have d2 : (A : Int).fdiv (2 ^ min 2 IntKind.u64.bits) = ((A / 4 : Nat) : Int) := dv A 2 q1
  rw [d2, m2, andN (a := A / 4) (by omega) (by decide), andN q1 (by decide), sumN q2]
  generalize (A / 4 &&& 3689348814741910323) + (A &&& 3689348814741910323) = B at *
  refine ⟨by omega, ?_⟩
  (refine eval_sound 9 _ _ _ ?_; simp only [ptrL, lenV, Bool.not_true, Bool.not_false, lookR, valOf, asGrow, jump, findA, restA, and, Nat.reduceAdd, Nat.reduceSub, Nat.reduceMul, Int.reduceToNat, eval, nf, nfO, opN, appTo, rowsV, getL, setL, getO, setO, snocO, lenO, putL, ev, evs, ifEq, killV, killL, kill1, kill1L, kill, kills, killO, killOs, bin, binI, binS, binB, eq1, eqB, lit, sameK, kn, unI, mxA, mnA, mkAgg, fits, partN, partA, resN, retV, allVal, isVal, allCell, isCell, okVal, okCell, cellsOf, fillN, rowsN, cellsN, bnd, lohi, offAt, overL, segL, leave, NodeOK, List.cons_append, List.nil_append, List.append_nil, catA, anys, lenA])
  have d3 : (B : Int).fdiv (2 ^ min 4 IntKind.u64.bits) = ((B / 16 : Nat) : Int) := dv B 4 q2
  rw [d3, m3, sumN q3, andN q3 (by decide)]
  generalize (B / 16 + B &&& 1085102592571150095) = C at *
  refine ⟨by omega, ?_⟩
  (refine eval_sound 8 _ _ _ ?_; simp only [ptrL, lenV, Bool.not_true, Bool.not_false, lookR, valOf, asGrow, jump, findA, restA, and, Nat.reduceAdd, Nat.reduceSub, Nat.reduceMul, Int.reduceToNat, eval, nf, nfO, opN, appTo, rowsV, getL, setL, getO, setO, snocO, lenO, putL, ev, evs, ifEq, killV, killL, kill1, kill1L, kill, kills, killO, killOs, bin, binI, binS, binB, eq1, eqB, lit, sameK, kn, unI, mxA, mnA, mkAgg, fits, partN, partA, resN, retV, allVal, isVal, allCell, isCell, okVal, okCell, cellsOf, fillN, rowsN, cellsN, bnd, lohi, offAt, overL, segL, leave, NodeOK, List.cons_append, List.nil_append, List.append_nil, catA, anys, lenA])
  have d4 : (C : Int).fdiv (2 ^ min 8 IntKind.u64.bits) = ((C / 256 : Nat) : Int) := dv C 8 q4
  rw [d4, sumN q5]
  generalize C + C / 256 = D at *
  refine ⟨by omega, ?_⟩
  (refine eval_sound 8 _ _ _ ?_; simp only [ptrL, lenV, Bool.not_true, Bool.not_false, lookR, valOf, asGrow, jump, findA, restA, and, Nat.reduceAdd, Nat.reduceSub, Nat.reduceMul, Int.reduceToNat, eval, nf, nfO, opN, appTo, rowsV, getL, setL, getO, setO, snocO, lenO, putL, ev, evs, ifEq, killV, killL, kill1, kill1L, kill, kills, killO, killOs, bin, binI, binS, binB, eq1, eqB, lit, sameK, kn, unI, mxA, mnA, mkAgg, fits, partN, partA, resN, retV, allVal, isVal, allCell, isCell, okVal, okCell, cellsOf, fillN, rowsN, cellsN, bnd, lohi, offAt, overL, segL, leave, NodeOK, List.cons_append, List.nil_append, List.append_nil, catA, anys, lenA])
  have d5 : (D : Int).fdiv (2 ^ min 16 IntKind.u64.bits) = ((D / 65536 : Nat) : Int) := dv D 16 q5
  rw [d5, sumN q6]
  generalize D + D / 65536 = G at *
  refine ⟨by omega, ?_⟩
  (refine eval_sound 8 _ _ _ ?_; simp only [ptrL, lenV, Bool.not_true, Bool.not_false, lookR, valOf, asGrow, jump, findA, restA, and, Nat.reduceAdd, Nat.reduceSub, Nat.reduceMul, Int.reduceToNat, eval, nf, nfO, opN, appTo, rowsV, getL, setL, getO, setO, snocO, lenO, putL, ev, evs, ifEq, killV, killL, kill1, kill1L, kill, kills, killO, killOs, bin, binI, binS, binB, eq1, eqB, lit, sameK, kn, unI, mxA, mnA, mkAgg, fits, partN, partA, resN, retV, allVal, isVal, allCell, isCell, okVal, okCell, cellsOf, fillN, rowsN, cellsN, bnd, lohi, offAt, overL, segL, leave, NodeOK, List.cons_append, List.nil_append, List.append_nil, catA, anys, lenA])
  have d6 : (G : Int).fdiv (2 ^ min 32 IntKind.u64.bits) = ((G / 4294967296 : Nat) : Int) := dv G 32 q6
  rw [d6, sumN q7]
  generalize G + G / 4294967296 = K at *
  refine ⟨by omega, ?_⟩
  (refine eval_sound 2000 _ _ _ ?_; simp (maxSteps := 1000000) only [ptrL, lenV, Bool.not_true, Bool.not_false, lookR, valOf, asGrow, jump, findA, restA, and, Nat.reduceAdd, Nat.reduceSub, Nat.reduceMul, Int.reduceToNat, eval, nf, nfO, opN, appTo, rowsV, getL, setL, getO, setO, snocO, lenO, putL, ev, evs, ifEq, killV, killL, kill1, kill1L, kill, kills, killO, killOs, bin, binI, binS, binB, eq1, eqB, lit, sameK, kn, unI, mxA, mnA, mkAgg, fits, partN, partA, resN, retV, allVal, isVal, allCell, isCell, okVal, okCell, cellsOf, fillN, rowsN, cellsN, bnd, lohi, offAt, overL, segL, leave, NodeOK, List.cons_append, List.nil_append, List.append_nil, catA, anys, lenA])
  rw [and127 K q7, q8]
  ((repeat (with_reducible refine And.intro ?_ ?_; focus (simp; done))); refine ⟨[], rfl, _, _, ?_, ?_, rfl, rfl⟩ <;> simp [Wk, mtc, mtcS, mtcSL, mtc0, mtc0L, mtcL, mtcO, mtcOs, cutM, takeE, stA, rl, renV, renL, ren1, ren1L, ren, rens, renO, Nat.blt, lenO, getO, setO, setL, anys, okS, endM, endH, idxN, takeE, pickE, catO, rl, renV, renL, ren1, ren1L, ren, rens, renO, Nat.blt, lenO, getO, setO, setL, anys, u8s])
theorem size_c (x : Nat) (h : x < 18446744073709551616) : ACalls Try.prog 55 [.int .u64 (x : Int)] [] (fun r hs => r = .int .i64 (cnt 64 x : Nat) ∧ hs = []) := by
  have hO := ones_c x h
  refine acalls_weak (acalls_of (fn := Try.f55) (A := a55) Try.func55 ok_55 en_55 ?_)
  dsimp only [a55, u8s]
  (refine eval_sound 2000 _ _ _ ?_; simp (maxSteps := 1000000) only [ptrL, lenV, Bool.not_true, Bool.not_false, lookR, valOf, asGrow, jump, findA, restA, and, Nat.reduceAdd, Nat.reduceSub, Nat.reduceMul, Int.reduceToNat, eval, nf, nfO, opN, appTo, rowsV, getL, setL, getO, setO, snocO, lenO, putL, ev, evs, ifEq, killV, killL, kill1, kill1L, kill, kills, killO, killOs, bin, binI, binS, binB, eq1, eqB, lit, sameK, kn, unI, mxA, mnA, mkAgg, fits, partN, partA, resN, retV, allVal, isVal, allCell, isCell, okVal, okCell, cellsOf, fillN, rowsN, cellsN, bnd, lohi, offAt, overL, segL, leave, NodeOK, List.cons_append, List.nil_append, List.append_nil, catA, anys, lenA])
  ((repeat (with_reducible refine And.intro ?_ ?_; focus (simp; done))); refine aw_call (hO) [] rfl (by simp [upM, nthN, matchO, rens, ren, ren1, ren1L, renL, renV, renO, rl, lenO, getO, Nat.blt, mtc, mtcS, mtcSL, mtc0, mtc0L]) rfl (by simp [upM, nthN, matchO, rens, ren, ren1, ren1L, renL, renV, renO, rl, lenO, getO, Nat.blt, mtc, mtcS, mtcSL, mtc0, mtc0L]) rfl (fun r hs hp hl => ?_); obtain ⟨rfl, rfl⟩ := hp; simp only [snocO, upM, nthN, putAll, snocAll, killsA, killOsA, grows, putL, rl, renV, renL, ren1, ren1L, ren, rens, renO, Nat.blt, lenO, getO, setO, setL, anys]; (refine eval_sound 2000 _ _ _ ?_; simp (maxSteps := 1000000) only [ptrL, lenV, Bool.not_true, Bool.not_false, lookR, valOf, asGrow, jump, findA, restA, and, Nat.reduceAdd, Nat.reduceSub, Nat.reduceMul, Int.reduceToNat, eval, nf, nfO, opN, appTo, rowsV, getL, setL, getO, setO, snocO, lenO, putL, ev, evs, ifEq, killV, killL, kill1, kill1L, kill, kills, killO, killOs, bin, binI, binS, binB, eq1, eqB, lit, sameK, kn, unI, mxA, mnA, mkAgg, fits, partN, partA, resN, retV, allVal, isVal, allCell, isCell, okVal, okCell, cellsOf, fillN, rowsN, cellsN, bnd, lohi, offAt, overL, segL, leave, NodeOK, List.cons_append, List.nil_append, List.append_nil, catA, anys, lenA]))
  ((repeat (with_reducible refine And.intro ?_ ?_; focus (simp; done))); refine ⟨[], rfl, _, _, ?_, ?_, rfl, rfl⟩ <;> simp [Wk, mtc, mtcS, mtcSL, mtc0, mtc0L, mtcL, mtcO, mtcOs, cutM, takeE, stA, rl, renV, renL, ren1, ren1L, ren, rens, renO, Nat.blt, lenO, getO, setO, setL, anys, okS, endM, endH, idxN, takeE, pickE, catO, rl, renV, renL, ren1, ren1L, ren, rens, renO, Nat.blt, lenO, getO, setO, setL, anys, u8s])
def fineB (x : Nat) : Bool := decide (1 ≤ x ∧ x ≤ 127)
theorem fine_c (x : Nat) : ACalls Try.prog 52 [.int .u64 (x : Int)] [] (fun r hs => r = .bool (fineB x) ∧ hs = []) := by
  refine acalls_weak (acalls_of (fn := Try.f52) (A := a52) Try.func52 ok_52 en_52 ?_)
  dsimp only [a52, u8s]
  (refine eval_sound 2000 _ _ _ ?_; simp (maxSteps := 1000000) only [ptrL, lenV, Bool.not_true, Bool.not_false, lookR, valOf, asGrow, jump, findA, restA, and, Nat.reduceAdd, Nat.reduceSub, Nat.reduceMul, Int.reduceToNat, eval, nf, nfO, opN, appTo, rowsV, getL, setL, getO, setO, snocO, lenO, putL, ev, evs, ifEq, killV, killL, kill1, kill1L, kill, kills, killO, killOs, bin, binI, binS, binB, eq1, eqB, lit, sameK, kn, unI, mxA, mnA, mkAgg, fits, partN, partA, resN, retV, allVal, isVal, allCell, isCell, okVal, okCell, cellsOf, fillN, rowsN, cellsN, bnd, lohi, offAt, overL, segL, leave, NodeOK, List.cons_append, List.nil_append, List.append_nil, catA, anys, lenA])
  refine ⟨fun h1 => ?_, fun h1 => ?_⟩
  · have h1 : x ≠ 0 := by simpa using h1
    have : fineB x = decide ((x : Int) ≤ 127) := by unfold fineB; exact decide_eq_decide.2 (by omega)
    ((repeat (with_reducible refine And.intro ?_ ?_; focus (simp; done))); refine ⟨[], rfl, _, _, ?_, ?_, rfl, rfl⟩ <;> simp [Wk, mtc, mtcS, mtcSL, mtc0, mtc0L, mtcL, mtcO, mtcOs, cutM, takeE, stA, rl, renV, renL, ren1, ren1L, ren, rens, renO, Nat.blt, lenO, getO, setO, setL, anys, okS, endM, endH, idxN, takeE, pickE, catO, rl, renV, renL, ren1, ren1L, ren, rens, renO, Nat.blt, lenO, getO, setO, setL, anys, this])
  · have h1 : x = 0 := by simpa using h1
    have : fineB x = false := by unfold fineB; simp; omega
    ((repeat (with_reducible refine And.intro ?_ ?_; focus (simp; done))); refine ⟨[], rfl, _, _, ?_, ?_, rfl, rfl⟩ <;> simp [Wk, mtc, mtcS, mtcSL, mtc0, mtc0L, mtcL, mtcO, mtcOs, cutM, takeE, stA, rl, renV, renL, ren1, ren1L, ren, rens, renO, Nat.blt, lenO, getO, setO, setL, anys, okS, endM, endH, idxN, takeE, pickE, catO, rl, renV, renL, ren1, ren1L, ren, rens, renO, Nat.blt, lenO, getO, setO, setL, anys, this])
def mayB (a b : Nat) : Bool := fineB b && (cnt 64 (a ^^^ b) == 1)
theorem may_c (a b : Nat) (ha : a < 18446744073709551616) (hb : b < 18446744073709551616) : ACalls Try.prog 17 [.int .u64 (a : Int), .int .u64 (b : Int)] [] (fun r hs => r = .bool (mayB a b) ∧ hs = []) := by
  have hf := fine_c b
  have hs := size_c (a ^^^ b) (show a ^^^ b < 2 ^ 64 from Nat.xor_lt_two_pow ha hb)
  refine acalls_weak (acalls_of (fn := Try.f17) (A := a17) Try.func17 ok_17 en_17 ?_)
  dsimp only [a17, u8s]
  (refine eval_sound 2000 _ _ _ ?_; simp (maxSteps := 1000000) only [ptrL, lenV, Bool.not_true, Bool.not_false, lookR, valOf, asGrow, jump, findA, restA, and, Nat.reduceAdd, Nat.reduceSub, Nat.reduceMul, Int.reduceToNat, eval, nf, nfO, opN, appTo, rowsV, getL, setL, getO, setO, snocO, lenO, putL, ev, evs, ifEq, killV, killL, kill1, kill1L, kill, kills, killO, killOs, bin, binI, binS, binB, eq1, eqB, lit, sameK, kn, unI, mxA, mnA, mkAgg, fits, partN, partA, resN, retV, allVal, isVal, allCell, isCell, okVal, okCell, cellsOf, fillN, rowsN, cellsN, bnd, lohi, offAt, overL, segL, leave, NodeOK, List.cons_append, List.nil_append, List.append_nil, catA, anys, lenA])
  ((repeat (with_reducible refine And.intro ?_ ?_; focus (simp; done))); refine aw_call (hf) [] rfl (by simp [upM, nthN, matchO, rens, ren, ren1, ren1L, renL, renV, renO, rl, lenO, getO, Nat.blt, mtc, mtcS, mtcSL, mtc0, mtc0L]) rfl (by simp [upM, nthN, matchO, rens, ren, ren1, ren1L, renL, renV, renO, rl, lenO, getO, Nat.blt, mtc, mtcS, mtcSL, mtc0, mtc0L]) rfl (fun r hs hp hl => ?_); obtain ⟨rfl, rfl⟩ := hp; simp only [snocO, upM, nthN, putAll, snocAll, killsA, killOsA, grows, putL, rl, renV, renL, ren1, ren1L, ren, rens, renO, Nat.blt, lenO, getO, setO, setL, anys]; (refine eval_sound 2000 _ _ _ ?_; simp (maxSteps := 1000000) only [ptrL, lenV, Bool.not_true, Bool.not_false, lookR, valOf, asGrow, jump, findA, restA, and, Nat.reduceAdd, Nat.reduceSub, Nat.reduceMul, Int.reduceToNat, eval, nf, nfO, opN, appTo, rowsV, getL, setL, getO, setO, snocO, lenO, putL, ev, evs, ifEq, killV, killL, kill1, kill1L, kill, kills, killO, killOs, bin, binI, binS, binB, eq1, eqB, lit, sameK, kn, unI, mxA, mnA, mkAgg, fits, partN, partA, resN, retV, allVal, isVal, allCell, isCell, okVal, okCell, cellsOf, fillN, rowsN, cellsN, bnd, lohi, offAt, overL, segL, leave, NodeOK, List.cons_append, List.nil_append, List.append_nil, catA, anys, lenA]))
  rw [xorN ha hb]
  refine ⟨fun h1 => ?_, fun h1 => ?_⟩
  · ((repeat (with_reducible refine And.intro ?_ ?_; focus (simp; done))); refine aw_call (hs) [] rfl (by simp [upM, nthN, matchO, rens, ren, ren1, ren1L, renL, renV, renO, rl, lenO, getO, Nat.blt, mtc, mtcS, mtcSL, mtc0, mtc0L]) rfl (by simp [upM, nthN, matchO, rens, ren, ren1, ren1L, renL, renV, renO, rl, lenO, getO, Nat.blt, mtc, mtcS, mtcSL, mtc0, mtc0L]) rfl (fun r hs hp hl => ?_); obtain ⟨rfl, rfl⟩ := hp; simp only [snocO, upM, nthN, putAll, snocAll, killsA, killOsA, grows, putL, rl, renV, renL, ren1, ren1L, ren, rens, renO, Nat.blt, lenO, getO, setO, setL, anys]; (refine eval_sound 2000 _ _ _ ?_; simp (maxSteps := 1000000) only [ptrL, lenV, Bool.not_true, Bool.not_false, lookR, valOf, asGrow, jump, findA, restA, and, Nat.reduceAdd, Nat.reduceSub, Nat.reduceMul, Int.reduceToNat, eval, nf, nfO, opN, appTo, rowsV, getL, setL, getO, setO, snocO, lenO, putL, ev, evs, ifEq, killV, killL, kill1, kill1L, kill, kills, killO, killOs, bin, binI, binS, binB, eq1, eqB, lit, sameK, kn, unI, mxA, mnA, mkAgg, fits, partN, partA, resN, retV, allVal, isVal, allCell, isCell, okVal, okCell, cellsOf, fillN, rowsN, cellsN, bnd, lohi, offAt, overL, segL, leave, NodeOK, List.cons_append, List.nil_append, List.append_nil, catA, anys, lenA]))
    have : mayB a b = (((cnt 64 (a ^^^ b) : Nat) : Int) == 1) := by
      unfold mayB
      rw [h1, Bool.true_and, Bool.eq_iff_iff, beq_iff_eq, beq_iff_eq]
      omega
    ((repeat (with_reducible refine And.intro ?_ ?_; focus (simp; done))); refine ⟨[], rfl, _, _, ?_, ?_, rfl, rfl⟩ <;> simp [Wk, mtc, mtcS, mtcSL, mtc0, mtc0L, mtcL, mtcO, mtcOs, cutM, takeE, stA, rl, renV, renL, ren1, ren1L, ren, rens, renO, Nat.blt, lenO, getO, setO, setL, anys, okS, endM, endH, idxN, takeE, pickE, catO, rl, renV, renL, ren1, ren1L, ren, rens, renO, Nat.blt, lenO, getO, setO, setL, anys, this])
  · have : mayB a b = false := by unfold mayB; rw [h1]; rfl
    ((repeat (with_reducible refine And.intro ?_ ?_; focus (simp; done))); refine ⟨[], rfl, _, _, ?_, ?_, rfl, rfl⟩ <;> simp [Wk, mtc, mtcS, mtcSL, mtc0, mtc0L, mtcL, mtcO, mtcOs, cutM, takeE, stA, rl, renV, renL, ren1, ren1L, ren, rens, renO, Nat.blt, lenO, getO, setO, setL, anys, okS, endM, endH, idxN, takeE, pickE, catO, rl, renV, renL, ren1, ren1L, ren, rens, renO, Nat.blt, lenO, getO, setO, setL, anys, this])
def withV (n : Int) : Nat := if 0 ≤ n ∧ n < 64 then 2 ^ n.toNat else 0
theorem with_c (n : Int) : ACalls Try.prog 54 [.int .u64 0, .ro 1 [[.int .i64 n]]] [] (fun r hs => r = .int .u64 (withV n : Nat) ∧ hs = []) := by
  refine acalls_weak (acalls_of (fn := Try.f54) (A := a54) Try.func54 ok_54 en_54 ?_)
  dsimp only [a54, u8s]
  (refine eval_sound 2000 _ _ _ ?_; simp (maxSteps := 1000000) only [ptrL, lenV, Bool.not_true, Bool.not_false, lookR, valOf, asGrow, jump, findA, restA, and, Nat.reduceAdd, Nat.reduceSub, Nat.reduceMul, Int.reduceToNat, eval, nf, nfO, opN, appTo, rowsV, getL, setL, getO, setO, snocO, lenO, putL, ev, evs, ifEq, killV, killL, kill1, kill1L, kill, kills, killO, killOs, bin, binI, binS, binB, eq1, eqB, lit, sameK, kn, unI, mxA, mnA, mkAgg, fits, partN, partA, resN, retV, allVal, isVal, allCell, isCell, okVal, okCell, cellsOf, fillN, rowsN, cellsN, bnd, lohi, offAt, overL, segL, leave, NodeOK, List.cons_append, List.nil_append, List.append_nil, catA, anys, lenA])
  refine aw_loopU (α := Nat) (fun k => k ≤ 1) (fun k => [(9, .int .i64 (k : Nat)), (0, .int .u64 (if k = 0 then 0 else withV n : Nat))]) (fun k => []) (fun k => 1 - k) (0) (Nat.zero_le _) ?_ fun x hx => ?_
  · (simp only [wrC, wrOs, keepT, memN, setsL, setsO, setL, setO, snocO, List.cons_append, List.nil_append, List.append_nil, Nat.reduceAdd, Nat.zero_add, Wk, mtc, mtcS, mtcSL, mtc0, mtc0L, mtcL, mtcO, mtcOs, cutM, takeE, stA, rl, renV, renL, ren1, ren1L, ren, rens, renO, Nat.blt, lenO, getO, setO, setL, anys, u8s]; simp [u8s])
  (simp only [wrC, wrOs, keepT, memN, setsL, setsO, setL, setO, snocO, List.cons_append, List.nil_append, List.append_nil, Nat.reduceAdd, Nat.zero_add, u8s]; (refine eval_sound 2000 _ _ _ ?_; simp (maxSteps := 1000000) only [ptrL, lenV, Bool.not_true, Bool.not_false, lookR, valOf, asGrow, jump, findA, restA, and, Nat.reduceAdd, Nat.reduceSub, Nat.reduceMul, Int.reduceToNat, eval, nf, nfO, opN, appTo, rowsV, getL, setL, getO, setO, snocO, lenO, putL, ev, evs, ifEq, killV, killL, kill1, kill1L, kill, kills, killO, killOs, bin, binI, binS, binB, eq1, eqB, lit, sameK, kn, unI, mxA, mnA, mkAgg, fits, partN, partA, resN, retV, allVal, isVal, allCell, isCell, okVal, okCell, cellsOf, fillN, rowsN, cellsN, bnd, lohi, offAt, overL, segL, leave, NodeOK, List.cons_append, List.nil_append, List.append_nil, catA, anys, lenA]))
  simp only [decide_eq_true_eq, decide_eq_false_iff_not, List.length_cons, List.length_nil]
  refine ⟨fun h1 => ?_, fun h1 => ?_⟩
  · have : x = 0 := by omega
    subst this
    refine ⟨by omega, [.int .i64 n], rfl, ?_⟩
    (refine eval_sound 2000 _ _ _ ?_; simp (maxSteps := 1000000) only [ptrL, lenV, Bool.not_true, Bool.not_false, lookR, valOf, asGrow, jump, findA, restA, and, Nat.reduceAdd, Nat.reduceSub, Nat.reduceMul, Int.reduceToNat, eval, nf, nfO, opN, appTo, rowsV, getL, setL, getO, setO, snocO, lenO, putL, ev, evs, ifEq, killV, killL, kill1, kill1L, kill, kills, killO, killOs, bin, binI, binS, binB, eq1, eqB, lit, sameK, kn, unI, mxA, mnA, mkAgg, fits, partN, partA, resN, retV, allVal, isVal, allCell, isCell, okVal, okCell, cellsOf, fillN, rowsN, cellsN, bnd, lohi, offAt, overL, segL, leave, NodeOK, List.cons_append, List.nil_append, List.append_nil, catA, anys, lenA])
    simp only [decide_eq_true_eq, decide_eq_false_iff_not]
    have w1 : IntKind.i64.wrap (((0 : Nat) : Int) + 1) = ((1 : Nat) : Int) := by decide
    rw [w1]
    refine ⟨fun h2 => ⟨fun h3 => ⟨by omega, 1, by omega, by omega, ?_⟩, fun h3 => ⟨1, by omega, by omega, ?_⟩⟩, fun h2 => ⟨1, by omega, by omega, ?_⟩⟩
    · have hw : withV n = 1 <<< n.toNat := by unfold withV; rw [if_pos ⟨h2, h3⟩, Nat.one_shiftLeft]
      have hs := shl1N n.toNat (by omega)
      rw [Int.toNat_natCast] at hs
      have hp : 1 <<< n.toNat < 18446744073709551616 := by
        rw [Nat.one_shiftLeft]; exact Nat.pow_lt_pow_right (a := 2) (n := 64) (by omega) (by omega)
      have ho := orN (a := 0) (b := 1 <<< n.toNat) (by omega) hp
      rw [Nat.zero_or] at ho
      simp only [if_true]
      rw [hs, ho, show (1 : Nat) = 0 + 1 from rfl]
      simp only [Nat.add_eq_zero_iff, Nat.one_ne_zero, and_false, if_false]
      rw [hw]
      (simp only [wrC, wrOs, keepT, memN, setsL, setsO, setL, setO, snocO, List.cons_append, List.nil_append, List.append_nil, Nat.reduceAdd, Nat.zero_add, Wk, mtc, mtcS, mtcSL, mtc0, mtc0L, mtcL, mtcO, mtcOs, cutM, takeE, stA, rl, renV, renL, ren1, ren1L, ren, rens, renO, Nat.blt, lenO, getO, setO, setL, anys, u8s]; simp [u8s])
    · have hw : withV n = 0 := by unfold withV; rw [if_neg (by omega)]
      rw [hw]
      (simp only [wrC, wrOs, keepT, memN, setsL, setsO, setL, setO, snocO, List.cons_append, List.nil_append, List.append_nil, Nat.reduceAdd, Nat.zero_add, Wk, mtc, mtcS, mtcSL, mtc0, mtc0L, mtcL, mtcO, mtcOs, cutM, takeE, stA, rl, renV, renL, ren1, ren1L, ren, rens, renO, Nat.blt, lenO, getO, setO, setL, anys, u8s]; simp [u8s])
    · have hw : withV n = 0 := by unfold withV; rw [if_neg (by omega)]
      rw [hw]
      (simp only [wrC, wrOs, keepT, memN, setsL, setsO, setL, setO, snocO, List.cons_append, List.nil_append, List.append_nil, Nat.reduceAdd, Nat.zero_add, Wk, mtc, mtcS, mtcSL, mtc0, mtc0L, mtcL, mtcO, mtcOs, cutM, takeE, stA, rl, renV, renL, ren1, ren1L, ren, rens, renO, Nat.blt, lenO, getO, setO, setL, anys, u8s]; simp [u8s])
  · have : x = 1 := by omega
    subst this
    ((repeat (with_reducible refine And.intro ?_ ?_; focus (simp; done))); refine ⟨[], rfl, _, _, ?_, ?_, rfl, rfl⟩ <;> simp [Wk, mtc, mtcS, mtcSL, mtc0, mtc0L, mtcL, mtcO, mtcOs, cutM, takeE, stA, rl, renV, renL, ren1, ren1L, ren, rens, renO, Nat.blt, lenO, getO, setO, setL, anys, okS, endM, endH, idxN, takeE, pickE, catO, rl, renV, renL, ren1, ren1L, ren, rens, renO, Nat.blt, lenO, getO, setO, setL, anys, u8s])
theorem bs_eq (s t : ByteArray) : (s == t) = decide (s = t) := by
  cases s with | mk a =>
  cases t with | mk b =>
  show (a == b) = _
  rw [Bool.eq_iff_iff]
  simp
def itM (t k : Int) (s : ByteArray) : AV := .arr [.int .u64 t, .int .i64 k, .str s]
def oneS (x : Nat) : ByteArray := ⟨#[UInt8.ofNat x]⟩
def emS : ByteArray := ⟨#[]⟩
theorem put1 (x : Nat) (h : x < 256) : putS [] 1 [(x : Int)] = [[.int .u8 (x : Int)]] := by
  have e : byteAt (x : Int) 0 = x := by
    rw [byteAt_eq _ (by omega) 0 (by omega)]
    simp
    omega
  unfold putS
  rw [if_neg (by omega)]
  simp [numS, e]
theorem str1 (x : Nat) (h : x < 256) : strOf [[.int .u8 (x : Int)]] = oneS x := by
  simp [strOf, byteOf, oneS]
def itemV (set : Nat) (term : Int) : AV := .tup [if fineB set = true then itM term 2 (oneS set) else itM 0 0 emS, .bool (fineB set)]
theorem item_c (set : Nat) (term : Int) : ACalls Try.prog 13 [.int .u64 (set : Int), .int .u64 term] [] (fun r hs => r = itemV set term ∧ hs = []) := by
  have hf := fine_c set
  refine acalls_weak (acalls_of (fn := Try.f13) (A := a13) Try.func13 ok_13 en_13 ?_)
  dsimp only [a13, u8s]
  (refine eval_sound 2000 _ _ _ ?_; simp (maxSteps := 1000000) only [ptrL, lenV, Bool.not_true, Bool.not_false, lookR, valOf, asGrow, jump, findA, restA, and, Nat.reduceAdd, Nat.reduceSub, Nat.reduceMul, Int.reduceToNat, eval, nf, nfO, opN, appTo, rowsV, getL, setL, getO, setO, snocO, lenO, putL, ev, evs, ifEq, killV, killL, kill1, kill1L, kill, kills, killO, killOs, bin, binI, binS, binB, eq1, eqB, lit, sameK, kn, unI, mxA, mnA, mkAgg, fits, partN, partA, resN, retV, allVal, isVal, allCell, isCell, okVal, okCell, cellsOf, fillN, rowsN, cellsN, bnd, lohi, offAt, overL, segL, leave, NodeOK, List.cons_append, List.nil_append, List.append_nil, catA, anys, lenA])
  ((repeat (with_reducible refine And.intro ?_ ?_; focus (simp; done))); refine aw_call (hf) [] rfl (by simp [upM, nthN, matchO, rens, ren, ren1, ren1L, renL, renV, renO, rl, lenO, getO, Nat.blt, mtc, mtcS, mtcSL, mtc0, mtc0L]) rfl (by simp [upM, nthN, matchO, rens, ren, ren1, ren1L, renL, renV, renO, rl, lenO, getO, Nat.blt, mtc, mtcS, mtcSL, mtc0, mtc0L]) rfl (fun r hs hp hl => ?_); obtain ⟨rfl, rfl⟩ := hp; simp only [snocO, upM, nthN, putAll, snocAll, killsA, killOsA, grows, putL, rl, renV, renL, ren1, ren1L, ren, rens, renO, Nat.blt, lenO, getO, setO, setL, anys]; (refine eval_sound 2000 _ _ _ ?_; simp (maxSteps := 1000000) only [ptrL, lenV, Bool.not_true, Bool.not_false, lookR, valOf, asGrow, jump, findA, restA, and, Nat.reduceAdd, Nat.reduceSub, Nat.reduceMul, Int.reduceToNat, eval, nf, nfO, opN, appTo, rowsV, getL, setL, getO, setO, snocO, lenO, putL, ev, evs, ifEq, killV, killL, kill1, kill1L, kill, kills, killO, killOs, bin, binI, binS, binB, eq1, eqB, lit, sameK, kn, unI, mxA, mnA, mkAgg, fits, partN, partA, resN, retV, allVal, isVal, allCell, isCell, okVal, okCell, cellsOf, fillN, rowsN, cellsN, bnd, lohi, offAt, overL, segL, leave, NodeOK, List.cons_append, List.nil_append, List.append_nil, catA, anys, lenA]))
  refine ⟨fun h1 => ?_, fun h1 => ?_⟩
  · have : fineB set = false := by simpa using h1
    ((repeat (with_reducible refine And.intro ?_ ?_; focus (simp; done))); refine ⟨[], rfl, _, _, ?_, ?_, rfl, rfl⟩ <;> simp [Wk, mtc, mtcS, mtcSL, mtc0, mtc0L, mtcL, mtcO, mtcOs, cutM, takeE, stA, rl, renV, renL, ren1, ren1L, ren, rens, renO, Nat.blt, lenO, getO, setO, setL, anys, okS, endM, endH, idxN, takeE, pickE, catO, rl, renV, renL, ren1, ren1L, ren, rens, renO, Nat.blt, lenO, getO, setO, setL, anys, itemV, this, itM, emS])
  · have h2 : fineB set = true := by simpa using h1
    have h3 : set ≤ 127 := by simp [fineB] at h2; omega
    (refine acall_trans (trans_frz 1 _ _ _ rfl) ?_; simp only [snocO, mapA, frz, frz1, frzV, mapO, frzO, ifEq, setO, getO, getL, setL])
    refine acall_args [.ro 1 (u8s []), .int .i64 1, .ro 1 (u64s [(set : Int)])] (by simp [mtc, mtc0, mtcL, u8s, u64s]) ?_
    have hP := put_calls (u8s []) 1 [(set : Int)] (by simp [u8s])
    rw [show u8s [] = [] from rfl, put1 set (by omega)] at hP
    ((repeat (with_reducible refine And.intro ?_ ?_; focus (simp; done))); refine aw_call (hP) [] rfl (by simp [upM, nthN, matchO, rens, ren, ren1, ren1L, renL, renV, renO, rl, lenO, getO, Nat.blt, mtc, mtcS, mtcSL, mtc0, mtc0L, u8s]) rfl (by simp [upM, nthN, matchO, rens, ren, ren1, ren1L, renL, renV, renO, rl, lenO, getO, Nat.blt, mtc, mtcS, mtcSL, mtc0, mtc0L, u8s]) rfl (fun r hs hp hl => ?_); obtain ⟨rfl, rfl⟩ := hp; simp only [snocO, upM, nthN, putAll, snocAll, killsA, killOsA, grows, putL, rl, renV, renL, ren1, ren1L, ren, rens, renO, Nat.blt, lenO, getO, setO, setL, anys, u8s]; (refine eval_sound 2000 _ _ _ ?_; simp (maxSteps := 1000000) only [ptrL, lenV, Bool.not_true, Bool.not_false, lookR, valOf, asGrow, jump, findA, restA, and, Nat.reduceAdd, Nat.reduceSub, Nat.reduceMul, Int.reduceToNat, eval, nf, nfO, opN, appTo, rowsV, getL, setL, getO, setO, snocO, lenO, putL, ev, evs, ifEq, killV, killL, kill1, kill1L, kill, kills, killO, killOs, bin, binI, binS, binB, eq1, eqB, lit, sameK, kn, unI, mxA, mnA, mkAgg, fits, partN, partA, resN, retV, allVal, isVal, allCell, isCell, okVal, okCell, cellsOf, fillN, rowsN, cellsN, bnd, lohi, offAt, overL, segL, leave, NodeOK, List.cons_append, List.nil_append, List.append_nil, catA, anys, lenA]))
    rw [str1 set (by omega)]
    refine ⟨fun row h => ?_, by simp, ?_⟩
    · simp at h; exact ⟨_, h⟩
    · have e : itemV set term = .tup [itM term 2 (oneS set), .bool true] := by unfold itemV; rw [if_pos h2, h2]
      rw [e]
      ((repeat (with_reducible refine And.intro ?_ ?_; focus (simp; done))); refine ⟨[], rfl, _, _, ?_, ?_, rfl, rfl⟩ <;> simp [Wk, mtc, mtcS, mtcSL, mtc0, mtc0L, mtcL, mtcO, mtcOs, cutM, takeE, stA, rl, renV, renL, ren1, ren1L, ren, rens, renO, Nat.blt, lenO, getO, setO, setL, anys, okS, endM, endH, idxN, takeE, pickE, catO, rl, renV, renL, ren1, ren1L, ren, rens, renO, Nat.blt, lenO, getO, setO, setL, anys, itM])
def ofB (k : Int) (s : ByteArray) : Bool := decide (k = 2 ∧ s.size = 1 ∧ 1 ≤ bt s 0 ∧ bt s 0 ≤ 127)
def ofW (k : Int) (s : ByteArray) : AV := .tup [.int .u64 (if ofB k s = true then bt s 0 else 0 : Nat), .bool (ofB k s)]
theorem rof_c (t k : Int) (s : ByteArray) : ACalls Try.prog 12 [itM t k s] [] (fun r hs => r = ofW k s ∧ hs = []) := by
  refine acalls_weak (acalls_of (fn := Try.f12) (A := a12) Try.func12 ok_12 en_12 ?_)
  dsimp only [a12, itM]
  (refine eval_sound 2000 _ _ _ ?_; simp (maxSteps := 1000000) only [ptrL, lenV, Bool.not_true, Bool.not_false, lookR, valOf, asGrow, jump, findA, restA, and, Nat.reduceAdd, Nat.reduceSub, Nat.reduceMul, Int.reduceToNat, eval, nf, nfO, opN, appTo, rowsV, getL, setL, getO, setO, snocO, lenO, putL, ev, evs, ifEq, killV, killL, kill1, kill1L, kill, kills, killO, killOs, bin, binI, binS, binB, eq1, eqB, lit, sameK, kn, unI, mxA, mnA, mkAgg, fits, partN, partA, resN, retV, allVal, isVal, allCell, isCell, okVal, okCell, cellsOf, fillN, rowsN, cellsN, bnd, lohi, offAt, overL, segL, leave, NodeOK, List.cons_append, List.nil_append, List.append_nil, catA, anys, lenA])
  simp only [decide_eq_true_eq, decide_eq_false_iff_not]
  have no : ofB k s = false → ofW k s = .tup [.int .u64 0, .bool false] := fun h => by unfold ofW; rw [h]; rfl
  have b8 : bt s (Int.toNat 0) = bt s 0 := rfl
  try rw [b8]
  have hlt : bt s 0 < 256 := by unfold bt; exact UInt8.toNat_lt _
  refine ⟨fun h1 => ?_, fun h1 => ⟨fun h2 => ?_, fun h2 => ?_⟩⟩
  · have h1 : ¬ k = 2 := by simpa using h1
    rw [no (by simp [ofB, h1])]
    ((repeat (with_reducible refine And.intro ?_ ?_; focus (simp; done))); refine ⟨[], rfl, _, _, ?_, ?_, rfl, rfl⟩ <;> simp [Wk, mtc, mtcS, mtcSL, mtc0, mtc0L, mtcL, mtcO, mtcOs, cutM, takeE, stA, rl, renV, renL, ren1, ren1L, ren, rens, renO, Nat.blt, lenO, getO, setO, setL, anys, okS, endM, endH, idxN, takeE, pickE, catO, rl, renV, renL, ren1, ren1L, ren, rens, renO, Nat.blt, lenO, getO, setO, setL, anys, itM])
  · have h2 : ¬ s.size = 1 := by simp at h2; omega
    rw [no (by simp [ofB]; intro _ h; exact absurd h h2)]
    ((repeat (with_reducible refine And.intro ?_ ?_; focus (simp; done))); refine ⟨[], rfl, _, _, ?_, ?_, rfl, rfl⟩ <;> simp [Wk, mtc, mtcS, mtcSL, mtc0, mtc0L, mtcL, mtcO, mtcOs, cutM, takeE, stA, rl, renV, renL, ren1, ren1L, ren, rens, renO, Nat.blt, lenO, getO, setO, setL, anys, okS, endM, endH, idxN, takeE, pickE, catO, rl, renV, renL, ren1, ren1L, ren, rens, renO, Nat.blt, lenO, getO, setO, setL, anys, itM])
  · have h1 : k = 2 := by simpa using h1
    have h2 : s.size = 1 := by simp at h2; omega
    refine ⟨⟨by omega, by omega⟩, fun h3 => ?_, fun h3 => ⟨⟨by omega, by omega⟩, fun h4 => ?_, fun h4 => ⟨⟨by omega, by omega⟩, ?_⟩⟩⟩
    · have h3 : bt s 0 = 0 := by simpa using h3
      rw [no (by simp [ofB, h3])]
      ((repeat (with_reducible refine And.intro ?_ ?_; focus (simp; done))); refine ⟨[], rfl, _, _, ?_, ?_, rfl, rfl⟩ <;> simp [Wk, mtc, mtcS, mtcSL, mtc0, mtc0L, mtcL, mtcO, mtcOs, cutM, takeE, stA, rl, renV, renL, ren1, ren1L, ren, rens, renO, Nat.blt, lenO, getO, setO, setL, anys, okS, endM, endH, idxN, takeE, pickE, catO, rl, renV, renL, ren1, ren1L, ren, rens, renO, Nat.blt, lenO, getO, setO, setL, anys, itM])
    · rw [no (by simp [ofB]; intros; omega)]
      ((repeat (with_reducible refine And.intro ?_ ?_; focus (simp; done))); refine ⟨[], rfl, _, _, ?_, ?_, rfl, rfl⟩ <;> simp [Wk, mtc, mtcS, mtcSL, mtc0, mtc0L, mtcL, mtcO, mtcOs, cutM, takeE, stA, rl, renV, renL, ren1, ren1L, ren, rens, renO, Nat.blt, lenO, getO, setO, setL, anys, okS, endM, endH, idxN, takeE, pickE, catO, rl, renV, renL, ren1, ren1L, ren, rens, renO, Nat.blt, lenO, getO, setO, setL, anys, itM])
    · have h3 : ¬ bt s 0 = 0 := by simpa using h3
      have e : ofB k s = true := by simp [ofB, h1, h2]; omega
      have e2 : ofW k s = .tup [.int .u64 (bt s 0 : Nat), .bool true] := by unfold ofW; rw [if_pos e, e]
      rw [e2, wruN (n := bt s 0) (by omega)]
      ((repeat (with_reducible refine And.intro ?_ ?_; focus (simp; done))); refine ⟨[], rfl, _, _, ?_, ?_, rfl, rfl⟩ <;> simp [Wk, mtc, mtcS, mtcSL, mtc0, mtc0L, mtcL, mtcO, mtcOs, cutM, takeE, stA, rl, renV, renL, ren1, ren1L, ren, rens, renO, Nat.blt, lenO, getO, setO, setL, anys, okS, endM, endH, idxN, takeE, pickE, catO, rl, renV, renL, ren1, ren1L, ren, rens, renO, Nat.blt, lenO, getO, setO, setL, anys, itM])
theorem bytesOf_u8s (s : ByteArray) : bytesOf s = u8s (s.data.toList.map fun b => (b.toNat : Int)) := by simp [bytesOf, u8s]
theorem one_of (s : ByteArray) (h : s.size = 1) : s = oneS (bt s 0) ∧ s.data.toList.map (fun b => (b.toNat : Int)) = [(bt s 0 : Int)] := by
  obtain ⟨⟨l⟩⟩ := s
  match l, h with
  | [a], _ => simp [bt, oneS]
theorem of_c (t k : Int) (s : ByteArray) : ACalls Try.prog 11 [itM t k s] [] (fun r hs => r = ofW k s ∧ hs = []) := by
  refine acalls_weak (acalls_of (fn := Try.f11) (A := a11) Try.func11 ok_11 en_11 ?_)
  dsimp only [a11, itM]
  (refine eval_sound 2000 _ _ _ ?_; simp (maxSteps := 1000000) only [ptrL, lenV, Bool.not_true, Bool.not_false, lookR, valOf, asGrow, jump, findA, restA, and, Nat.reduceAdd, Nat.reduceSub, Nat.reduceMul, Int.reduceToNat, eval, nf, nfO, opN, appTo, rowsV, getL, setL, getO, setO, snocO, lenO, putL, ev, evs, ifEq, killV, killL, kill1, kill1L, kill, kills, killO, killOs, bin, binI, binS, binB, eq1, eqB, lit, sameK, kn, unI, mxA, mnA, mkAgg, fits, partN, partA, resN, retV, allVal, isVal, allCell, isCell, okVal, okCell, cellsOf, fillN, rowsN, cellsN, bnd, lohi, offAt, overL, segL, leave, NodeOK, List.cons_append, List.nil_append, List.append_nil, catA, anys, lenA])
  have no : ofB k s = false → ofW k s = .tup [.int .u64 0, .bool false] := fun h => by unfold ofW; rw [h]; rfl
  have hlt : bt s 0 < 256 := by unfold bt; exact UInt8.toNat_lt _
  refine ⟨fun h1 => ?_, fun h1 => ⟨fun h2 => ?_, fun h2 => ?_⟩⟩
  · have h1 : ¬ k = 2 := by simpa using h1
    rw [no (by simp [ofB, h1])]
    ((repeat (with_reducible refine And.intro ?_ ?_; focus (simp; done))); refine ⟨[], rfl, _, _, ?_, ?_, rfl, rfl⟩ <;> simp [Wk, mtc, mtcS, mtcSL, mtc0, mtc0L, mtcL, mtcO, mtcOs, cutM, takeE, stA, rl, renV, renL, ren1, ren1L, ren, rens, renO, Nat.blt, lenO, getO, setO, setL, anys, okS, endM, endH, idxN, takeE, pickE, catO, rl, renV, renL, ren1, ren1L, ren, rens, renO, Nat.blt, lenO, getO, setO, setL, anys, itM])
  · have h2 : ¬ s.size = 1 := by simp at h2; omega
    rw [no (by simp [ofB]; intro _ h; exact absurd h h2)]
    ((repeat (with_reducible refine And.intro ?_ ?_; focus (simp; done))); refine ⟨[], rfl, _, _, ?_, ?_, rfl, rfl⟩ <;> simp [Wk, mtc, mtcS, mtcSL, mtc0, mtc0L, mtcL, mtcO, mtcOs, cutM, takeE, stA, rl, renV, renL, ren1, ren1L, ren, rens, renO, Nat.blt, lenO, getO, setO, setL, anys, okS, endM, endH, idxN, takeE, pickE, catO, rl, renV, renL, ren1, ren1L, ren, rens, renO, Nat.blt, lenO, getO, setO, setL, anys, itM])
  · have h1 : k = 2 := by simpa using h1
    have h2 : s.size = 1 := by simp at h2; omega
    obtain ⟨o1, o2⟩ := one_of s h2
    rw [bytesOf_u8s, o2]
    generalize hb : bt s 0 = x at *
    (refine acall_trans (trans_frz 1 _ _ _ rfl) ?_; simp only [snocO, mapA, frz, frz1, frzV, mapO, frzO, ifEq, setO, getO, getL, setL])
    have hR := read_ [(x : Int)]
    ((repeat (with_reducible refine And.intro ?_ ?_; focus (simp; done))); refine aw_call (hR) [] rfl (by simp [upM, nthN, matchO, rens, ren, ren1, ren1L, renL, renV, renO, rl, lenO, getO, Nat.blt, mtc, mtcS, mtcSL, mtc0, mtc0L, rdO]) rfl (by simp [upM, nthN, matchO, rens, ren, ren1, ren1L, renL, renV, renO, rl, lenO, getO, Nat.blt, mtc, mtcS, mtcSL, mtc0, mtc0L, rdO]) rfl (fun r hs hp hl => ?_); obtain ⟨rfl, rfl⟩ := hp; simp only [snocO, upM, nthN, putAll, snocAll, killsA, killOsA, grows, putL, rl, renV, renL, ren1, ren1L, ren, rens, renO, Nat.blt, lenO, getO, setO, setL, anys, rdO]; (refine eval_sound 2000 _ _ _ ?_; simp (maxSteps := 1000000) only [ptrL, lenV, Bool.not_true, Bool.not_false, lookR, valOf, asGrow, jump, findA, restA, and, Nat.reduceAdd, Nat.reduceSub, Nat.reduceMul, Int.reduceToNat, eval, nf, nfO, opN, appTo, rowsV, getL, setL, getO, setO, snocO, lenO, putL, ev, evs, ifEq, killV, killL, kill1, kill1L, kill, kills, killO, killOs, bin, binI, binS, binB, eq1, eqB, lit, sameK, kn, unI, mxA, mnA, mkAgg, fits, partN, partA, resN, retV, allVal, isVal, allCell, isCell, okVal, okCell, cellsOf, fillN, rowsN, cellsN, bnd, lohi, offAt, overL, segL, leave, NodeOK, List.cons_append, List.nil_append, List.append_nil, catA, anys, lenA]))
    have hN := num_c [(x : Int)] false 1
    have hv : numV [(x : Int)] false 1 = ((x : Int), [], false) := by
      have := numV_num (x : Int) 1 (by omega) (by omega) (by omega) []
      have e : numI (x : Int) 1 = [(x : Int)] := by
        have e : byteAt (x : Int) 0 = x := by
          rw [byteAt_eq _ (by omega) 0 (by omega)]
          simp
          omega
        simp [numI, e]
      rw [e] at this
      exact this
    rw [hv] at hN
    ((repeat (with_reducible refine And.intro ?_ ?_; focus (simp; done))); refine aw_call (hN) [2] rfl (by simp [upM, nthN, matchO, rens, ren, ren1, ren1L, renL, renV, renO, rl, lenO, getO, Nat.blt, mtc, mtcS, mtcSL, mtc0, mtc0L, rdO]) rfl (by simp [upM, nthN, matchO, rens, ren, ren1, ren1L, renL, renV, renO, rl, lenO, getO, Nat.blt, mtc, mtcS, mtcSL, mtc0, mtc0L, rdO]) rfl (fun r hs hp hl => ?_); obtain ⟨rfl, rfl⟩ := hp; simp only [snocO, upM, nthN, putAll, snocAll, killsA, killOsA, grows, putL, rl, renV, renL, ren1, ren1L, ren, rens, renO, Nat.blt, lenO, getO, setO, setL, anys, rdO]; (refine eval_sound 2000 _ _ _ ?_; simp (maxSteps := 1000000) only [ptrL, lenV, Bool.not_true, Bool.not_false, lookR, valOf, asGrow, jump, findA, restA, and, Nat.reduceAdd, Nat.reduceSub, Nat.reduceMul, Int.reduceToNat, eval, nf, nfO, opN, appTo, rowsV, getL, setL, getO, setO, snocO, lenO, putL, ev, evs, ifEq, killV, killL, kill1, kill1L, kill, kills, killO, killOs, bin, binI, binS, binB, eq1, eqB, lit, sameK, kn, unI, mxA, mnA, mkAgg, fits, partN, partA, resN, retV, allVal, isVal, allCell, isCell, okVal, okCell, cellsOf, fillN, rowsN, cellsN, bnd, lohi, offAt, overL, segL, leave, NodeOK, List.cons_append, List.nil_append, List.append_nil, catA, anys, lenA]))
    have hI := item_c x t
    cases hf : fineB x with
    | false =>
      have e : itemV x t = .tup [itM 0 0 emS, .bool false] := by unfold itemV; rw [hf]; rfl
      rw [e] at hI
      have hn : ofB k s = false := by
        have : ¬ (1 ≤ x ∧ x ≤ 127) := by simpa [fineB] using hf
        simp only [ofB, hb, decide_eq_false_iff_not]
        omega
      rw [no hn]
      ((repeat (with_reducible refine And.intro ?_ ?_; focus (simp; done))); refine aw_call (hI) [] rfl (by simp [upM, nthN, matchO, rens, ren, ren1, ren1L, renL, renV, renO, rl, lenO, getO, Nat.blt, mtc, mtcS, mtcSL, mtc0, mtc0L, itM, emS]) rfl (by simp [upM, nthN, matchO, rens, ren, ren1, ren1L, renL, renV, renO, rl, lenO, getO, Nat.blt, mtc, mtcS, mtcSL, mtc0, mtc0L, itM, emS]) rfl (fun r hs hp hl => ?_); obtain ⟨rfl, rfl⟩ := hp; simp only [snocO, upM, nthN, putAll, snocAll, killsA, killOsA, grows, putL, rl, renV, renL, ren1, ren1L, ren, rens, renO, Nat.blt, lenO, getO, setO, setL, anys, itM, emS]; (refine eval_sound 2000 _ _ _ ?_; simp (maxSteps := 1000000) only [ptrL, lenV, Bool.not_true, Bool.not_false, lookR, valOf, asGrow, jump, findA, restA, and, Nat.reduceAdd, Nat.reduceSub, Nat.reduceMul, Int.reduceToNat, eval, nf, nfO, opN, appTo, rowsV, getL, setL, getO, setO, snocO, lenO, putL, ev, evs, ifEq, killV, killL, kill1, kill1L, kill, kills, killO, killOs, bin, binI, binS, binB, eq1, eqB, lit, sameK, kn, unI, mxA, mnA, mkAgg, fits, partN, partA, resN, retV, allVal, isVal, allCell, isCell, okVal, okCell, cellsOf, fillN, rowsN, cellsN, bnd, lohi, offAt, overL, segL, leave, NodeOK, List.cons_append, List.nil_append, List.append_nil, catA, anys, lenA]))
      refine ⟨by simp, by simp, by simp, fun _ => ?_, fun h => by simp at h⟩
      ((repeat (with_reducible refine And.intro ?_ ?_; focus (simp; done))); refine ⟨[], rfl, _, _, ?_, ?_, rfl, rfl⟩ <;> simp [Wk, mtc, mtcS, mtcSL, mtc0, mtc0L, mtcL, mtcO, mtcOs, cutM, takeE, stA, rl, renV, renL, ren1, ren1L, ren, rens, renO, Nat.blt, lenO, getO, setO, setL, anys, okS, endM, endH, idxN, takeE, pickE, catO, rl, renV, renL, ren1, ren1L, ren, rens, renO, Nat.blt, lenO, getO, setO, setL, anys, itM])
    | true =>
      have e : itemV x t = .tup [itM t 2 (oneS x), .bool true] := by unfold itemV; rw [hf]; rfl
      rw [e] at hI
      have hn : ofB k s = true := by
        have : 1 ≤ x ∧ x ≤ 127 := by simpa [fineB] using hf
        simp only [ofB, hb, decide_eq_true_eq]
        omega
      have e2 : ofW k s = .tup [.int .u64 (x : Nat), .bool true] := by unfold ofW; rw [if_pos hn, hn, hb]
      rw [e2]
      ((repeat (with_reducible refine And.intro ?_ ?_; focus (simp; done))); refine aw_call (hI) [] rfl (by simp [upM, nthN, matchO, rens, ren, ren1, ren1L, renL, renV, renO, rl, lenO, getO, Nat.blt, mtc, mtcS, mtcSL, mtc0, mtc0L, itM]) rfl (by simp [upM, nthN, matchO, rens, ren, ren1, ren1L, renL, renV, renO, rl, lenO, getO, Nat.blt, mtc, mtcS, mtcSL, mtc0, mtc0L, itM]) rfl (fun r hs hp hl => ?_); obtain ⟨rfl, rfl⟩ := hp; simp only [snocO, upM, nthN, putAll, snocAll, killsA, killOsA, grows, putL, rl, renV, renL, ren1, ren1L, ren, rens, renO, Nat.blt, lenO, getO, setO, setL, anys, itM]; (refine eval_sound 2000 _ _ _ ?_; simp (maxSteps := 1000000) only [ptrL, lenV, Bool.not_true, Bool.not_false, lookR, valOf, asGrow, jump, findA, restA, and, Nat.reduceAdd, Nat.reduceSub, Nat.reduceMul, Int.reduceToNat, eval, nf, nfO, opN, appTo, rowsV, getL, setL, getO, setO, snocO, lenO, putL, ev, evs, ifEq, killV, killL, kill1, kill1L, kill, kills, killO, killOs, bin, binI, binS, binB, eq1, eqB, lit, sameK, kn, unI, mxA, mnA, mkAgg, fits, partN, partA, resN, retV, allVal, isVal, allCell, isCell, okVal, okCell, cellsOf, fillN, rowsN, cellsN, bnd, lohi, offAt, overL, segL, leave, NodeOK, List.cons_append, List.nil_append, List.append_nil, catA, anys, lenA]))
      rw [o1, h1]
      refine ⟨by simp, by simp, by simp, fun h => by simp at h, fun _ => ⟨by simp, by simp, by simp [Fit], fun h => ?_, fun _ => ?_⟩⟩
      · simp [eqCells, eqCell, bs_eq] at h
      · ((repeat (with_reducible refine And.intro ?_ ?_; focus (simp; done))); refine ⟨[], rfl, _, _, ?_, ?_, rfl, rfl⟩ <;> simp [Wk, mtc, mtcS, mtcSL, mtc0, mtc0L, mtcL, mtcO, mtcOs, cutM, takeE, stA, rl, renV, renL, ren1, ren1L, ren, rens, renO, Nat.blt, lenO, getO, setO, setL, anys, okS, endM, endH, idxN, takeE, pickE, catO, rl, renV, renL, ren1, ren1L, ren, rens, renO, Nat.blt, lenO, getO, setO, setL, anys, itM])
def turnB (old : Nat) (node : Int) : Bool := decide (0 ≤ node ∧ node < 7) && (fineB old && fineB (old ^^^ 2 ^ node.toNat))
def turnS (old : Nat) (node : Int) : Nat := if turnB old node = true then old ^^^ 2 ^ node.toNat else 0
def turnV (old : Nat) (node : Int) : AV := .tup [.int .u64 (turnS old node : Nat), .bool (turnB old node)]
theorem turn_all : ∀ o : Fin 128, ∀ n : Fin 7, cnt 64 (o.val ^^^ (o.val ^^^ 2 ^ n.val)) = 1 ∧ o.val ^^^ 2 ^ n.val ≤ 127 ∧ (if o.val / 2 ^ n.val % 2 = 1 then o.val - 2 ^ n.val else o.val + 2 ^ n.val) = o.val ^^^ 2 ^ n.val ∧ o.val ^^^ 2 ^ n.val ≠ o.val := by decide +kernel
theorem turn_c (old : Nat) (node : Int) (ho : old < 18446744073709551616) : ACalls Try.prog 15 [.int .u64 (old : Int), .int .i64 node] [] (fun r hs => r = turnV old node ∧ hs = []) := by
  have hW := with_c node
  have hw64 : withV node < 18446744073709551616 := by
    unfold withV; split
    · exact Nat.pow_lt_pow_right (a := 2) (n := 64) (by omega) (by omega)
    · omega
  have hx : old ^^^ withV node < 18446744073709551616 := show old ^^^ withV node < 2 ^ 64 from Nat.xor_lt_two_pow ho hw64
  have hF := fine_c old
  have hM := may_c old (old ^^^ withV node) ho hx
  have no : turnB old node = false → turnV old node = .tup [.int .u64 0, .bool false] := fun h => by unfold turnV turnS; rw [h]; rfl
  refine acalls_weak (acalls_of (fn := Try.f15) (A := a15) Try.func15 ok_15 en_15 ?_)
  dsimp only [a15, u8s]
  (refine eval_sound 2000 _ _ _ ?_; simp (maxSteps := 1000000) only [ptrL, lenV, Bool.not_true, Bool.not_false, lookR, valOf, asGrow, jump, findA, restA, and, Nat.reduceAdd, Nat.reduceSub, Nat.reduceMul, Int.reduceToNat, eval, nf, nfO, opN, appTo, rowsV, getL, setL, getO, setO, snocO, lenO, putL, ev, evs, ifEq, killV, killL, kill1, kill1L, kill, kills, killO, killOs, bin, binI, binS, binB, eq1, eqB, lit, sameK, kn, unI, mxA, mnA, mkAgg, fits, partN, partA, resN, retV, allVal, isVal, allCell, isCell, okVal, okCell, cellsOf, fillN, rowsN, cellsN, bnd, lohi, offAt, overL, segL, leave, NodeOK, List.cons_append, List.nil_append, List.append_nil, catA, anys, lenA])
  (refine acall_trans (trans_frz 0 _ _ _ rfl) ?_; simp only [snocO, mapA, frz, frz1, frzV, mapO, frzO, ifEq, setO, getO, getL, setL])
  ((repeat (with_reducible refine And.intro ?_ ?_; focus (simp; done))); refine aw_call (hW) [] rfl (by simp [upM, nthN, matchO, rens, ren, ren1, ren1L, renL, renV, renO, rl, lenO, getO, Nat.blt, mtc, mtcS, mtcSL, mtc0, mtc0L]) rfl (by simp [upM, nthN, matchO, rens, ren, ren1, ren1L, renL, renV, renO, rl, lenO, getO, Nat.blt, mtc, mtcS, mtcSL, mtc0, mtc0L]) rfl (fun r hs hp hl => ?_); obtain ⟨rfl, rfl⟩ := hp; simp only [snocO, upM, nthN, putAll, snocAll, killsA, killOsA, grows, putL, rl, renV, renL, ren1, ren1L, ren, rens, renO, Nat.blt, lenO, getO, setO, setL, anys]; (refine eval_sound 2000 _ _ _ ?_; simp (maxSteps := 1000000) only [ptrL, lenV, Bool.not_true, Bool.not_false, lookR, valOf, asGrow, jump, findA, restA, and, Nat.reduceAdd, Nat.reduceSub, Nat.reduceMul, Int.reduceToNat, eval, nf, nfO, opN, appTo, rowsV, getL, setL, getO, setO, snocO, lenO, putL, ev, evs, ifEq, killV, killL, kill1, kill1L, kill, kills, killO, killOs, bin, binI, binS, binB, eq1, eqB, lit, sameK, kn, unI, mxA, mnA, mkAgg, fits, partN, partA, resN, retV, allVal, isVal, allCell, isCell, okVal, okCell, cellsOf, fillN, rowsN, cellsN, bnd, lohi, offAt, overL, segL, leave, NodeOK, List.cons_append, List.nil_append, List.append_nil, catA, anys, lenA]))
  rw [xorN ho hw64]
  simp only [decide_eq_true_eq, decide_eq_false_iff_not]
  refine ⟨fun h1 => ?_, fun h1 => ⟨fun h2 => ?_, fun h2 => ?_⟩⟩
  · rw [no (by unfold turnB; rw [decide_eq_false (by omega)]; rfl)]
    ((repeat (with_reducible refine And.intro ?_ ?_; focus (simp; done))); refine ⟨[], rfl, _, _, ?_, ?_, rfl, rfl⟩ <;> simp [Wk, mtc, mtcS, mtcSL, mtc0, mtc0L, mtcL, mtcO, mtcOs, cutM, takeE, stA, rl, renV, renL, ren1, ren1L, ren, rens, renO, Nat.blt, lenO, getO, setO, setL, anys, okS, endM, endH, idxN, takeE, pickE, catO, rl, renV, renL, ren1, ren1L, ren, rens, renO, Nat.blt, lenO, getO, setO, setL, anys, u8s])
  · rw [no (by unfold turnB; rw [decide_eq_false (by omega)]; rfl)]
    ((repeat (with_reducible refine And.intro ?_ ?_; focus (simp; done))); refine ⟨[], rfl, _, _, ?_, ?_, rfl, rfl⟩ <;> simp [Wk, mtc, mtcS, mtcSL, mtc0, mtc0L, mtcL, mtcO, mtcOs, cutM, takeE, stA, rl, renV, renL, ren1, ren1L, ren, rens, renO, Nat.blt, lenO, getO, setO, setL, anys, okS, endM, endH, idxN, takeE, pickE, catO, rl, renV, renL, ren1, ren1L, ren, rens, renO, Nat.blt, lenO, getO, setO, setL, anys, u8s])
  have hn : 0 ≤ node ∧ node < 7 := by omega
  have hw : withV node = 2 ^ node.toNat := if_pos ⟨by omega, by omega⟩
  rw [hw] at hM ⊢
  ((repeat (with_reducible refine And.intro ?_ ?_; focus (simp; done))); refine aw_call (hF) [] rfl (by simp [upM, nthN, matchO, rens, ren, ren1, ren1L, renL, renV, renO, rl, lenO, getO, Nat.blt, mtc, mtcS, mtcSL, mtc0, mtc0L]) rfl (by simp [upM, nthN, matchO, rens, ren, ren1, ren1L, renL, renV, renO, rl, lenO, getO, Nat.blt, mtc, mtcS, mtcSL, mtc0, mtc0L]) rfl (fun r hs hp hl => ?_); obtain ⟨rfl, rfl⟩ := hp; simp only [snocO, upM, nthN, putAll, snocAll, killsA, killOsA, grows, putL, rl, renV, renL, ren1, ren1L, ren, rens, renO, Nat.blt, lenO, getO, setO, setL, anys]; (refine eval_sound 2000 _ _ _ ?_; simp (maxSteps := 1000000) only [ptrL, lenV, Bool.not_true, Bool.not_false, lookR, valOf, asGrow, jump, findA, restA, and, Nat.reduceAdd, Nat.reduceSub, Nat.reduceMul, Int.reduceToNat, eval, nf, nfO, opN, appTo, rowsV, getL, setL, getO, setO, snocO, lenO, putL, ev, evs, ifEq, killV, killL, kill1, kill1L, kill, kills, killO, killOs, bin, binI, binS, binB, eq1, eqB, lit, sameK, kn, unI, mxA, mnA, mkAgg, fits, partN, partA, resN, retV, allVal, isVal, allCell, isCell, okVal, okCell, cellsOf, fillN, rowsN, cellsN, bnd, lohi, offAt, overL, segL, leave, NodeOK, List.cons_append, List.nil_append, List.append_nil, catA, anys, lenA]))
  refine ⟨fun h3 => ?_, fun h3 => ?_⟩
  · have h3 : fineB old = false := by simpa using h3
    rw [no (by unfold turnB; rw [h3]; simp)]
    ((repeat (with_reducible refine And.intro ?_ ?_; focus (simp; done))); refine ⟨[], rfl, _, _, ?_, ?_, rfl, rfl⟩ <;> simp [Wk, mtc, mtcS, mtcSL, mtc0, mtc0L, mtcL, mtcO, mtcOs, cutM, takeE, stA, rl, renV, renL, ren1, ren1L, ren, rens, renO, Nat.blt, lenO, getO, setO, setL, anys, okS, endM, endH, idxN, takeE, pickE, catO, rl, renV, renL, ren1, ren1L, ren, rens, renO, Nat.blt, lenO, getO, setO, setL, anys, u8s])
  have h3 : fineB old = true := by simpa using h3
  have h4 : 1 ≤ old ∧ old ≤ 127 := by simpa [fineB] using h3
  obtain ⟨t1, t2, t3, t4⟩ := turn_all ⟨old, by omega⟩ ⟨node.toNat, by omega⟩
  simp only at t1 t2 t3 t4
  have hm : mayB old (old ^^^ 2 ^ node.toNat) = fineB (old ^^^ 2 ^ node.toNat) := by unfold mayB; rw [t1]; simp
  have ht : turnB old node = fineB (old ^^^ 2 ^ node.toNat) := by unfold turnB; rw [decide_eq_true hn, h3]; rfl
  rw [hm] at hM
  ((repeat (with_reducible refine And.intro ?_ ?_; focus (simp; done))); refine aw_call (hM) [] rfl (by simp [upM, nthN, matchO, rens, ren, ren1, ren1L, renL, renV, renO, rl, lenO, getO, Nat.blt, mtc, mtcS, mtcSL, mtc0, mtc0L]) rfl (by simp [upM, nthN, matchO, rens, ren, ren1, ren1L, renL, renV, renO, rl, lenO, getO, Nat.blt, mtc, mtcS, mtcSL, mtc0, mtc0L]) rfl (fun r hs hp hl => ?_); obtain ⟨rfl, rfl⟩ := hp; simp only [snocO, upM, nthN, putAll, snocAll, killsA, killOsA, grows, putL, rl, renV, renL, ren1, ren1L, ren, rens, renO, Nat.blt, lenO, getO, setO, setL, anys]; (refine eval_sound 2000 _ _ _ ?_; simp (maxSteps := 1000000) only [ptrL, lenV, Bool.not_true, Bool.not_false, lookR, valOf, asGrow, jump, findA, restA, and, Nat.reduceAdd, Nat.reduceSub, Nat.reduceMul, Int.reduceToNat, eval, nf, nfO, opN, appTo, rowsV, getL, setL, getO, setO, snocO, lenO, putL, ev, evs, ifEq, killV, killL, kill1, kill1L, kill, kills, killO, killOs, bin, binI, binS, binB, eq1, eqB, lit, sameK, kn, unI, mxA, mnA, mkAgg, fits, partN, partA, resN, retV, allVal, isVal, allCell, isCell, okVal, okCell, cellsOf, fillN, rowsN, cellsN, bnd, lohi, offAt, overL, segL, leave, NodeOK, List.cons_append, List.nil_append, List.append_nil, catA, anys, lenA]))
  refine ⟨fun h5 => ?_, fun h5 => ?_⟩
  · rw [no (by rw [ht]; simpa using h5)]
    ((repeat (with_reducible refine And.intro ?_ ?_; focus (simp; done))); refine ⟨[], rfl, _, _, ?_, ?_, rfl, rfl⟩ <;> simp [Wk, mtc, mtcS, mtcSL, mtc0, mtc0L, mtcL, mtcO, mtcOs, cutM, takeE, stA, rl, renV, renL, ren1, ren1L, ren, rens, renO, Nat.blt, lenO, getO, setO, setL, anys, okS, endM, endH, idxN, takeE, pickE, catO, rl, renV, renL, ren1, ren1L, ren, rens, renO, Nat.blt, lenO, getO, setO, setL, anys, u8s])
  · have h5 : turnB old node = true := by rw [ht]; simpa using h5
    have : turnV old node = .tup [.int .u64 (old ^^^ 2 ^ node.toNat : Nat), .bool true] := by unfold turnV turnS; rw [if_pos h5, h5]
    rw [this]
    ((repeat (with_reducible refine And.intro ?_ ?_; focus (simp; done))); refine ⟨[], rfl, _, _, ?_, ?_, rfl, rfl⟩ <;> simp [Wk, mtc, mtcS, mtcSL, mtc0, mtc0L, mtcL, mtcO, mtcOs, cutM, takeE, stA, rl, renV, renL, ren1, ren1L, ren, rens, renO, Nat.blt, lenO, getO, setO, setL, anys, okS, endM, endH, idxN, takeE, pickE, catO, rl, renV, renL, ren1, ren1L, ren, rens, renO, Nat.blt, lenO, getO, setO, setL, anys, u8s])
theorem mblives : ACalls Try.prog 19 [] [] (fun r hs => r = .bool true ∧ hs = []) := by
  have h1 := turn_c 7 3 (by omega)
  rw [show turnV 7 3 = .tup [.int .u64 (15 : Nat), .bool true] by unfold turnV turnS; rw [show turnB 7 3 = true by decide]; rfl] at h1
  have h2 := item_c 15 5
  rw [show itemV 15 5 = .tup [itM 5 2 (oneS 15), .bool true] by unfold itemV; rw [show fineB 15 = true by decide]; rfl] at h2
  have h3 := of_c 5 2 (oneS 15)
  rw [show ofW 2 (oneS 15) = .tup [.int .u64 (15 : Nat), .bool true] by unfold ofW; rw [show ofB 2 (oneS 15) = true by decide]; rfl] at h3
  refine acalls_weak (acalls_of (fn := Try.f19) (A := a19) Try.func19 ok_19 en_19 ?_)
  dsimp only [a19, u8s]
  (refine eval_sound 2000 _ _ _ ?_; simp (maxSteps := 1000000) only [ptrL, lenV, Bool.not_true, Bool.not_false, lookR, valOf, asGrow, jump, findA, restA, and, Nat.reduceAdd, Nat.reduceSub, Nat.reduceMul, Int.reduceToNat, eval, nf, nfO, opN, appTo, rowsV, getL, setL, getO, setO, snocO, lenO, putL, ev, evs, ifEq, killV, killL, kill1, kill1L, kill, kills, killO, killOs, bin, binI, binS, binB, eq1, eqB, lit, sameK, kn, unI, mxA, mnA, mkAgg, fits, partN, partA, resN, retV, allVal, isVal, allCell, isCell, okVal, okCell, cellsOf, fillN, rowsN, cellsN, bnd, lohi, offAt, overL, segL, leave, NodeOK, List.cons_append, List.nil_append, List.append_nil, catA, anys, lenA])
  ((repeat (with_reducible refine And.intro ?_ ?_; focus (simp; done))); refine aw_call (h1) [] rfl (by simp [upM, nthN, matchO, rens, ren, ren1, ren1L, renL, renV, renO, rl, lenO, getO, Nat.blt, mtc, mtcS, mtcSL, mtc0, mtc0L, u8s]) rfl (by simp [upM, nthN, matchO, rens, ren, ren1, ren1L, renL, renV, renO, rl, lenO, getO, Nat.blt, mtc, mtcS, mtcSL, mtc0, mtc0L, u8s]) rfl (fun r hs hp hl => ?_); obtain ⟨rfl, rfl⟩ := hp; simp only [snocO, upM, nthN, putAll, snocAll, killsA, killOsA, grows, putL, rl, renV, renL, ren1, ren1L, ren, rens, renO, Nat.blt, lenO, getO, setO, setL, anys, u8s]; (refine eval_sound 2000 _ _ _ ?_; simp (maxSteps := 1000000) only [ptrL, lenV, Bool.not_true, Bool.not_false, lookR, valOf, asGrow, jump, findA, restA, and, Nat.reduceAdd, Nat.reduceSub, Nat.reduceMul, Int.reduceToNat, eval, nf, nfO, opN, appTo, rowsV, getL, setL, getO, setO, snocO, lenO, putL, ev, evs, ifEq, killV, killL, kill1, kill1L, kill, kills, killO, killOs, bin, binI, binS, binB, eq1, eqB, lit, sameK, kn, unI, mxA, mnA, mkAgg, fits, partN, partA, resN, retV, allVal, isVal, allCell, isCell, okVal, okCell, cellsOf, fillN, rowsN, cellsN, bnd, lohi, offAt, overL, segL, leave, NodeOK, List.cons_append, List.nil_append, List.append_nil, catA, anys, lenA]))
  (repeat (with_reducible refine And.intro ?_ ?_; focus (simp; done)))
  ((repeat (with_reducible refine And.intro ?_ ?_; focus (simp; done))); refine aw_call (h2) [] rfl (by simp [upM, nthN, matchO, rens, ren, ren1, ren1L, renL, renV, renO, rl, lenO, getO, Nat.blt, mtc, mtcS, mtcSL, mtc0, mtc0L, itM]) rfl (by simp [upM, nthN, matchO, rens, ren, ren1, ren1L, renL, renV, renO, rl, lenO, getO, Nat.blt, mtc, mtcS, mtcSL, mtc0, mtc0L, itM]) rfl (fun r hs hp hl => ?_); obtain ⟨rfl, rfl⟩ := hp; simp only [snocO, upM, nthN, putAll, snocAll, killsA, killOsA, grows, putL, rl, renV, renL, ren1, ren1L, ren, rens, renO, Nat.blt, lenO, getO, setO, setL, anys, itM]; (refine eval_sound 2000 _ _ _ ?_; simp (maxSteps := 1000000) only [ptrL, lenV, Bool.not_true, Bool.not_false, lookR, valOf, asGrow, jump, findA, restA, and, Nat.reduceAdd, Nat.reduceSub, Nat.reduceMul, Int.reduceToNat, eval, nf, nfO, opN, appTo, rowsV, getL, setL, getO, setO, snocO, lenO, putL, ev, evs, ifEq, killV, killL, kill1, kill1L, kill, kills, killO, killOs, bin, binI, binS, binB, eq1, eqB, lit, sameK, kn, unI, mxA, mnA, mkAgg, fits, partN, partA, resN, retV, allVal, isVal, allCell, isCell, okVal, okCell, cellsOf, fillN, rowsN, cellsN, bnd, lohi, offAt, overL, segL, leave, NodeOK, List.cons_append, List.nil_append, List.append_nil, catA, anys, lenA]))
  (repeat (with_reducible refine And.intro ?_ ?_; focus (simp; done)))
  ((repeat (with_reducible refine And.intro ?_ ?_; focus (simp; done))); refine aw_call (h3) [] rfl (by simp [upM, nthN, matchO, rens, ren, ren1, ren1L, renL, renV, renO, rl, lenO, getO, Nat.blt, mtc, mtcS, mtcSL, mtc0, mtc0L, itM]) rfl (by simp [upM, nthN, matchO, rens, ren, ren1, ren1L, renL, renV, renO, rl, lenO, getO, Nat.blt, mtc, mtcS, mtcSL, mtc0, mtc0L, itM]) rfl (fun r hs hp hl => ?_); obtain ⟨rfl, rfl⟩ := hp; simp only [snocO, upM, nthN, putAll, snocAll, killsA, killOsA, grows, putL, rl, renV, renL, ren1, ren1L, ren, rens, renO, Nat.blt, lenO, getO, setO, setL, anys, itM]; (refine eval_sound 2000 _ _ _ ?_; simp (maxSteps := 1000000) only [ptrL, lenV, Bool.not_true, Bool.not_false, lookR, valOf, asGrow, jump, findA, restA, and, Nat.reduceAdd, Nat.reduceSub, Nat.reduceMul, Int.reduceToNat, eval, nf, nfO, opN, appTo, rowsV, getL, setL, getO, setO, snocO, lenO, putL, ev, evs, ifEq, killV, killL, kill1, kill1L, kill, kills, killO, killOs, bin, binI, binS, binB, eq1, eqB, lit, sameK, kn, unI, mxA, mnA, mkAgg, fits, partN, partA, resN, retV, allVal, isVal, allCell, isCell, okVal, okCell, cellsOf, fillN, rowsN, cellsN, bnd, lohi, offAt, overL, segL, leave, NodeOK, List.cons_append, List.nil_append, List.append_nil, catA, anys, lenA]))
  (repeat' (first | (with_reducible refine And.intro ?_ ?_) | (with_reducible intro _)))
  all_goals first
    | (simp; done)
    | (((repeat (with_reducible refine And.intro ?_ ?_; focus (simp; done))); refine ⟨[], rfl, _, _, ?_, ?_, rfl, rfl⟩ <;> simp [Wk, mtc, mtcS, mtcSL, mtc0, mtc0L, mtcL, mtcO, mtcOs, cutM, takeE, stA, rl, renV, renL, ren1, ren1L, ren, rens, renO, Nat.blt, lenO, getO, setO, setL, anys, okS, endM, endH, idxN, takeE, pickE, catO, rl, renV, renL, ren1, ren1L, ren, rens, renO, Nat.blt, lenO, getO, setO, setL, anys, itM]); done)
    | (exfalso; simp_all; done)
end Go.Proofs.Ytikogdkjmnpfcaa.S
