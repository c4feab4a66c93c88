/- Contracts, picked of my other texts. -/
import Derived.Test.YtjkmnmpjcdanhaaZFr
import Derived.Test.YtjkmnmpjcdanhaaS27
namespace Go.Proofs.Ytjkmnmpjcdanhaa.S
set_option linter.all false
set_option maxRecDepth 100000
set_option maxHeartbeats 1000000
/-- A reader's object: what is left, and whether it is bad. -/
def rdO (l : List Int) (bad : Bool) : AObj := .cells 124 [.ro 1 (u8s l), .bool bad]
def cutR (l : List Int) (bad : Bool) (n : Int) : List Int × List Int × Bool := if n < 0 ∨ (l.length : Int) < n ∨ bad = true then ([], [], true) else (l.take n.toNat, l.drop n.toNat, bad)
theorem rfail (l : List Int) (bad : Bool) : ACalls Try.prog 91 [.ptr 0 0] [rdO l bad] (fun r hs => hs = [rdO [] true]) := by
  refine acalls_weak (acalls_of (fn := Try.f91) (A := a91) Try.func91 ok_91 en_91 ?_)
  dsimp only [a91, rdO]
  (refine eval_sound 2000 _ _ _ ?_; simp (maxSteps := 1000000) only [ptrL, lenV, Bool.not_true, Bool.not_false, lookR, valOf, asGrow, jump, findA, restA, and, Nat.reduceAdd, Nat.reduceSub, Nat.reduceMul, Int.reduceToNat, eval, nf, nfO, opN, appTo, rowsV, getL, setL, getO, setO, snocO, lenO, putL, ev, evs, ifEq, killV, killL, kill1, kill1L, kill, kills, killO, killOs, bin, binI, binS, binB, eq1, eqB, lit, sameK, kn, unI, mxA, mnA, mkAgg, fits, partN, partA, resN, retV, allVal, isVal, allCell, isCell, okVal, okCell, cellsOf, fillN, rowsN, cellsN, bnd, lohi, offAt, overL, segL, leave, NodeOK, List.cons_append, List.nil_append, List.append_nil, catA, anys, lenA])
  refine ⟨[], rfl, .any, _, trivial, ?_, rfl⟩
  simp [Wk, mtc, mtcS, mtcSL, mtc0, mtc0L, mtcL, mtcO, mtcOs, cutM, takeE, stA, rl, renV, renL, ren1, ren1L, ren, rens, renO, Nat.blt, lenO, getO, setO, setL, anys, okS, endM, endH, idxN, takeE, pickE, catO, rl, renV, renL, ren1, ren1L, ren, rens, renO, Nat.blt, lenO, getO, setO, setL, anys, u8s]
theorem rcut (l : List Int) (bad : Bool) (n : Int) : ACalls Try.prog 80 [.ptr 0 0, .int .i64 n] [rdO l bad] (fun r hs => r = .ro 1 (u8s (cutR l bad n).1) ∧ hs = [rdO (cutR l bad n).2.1 (cutR l bad n).2.2]) := by
  refine acalls_weak (acalls_of (fn := Try.f80) (A := a80) Try.func80 ok_80 en_80 ?_)
  dsimp only [a80, rdO]
  (refine eval_sound 2000 _ _ _ ?_; simp (maxSteps := 1000000) only [ptrL, lenV, Bool.not_true, Bool.not_false, lookR, valOf, asGrow, jump, findA, restA, and, Nat.reduceAdd, Nat.reduceSub, Nat.reduceMul, Int.reduceToNat, eval, nf, nfO, opN, appTo, rowsV, getL, setL, getO, setO, snocO, lenO, putL, ev, evs, ifEq, killV, killL, kill1, kill1L, kill, kills, killO, killOs, bin, binI, binS, binB, eq1, eqB, lit, sameK, kn, unI, mxA, mnA, mkAgg, fits, partN, partA, resN, retV, allVal, isVal, allCell, isCell, okVal, okCell, cellsOf, fillN, rowsN, cellsN, bnd, lohi, offAt, overL, segL, leave, NodeOK, List.cons_append, List.nil_append, List.append_nil, catA, anys, lenA])
  refine ⟨fun h => ?_, fun h => ⟨fun h2 => ?_, fun h2 => ⟨fun h3 => ?_, fun h3 => ?_⟩⟩⟩
  case refine_4 =>
    simp only [decide_eq_false_iff_not, u8s_len] at h h2
    have e : ¬ (n < 0 ∨ (l.length : Int) < n ∨ bad = true) := by simp [h3]; omega
    refine ⟨⟨by omega, by omega, by rw [u8s_len]; omega⟩, ⟨by omega, by rw [u8s_len]; omega, by omega⟩, [], rfl, _, _, ?_, ?_, rfl, rfl⟩
    · simp [Wk, mtc, mtcS, mtcSL, mtc0, mtc0L, mtcL, mtcO, mtcOs, cutM, takeE, stA, rl, renV, renL, ren1, ren1L, ren, rens, renO, Nat.blt, lenO, getO, setO, setL, anys, okS, endM, endH, idxN, takeE, pickE, catO, rl, renV, renL, ren1, ren1L, ren, rens, renO, Nat.blt, lenO, getO, setO, setL, anys, cutR, e, u8s_take]
    · simp [Wk, mtc, mtcS, mtcSL, mtc0, mtc0L, mtcL, mtcO, mtcOs, cutM, takeE, stA, rl, renV, renL, ren1, ren1L, ren, rens, renO, Nat.blt, lenO, getO, setO, setL, anys, okS, endM, endH, idxN, takeE, pickE, catO, rl, renV, renL, ren1, ren1L, ren, rens, renO, Nat.blt, lenO, getO, setO, setL, anys, cutR, e, u8s_drop, u8s_len, u8s_take, List.take_of_length_le]
  all_goals
    have e : n < 0 ∨ (l.length : Int) < n ∨ bad = true := by
      first
        | (left; simpa using h)
        | (right; left; simpa [u8s_len] using h2)
        | (right; right; exact h3)
    refine aw_call (rfail l bad) [0] rfl (by simp [upM, nthN, matchO, rens, ren, ren1, ren1L, renL, renV, renO, rl, lenO, getO, Nat.blt, mtc, mtcS, mtcSL, mtc0, mtc0L]) rfl (by simp [upM, nthN, matchO, rens, ren, ren1, ren1L, renL, renV, renO, rl, lenO, getO, Nat.blt, mtc, mtcS, mtcSL, mtc0, mtc0L, rdO]) rfl (fun r hs hp hl => ?_)
    subst hp
    simp only [snocO, upM, nthN, putAll, snocAll, killsA, killOsA, grows, putL, rl, renV, renL, ren1, ren1L, ren, rens, renO, Nat.blt, lenO, getO, setO, setL, anys, rdO]
    (refine eval_sound 2000 _ _ _ ?_; simp (maxSteps := 1000000) only [ptrL, lenV, Bool.not_true, Bool.not_false, lookR, valOf, asGrow, jump, findA, restA, and, Nat.reduceAdd, Nat.reduceSub, Nat.reduceMul, Int.reduceToNat, eval, nf, nfO, opN, appTo, rowsV, getL, setL, getO, setO, snocO, lenO, putL, ev, evs, ifEq, killV, killL, kill1, kill1L, kill, kills, killO, killOs, bin, binI, binS, binB, eq1, eqB, lit, sameK, kn, unI, mxA, mnA, mkAgg, fits, partN, partA, resN, retV, allVal, isVal, allCell, isCell, okVal, okCell, cellsOf, fillN, rowsN, cellsN, bnd, lohi, offAt, overL, segL, leave, NodeOK, List.cons_append, List.nil_append, List.append_nil, catA, anys, lenA])
    refine ⟨[], rfl, _, _, ?_, ?_, rfl, rfl⟩ <;> simp [Wk, mtc, mtcS, mtcSL, mtc0, mtc0L, mtcL, mtcO, mtcOs, cutM, takeE, stA, rl, renV, renL, ren1, ren1L, ren, rens, renO, Nat.blt, lenO, getO, setO, setL, anys, okS, endM, endH, idxN, takeE, pickE, catO, rl, renV, renL, ren1, ren1L, ren, rens, renO, Nat.blt, lenO, getO, setO, setL, anys, cutR, e, u8s]
theorem fail_ (l : List Int) (bad : Bool) : ACalls Try.prog 78 [.ptr 0 0] [rdO l bad] (fun r hs => hs = [rdO [] true]) := by
  refine acalls_weak (acalls_of (fn := Try.f78) (A := a78) Try.func78 ok_78 en_78 ?_)
  dsimp only [a78, rdO]
  (refine eval_sound 2000 _ _ _ ?_; simp (maxSteps := 1000000) only [ptrL, lenV, Bool.not_true, Bool.not_false, lookR, valOf, asGrow, jump, findA, restA, and, Nat.reduceAdd, Nat.reduceSub, Nat.reduceMul, Int.reduceToNat, eval, nf, nfO, opN, appTo, rowsV, getL, setL, getO, setO, snocO, lenO, putL, ev, evs, ifEq, killV, killL, kill1, kill1L, kill, kills, killO, killOs, bin, binI, binS, binB, eq1, eqB, lit, sameK, kn, unI, mxA, mnA, mkAgg, fits, partN, partA, resN, retV, allVal, isVal, allCell, isCell, okVal, okCell, cellsOf, fillN, rowsN, cellsN, bnd, lohi, offAt, overL, segL, leave, NodeOK, List.cons_append, List.nil_append, List.append_nil, catA, anys, lenA])
  refine aw_call (rfail l bad) [0] rfl (by simp [upM, nthN, matchO, rens, ren, ren1, ren1L, renL, renV, renO, rl, lenO, getO, Nat.blt, mtc, mtcS, mtcSL, mtc0, mtc0L]) rfl (by simp [upM, nthN, matchO, rens, ren, ren1, ren1L, renL, renV, renO, rl, lenO, getO, Nat.blt, mtc, mtcS, mtcSL, mtc0, mtc0L, rdO]) rfl (fun r hs hp hl => ?_)
  subst hp
  simp only [snocO, upM, nthN, putAll, snocAll, killsA, killOsA, grows, putL, rl, renV, renL, ren1, ren1L, ren, rens, renO, Nat.blt, lenO, getO, setO, setL, anys, rdO]
  (refine eval_sound 2000 _ _ _ ?_; simp (maxSteps := 1000000) only [ptrL, lenV, Bool.not_true, Bool.not_false, lookR, valOf, asGrow, jump, findA, restA, and, Nat.reduceAdd, Nat.reduceSub, Nat.reduceMul, Int.reduceToNat, eval, nf, nfO, opN, appTo, rowsV, getL, setL, getO, setO, snocO, lenO, putL, ev, evs, ifEq, killV, killL, kill1, kill1L, kill, kills, killO, killOs, bin, binI, binS, binB, eq1, eqB, lit, sameK, kn, unI, mxA, mnA, mkAgg, fits, partN, partA, resN, retV, allVal, isVal, allCell, isCell, okVal, okCell, cellsOf, fillN, rowsN, cellsN, bnd, lohi, offAt, overL, segL, leave, NodeOK, List.cons_append, List.nil_append, List.append_nil, catA, anys, lenA])
  refine ⟨[], rfl, .any, _, trivial, ?_, rfl⟩ <;> simp [Wk, mtc, mtcS, mtcSL, mtc0, mtc0L, mtcL, mtcO, mtcOs, cutM, takeE, stA, rl, renV, renL, ren1, ren1L, ren, rens, renO, Nat.blt, lenO, getO, setO, setL, anys, okS, endM, endH, idxN, takeE, pickE, catO, rl, renV, renL, ren1, ren1L, ren, rens, renO, Nat.blt, lenO, getO, setO, setL, anys, u8s]
def shl8 (x : Int) (i : Nat) : Int := IntKind.u64.wrap (IntKind.u64.wrap x * 2 ^ min (8 * i) 64)
def numG (c : List Int) : Nat → Int
  | 0 => 0
  | k + 1 => IntKind.u64.wrap (BitVec.ofInt IntKind.u64.bits (numG c k) ||| BitVec.ofInt IntKind.u64.bits (shl8 (c.getD k 0) k)).toNat
theorem num1 (i : Nat) (x : Int) (h1 : i < 8) : ACalls Try.prog 79 [.int .i64 i, .int .u8 x] [] (fun r hs => r = .int .u64 (shl8 x i) ∧ hs = []) := by
  refine acalls_weak (acalls_of (fn := Try.f79) (A := a79) Try.func79 ok_79 en_79 ?_)
  dsimp only [a79, rdO]
  (refine eval_sound 2000 _ _ _ ?_; simp (maxSteps := 1000000) only [ptrL, lenV, Bool.not_true, Bool.not_false, lookR, valOf, asGrow, jump, findA, restA, and, Nat.reduceAdd, Nat.reduceSub, Nat.reduceMul, Int.reduceToNat, eval, nf, nfO, opN, appTo, rowsV, getL, setL, getO, setO, snocO, lenO, putL, ev, evs, ifEq, killV, killL, kill1, kill1L, kill, kills, killO, killOs, bin, binI, binS, binB, eq1, eqB, lit, sameK, kn, unI, mxA, mnA, mkAgg, fits, partN, partA, resN, retV, allVal, isVal, allCell, isCell, okVal, okCell, cellsOf, fillN, rowsN, cellsN, bnd, lohi, offAt, overL, segL, leave, NodeOK, List.cons_append, List.nil_append, List.append_nil, catA, anys, lenA])
  rw [wr64 (n := 8 * (i : Int)) (by omega) (by omega)]
  refine ⟨by omega, [], rfl, _, _, ?_, ?_, rfl, rfl⟩ <;> simp [Wk, mtc, mtcS, mtcSL, mtc0, mtc0L, mtcL, mtcO, mtcOs, cutM, takeE, stA, rl, renV, renL, ren1, ren1L, ren, rens, renO, Nat.blt, lenO, getO, setO, setL, anys, okS, endM, endH, idxN, takeE, pickE, catO, rl, renV, renL, ren1, ren1L, ren, rens, renO, Nat.blt, lenO, getO, setO, setL, anys, shl8, IntKind.bits, show (8 * (i : Int)).toNat = 8 * i by omega]
theorem num_ (l : List Int) (bad : Bool) (n : Int) : ACalls Try.prog 59 [.ptr 0 0, .int .i64 n] [rdO l bad] (fun r hs => if n < 1 ∨ 8 < n then r = .int .u64 0 ∧ hs = [rdO [] true] else r = .int .u64 (numG (cutR l bad n).1 (cutR l bad n).1.length) ∧ hs = [rdO (cutR l bad n).2.1 (cutR l bad n).2.2]) := by
  refine acalls_weak (acalls_of (fn := Try.f59) (A := a59) Try.func59 ok_59 en_59 ?_)
  dsimp only [a59, rdO]
  (refine eval_sound 2000 _ _ _ ?_; simp (maxSteps := 1000000) only [ptrL, lenV, Bool.not_true, Bool.not_false, lookR, valOf, asGrow, jump, findA, restA, and, Nat.reduceAdd, Nat.reduceSub, Nat.reduceMul, Int.reduceToNat, eval, nf, nfO, opN, appTo, rowsV, getL, setL, getO, setO, snocO, lenO, putL, ev, evs, ifEq, killV, killL, kill1, kill1L, kill, kills, killO, killOs, bin, binI, binS, binB, eq1, eqB, lit, sameK, kn, unI, mxA, mnA, mkAgg, fits, partN, partA, resN, retV, allVal, isVal, allCell, isCell, okVal, okCell, cellsOf, fillN, rowsN, cellsN, bnd, lohi, offAt, overL, segL, leave, NodeOK, List.cons_append, List.nil_append, List.append_nil, catA, anys, lenA])
  refine ⟨fun h => ?_, fun h => ⟨fun h2 => ?_, fun h2 => ?_⟩⟩
  case refine_3 =>
    simp only [decide_eq_false_iff_not] at h h2
    have e : ¬ (n < 1 ∨ 8 < n) := by omega
    refine aw_call (rcut l bad n) [0] rfl (by simp [upM, nthN, matchO, rens, ren, ren1, ren1L, renL, renV, renO, rl, lenO, getO, Nat.blt, mtc, mtcS, mtcSL, mtc0, mtc0L]) rfl (by simp [upM, nthN, matchO, rens, ren, ren1, ren1L, renL, renV, renO, rl, lenO, getO, Nat.blt, mtc, mtcS, mtcSL, mtc0, mtc0L, rdO]) rfl (fun r hs hp hl => ?_)
    obtain ⟨rfl, rfl⟩ := hp
    simp only [snocO, upM, nthN, putAll, snocAll, killsA, killOsA, grows, putL, rl, renV, renL, ren1, ren1L, ren, rens, renO, Nat.blt, lenO, getO, setO, setL, anys, rdO]
    (refine eval_sound 2000 _ _ _ ?_; simp (maxSteps := 1000000) only [ptrL, lenV, Bool.not_true, Bool.not_false, lookR, valOf, asGrow, jump, findA, restA, and, Nat.reduceAdd, Nat.reduceSub, Nat.reduceMul, Int.reduceToNat, eval, nf, nfO, opN, appTo, rowsV, getL, setL, getO, setO, snocO, lenO, putL, ev, evs, ifEq, killV, killL, kill1, kill1L, kill, kills, killO, killOs, bin, binI, binS, binB, eq1, eqB, lit, sameK, kn, unI, mxA, mnA, mkAgg, fits, partN, partA, resN, retV, allVal, isVal, allCell, isCell, okVal, okCell, cellsOf, fillN, rowsN, cellsN, bnd, lohi, offAt, overL, segL, leave, NodeOK, List.cons_append, List.nil_append, List.append_nil, catA, anys, lenA])
    have hc : (cutR l bad n).1.length ≤ 8 := by unfold cutR; split <;> simp; omega
    generalize (cutR l bad n).1 = c at *
    generalize (cutR l bad n).2.1 = l' at *
    generalize (cutR l bad n).2.2 = b' at *
    simp only [u8s_len]
    refine aw_loop (α := Nat) (fun i => i ≤ c.length) (fun i => stA 38 [(5, .int .u64 (numG c i)), (6, .fn 79 [] []), (23, .ro 1 (u8s c)), (24, .int .i64 c.length), (25, .int .i64 i)]) (fun i => [rdO l' b']) (fun i => c.length - i) 0 (Nat.zero_le _) ?_ (fun _ => rfl) fun i hi => ?_
    · simp [Wk, mtc, mtcS, mtcSL, mtc0, mtc0L, mtcL, mtcO, mtcOs, cutM, takeE, stA, rl, renV, renL, ren1, ren1L, ren, rens, renO, Nat.blt, lenO, getO, setO, setL, anys, rdO, numG]
    simp only [stA, anys, setL, rdO]
    (refine eval_sound 2000 _ _ _ ?_; simp (maxSteps := 1000000) only [ptrL, lenV, Bool.not_true, Bool.not_false, lookR, valOf, asGrow, jump, findA, restA, and, Nat.reduceAdd, Nat.reduceSub, Nat.reduceMul, Int.reduceToNat, eval, nf, nfO, opN, appTo, rowsV, getL, setL, getO, setO, snocO, lenO, putL, ev, evs, ifEq, killV, killL, kill1, kill1L, kill, kills, killO, killOs, bin, binI, binS, binB, eq1, eqB, lit, sameK, kn, unI, mxA, mnA, mkAgg, fits, partN, partA, resN, retV, allVal, isVal, allCell, isCell, okVal, okCell, cellsOf, fillN, rowsN, cellsN, bnd, lohi, offAt, overL, segL, leave, NodeOK, List.cons_append, List.nil_append, List.append_nil, catA, anys, lenA])
    refine ⟨fun h3 => ?_, fun h3 => ?_⟩
    · have h4 : i < c.length := by simpa using h3
      refine ⟨by omega, [.int .u8 c[i]], by simp [u8s, h4], ?_⟩
      (refine eval_sound 2000 _ _ _ ?_; simp (maxSteps := 1000000) only [ptrL, lenV, Bool.not_true, Bool.not_false, lookR, valOf, asGrow, jump, findA, restA, and, Nat.reduceAdd, Nat.reduceSub, Nat.reduceMul, Int.reduceToNat, eval, nf, nfO, opN, appTo, rowsV, getL, setL, getO, setO, snocO, lenO, putL, ev, evs, ifEq, killV, killL, kill1, kill1L, kill, kills, killO, killOs, bin, binI, binS, binB, eq1, eqB, lit, sameK, kn, unI, mxA, mnA, mkAgg, fits, partN, partA, resN, retV, allVal, isVal, allCell, isCell, okVal, okCell, cellsOf, fillN, rowsN, cellsN, bnd, lohi, offAt, overL, segL, leave, NodeOK, List.cons_append, List.nil_append, List.append_nil, catA, anys, lenA])
      refine aw_call (num1 i c[i] (by omega)) [] rfl (by simp [upM, nthN, matchO, rens, ren, ren1, ren1L, renL, renV, renO, rl, lenO, getO, Nat.blt, mtc, mtcS, mtcSL, mtc0, mtc0L]) rfl (by simp [upM, nthN, matchO, rens, ren, ren1, ren1L, renL, renV, renO, rl, lenO, getO, Nat.blt, mtc, mtcS, mtcSL, mtc0, mtc0L]) rfl (fun r hs hp hl => ?_)
      obtain ⟨rfl, rfl⟩ := hp
      simp only [snocO, upM, nthN, putAll, snocAll, killsA, killOsA, grows, putL, rl, renV, renL, ren1, ren1L, ren, rens, renO, Nat.blt, lenO, getO, setO, setL, anys]
      (refine eval_sound 2000 _ _ _ ?_; simp (maxSteps := 1000000) only [ptrL, lenV, Bool.not_true, Bool.not_false, lookR, valOf, asGrow, jump, findA, restA, and, Nat.reduceAdd, Nat.reduceSub, Nat.reduceMul, Int.reduceToNat, eval, nf, nfO, opN, appTo, rowsV, getL, setL, getO, setO, snocO, lenO, putL, ev, evs, ifEq, killV, killL, kill1, kill1L, kill, kills, killO, killOs, bin, binI, binS, binB, eq1, eqB, lit, sameK, kn, unI, mxA, mnA, mkAgg, fits, partN, partA, resN, retV, allVal, isVal, allCell, isCell, okVal, okCell, cellsOf, fillN, rowsN, cellsN, bnd, lohi, offAt, overL, segL, leave, NodeOK, List.cons_append, List.nil_append, List.append_nil, catA, anys, lenA])
      rw [wr64 (n := (i : Int) + 1) (by omega) (by omega)]
      refine ⟨i + 1, by omega, by omega, ?_⟩
      simp only [Wk, mtc, mtcS, mtcSL, mtc0, mtc0L, mtcL, mtcO, mtcOs, cutM, takeE, stA, rl, renV, renL, ren1, ren1L, ren, rens, renO, Nat.blt, lenO, getO, setO, setL, anys]
      simp [rdO, numG, h4]
    · have : i = c.length := by simp at h3; omega
      subst this
      simp only [e, if_false]
      refine ⟨[], rfl, _, _, ?_, ?_, rfl, rfl⟩ <;> simp [Wk, mtc, mtcS, mtcSL, mtc0, mtc0L, mtcL, mtcO, mtcOs, cutM, takeE, stA, rl, renV, renL, ren1, ren1L, ren, rens, renO, Nat.blt, lenO, getO, setO, setL, anys, okS, endM, endH, idxN, takeE, pickE, catO, rl, renV, renL, ren1, ren1L, ren, rens, renO, Nat.blt, lenO, getO, setO, setL, anys, u8s, rdO]
  all_goals
    have e : n < 1 ∨ 8 < n := by
      first
        | (left; simpa using h)
        | (right; simpa using h2)
    refine aw_call (fail_ l bad) [0] rfl (by simp [upM, nthN, matchO, rens, ren, ren1, ren1L, renL, renV, renO, rl, lenO, getO, Nat.blt, mtc, mtcS, mtcSL, mtc0, mtc0L]) rfl (by simp [upM, nthN, matchO, rens, ren, ren1, ren1L, renL, renV, renO, rl, lenO, getO, Nat.blt, mtc, mtcS, mtcSL, mtc0, mtc0L, rdO]) rfl (fun r hs hp hl => ?_)
    subst hp
    simp only [snocO, upM, nthN, putAll, snocAll, killsA, killOsA, grows, putL, rl, renV, renL, ren1, ren1L, ren, rens, renO, Nat.blt, lenO, getO, setO, setL, anys, rdO, e, if_true]
    (refine eval_sound 2000 _ _ _ ?_; simp (maxSteps := 1000000) only [ptrL, lenV, Bool.not_true, Bool.not_false, lookR, valOf, asGrow, jump, findA, restA, and, Nat.reduceAdd, Nat.reduceSub, Nat.reduceMul, Int.reduceToNat, eval, nf, nfO, opN, appTo, rowsV, getL, setL, getO, setO, snocO, lenO, putL, ev, evs, ifEq, killV, killL, kill1, kill1L, kill, kills, killO, killOs, bin, binI, binS, binB, eq1, eqB, lit, sameK, kn, unI, mxA, mnA, mkAgg, fits, partN, partA, resN, retV, allVal, isVal, allCell, isCell, okVal, okCell, cellsOf, fillN, rowsN, cellsN, bnd, lohi, offAt, overL, segL, leave, NodeOK, List.cons_append, List.nil_append, List.append_nil, catA, anys, lenA])
    refine ⟨[], rfl, _, _, ?_, ?_, rfl, rfl⟩ <;> simp [Wk, mtc, mtcS, mtcSL, mtc0, mtc0L, mtcL, mtcO, mtcOs, cutM, takeE, stA, rl, renV, renL, ren1, ren1L, ren, rens, renO, Nat.blt, lenO, getO, setO, setL, anys, okS, endM, endH, idxN, takeE, pickE, catO, rl, renV, renL, ren1, ren1L, ren, rens, renO, Nat.blt, lenO, getO, setO, setL, anys, u8s]
/-- What Num tells, and what is left. -/
def numV (l : List Int) (bad : Bool) (n : Int) : Int × List Int × Bool := if n < 1 ∨ 8 < n then (0, [], true) else (numG (cutR l bad n).1 (cutR l bad n).1.length, (cutR l bad n).2)
theorem num_c (l : List Int) (bad : Bool) (n : Int) : ACalls Try.prog 59 [.ptr 0 0, .int .i64 n] [rdO l bad] (fun r hs => r = .int .u64 (numV l bad n).1 ∧ hs = [rdO (numV l bad n).2.1 (numV l bad n).2.2]) := by
  refine (num_ l bad n).mono fun r hs h => ?_
  unfold numV
  split at h <;> rename_i e <;> simp only [e, if_true, if_false] <;> exact h
/-- The document's reader. -/
def refO (b : List Int) (k : Int) (bad : Bool) : AObj := .cells 97 [.ro 1 (u8s b), .int .i64 k, .bool bad]
def leftF (b : List Int) (k : Int) (bad : Bool) : Int := if bad = true then 0 else b.length - k
theorem rfleft (b : List Int) (k : Int) (bad : Bool) (h0 : 0 ≤ k) (h1 : k ≤ b.length) (hb : b.length ≤ 20000) : ACalls Try.prog 90 [.ptr 0 0] [refO b k bad] (fun r hs => r = .int .i64 (leftF b k bad) ∧ hs = [refO b k bad]) := by
  refine acalls_weak (acalls_of (fn := Try.f90) (A := a90) Try.func90 ok_90 en_90 ?_)
  dsimp only [a90, refO]
  (refine eval_sound 2000 _ _ _ ?_; simp (maxSteps := 1000000) only [ptrL, lenV, Bool.not_true, Bool.not_false, lookR, valOf, asGrow, jump, findA, restA, and, Nat.reduceAdd, Nat.reduceSub, Nat.reduceMul, Int.reduceToNat, eval, nf, nfO, opN, appTo, rowsV, getL, setL, getO, setO, snocO, lenO, putL, ev, evs, ifEq, killV, killL, kill1, kill1L, kill, kills, killO, killOs, bin, binI, binS, binB, eq1, eqB, lit, sameK, kn, unI, mxA, mnA, mkAgg, fits, partN, partA, resN, retV, allVal, isVal, allCell, isCell, okVal, okCell, cellsOf, fillN, rowsN, cellsN, bnd, lohi, offAt, overL, segL, leave, NodeOK, List.cons_append, List.nil_append, List.append_nil, catA, anys, lenA])
  refine ⟨fun h => ?_, fun h => ?_⟩
  · refine ⟨[], rfl, _, _, ?_, ?_, rfl, rfl⟩ <;> simp [Wk, mtc, mtcS, mtcSL, mtc0, mtc0L, mtcL, mtcO, mtcOs, cutM, takeE, stA, rl, renV, renL, ren1, ren1L, ren, rens, renO, Nat.blt, lenO, getO, setO, setL, anys, okS, endM, endH, idxN, takeE, pickE, catO, rl, renV, renL, ren1, ren1L, ren, rens, renO, Nat.blt, lenO, getO, setO, setL, anys, leftF, h]
  · refine aw_dregA (show Try.prog.follows .mixedOrders = true by kernel_rfl) 1 [] ?_ ?_ ?_
    · kernel_rfl
    · (simp only [tkO, dpO, tkN, AllOps, OpOK, mkR, autoV, autoR, labV, lkD, vOf, preT, preO, setTs, preV, wrt, memN, usesO, usesT, opT, optT, opsT, ptsT, setHs, objF, updD, newO, lkO, lkF, keysO, keysF, visN, deads, getL, setL, getO, setO, lenO, lenA, anys, setDs, setWr, setFr, endO, catD, List.getD_cons_zero, List.getD_cons_succ, List.getElem?_cons_zero, List.getElem?_cons_succ, List.cons_append, List.nil_append, List.append_nil, Nat.reduceAdd, Nat.reduceSub, ptrL, lenV, Bool.not_true, Bool.not_false, lookR, valOf, asGrow, jump, findA, restA, and, Nat.reduceAdd, Nat.reduceSub, Nat.reduceMul, Int.reduceToNat, eval, nf, nfO, opN, appTo, rowsV, getL, setL, getO, setO, snocO, lenO, putL, ev, evs, ifEq, killV, killL, kill1, kill1L, kill, kills, killO, killOs, bin, binI, binS, binB, eq1, eqB, lit, sameK, kn, unI, mxA, mnA, mkAgg, fits, partN, partA, resN, retV, allVal, isVal, allCell, isCell, okVal, okCell, cellsOf, fillN, rowsN, cellsN, bnd, lohi, offAt, overL, segL, leave, NodeOK, List.cons_append, List.nil_append, List.append_nil, catA, anys, lenA]; and_intros) <;> (first | exact trivial | ((refine eval_sound 2000 _ _ _ ?_; simp (maxSteps := 1000000) only [ptrL, lenV, Bool.not_true, Bool.not_false, lookR, valOf, asGrow, jump, findA, restA, and, Nat.reduceAdd, Nat.reduceSub, Nat.reduceMul, Int.reduceToNat, eval, nf, nfO, opN, appTo, rowsV, getL, setL, getO, setO, snocO, lenO, putL, ev, evs, ifEq, killV, killL, kill1, kill1L, kill, kills, killO, killOs, bin, binI, binS, binB, eq1, eqB, lit, sameK, kn, unI, mxA, mnA, mkAgg, fits, partN, partA, resN, retV, allVal, isVal, allCell, isCell, okVal, okCell, cellsOf, fillN, rowsN, cellsN, bnd, lohi, offAt, overL, segL, leave, NodeOK, List.cons_append, List.nil_append, List.append_nil, catA, anys, lenA]); try simp only [JR, dstOK, wrOK, frOK, rdOK, getL, getO]; try simp only [JR, dstOK, wrOK, frOK, rdOK, sig, sigF, isGrowB, mtc, mtcS, mtcSL, mtc0, mtc0L, mtcO, mtcL, memN, Nat.blt, rl, renV, renL, ren1, ren1L, ren, rens, renO, Nat.blt, lenO, getO, setO, setL, anys]; try simp))
    · (simp only [tkO, dpO, tkN, AllOps, OpOK, mkR, autoV, autoR, labV, lkD, vOf, preT, preO, setTs, preV, wrt, memN, usesO, usesT, opT, optT, opsT, ptsT, setHs, objF, updD, newO, lkO, lkF, keysO, keysF, visN, deads, getL, setL, getO, setO, lenO, lenA, anys, setDs, setWr, setFr, endO, catD, List.getD_cons_zero, List.getD_cons_succ, List.getElem?_cons_zero, List.getElem?_cons_succ, List.cons_append, List.nil_append, List.append_nil, Nat.reduceAdd, Nat.reduceSub, ptrL, lenV, Bool.not_true, Bool.not_false, lookR, valOf, asGrow, jump, findA, restA, and, Nat.reduceAdd, Nat.reduceSub, Nat.reduceMul, Int.reduceToNat, eval, nf, nfO, opN, appTo, rowsV, getL, setL, getO, setO, snocO, lenO, putL, ev, evs, ifEq, killV, killL, kill1, kill1L, kill, kills, killO, killOs, bin, binI, binS, binB, eq1, eqB, lit, sameK, kn, unI, mxA, mnA, mkAgg, fits, partN, partA, resN, retV, allVal, isVal, allCell, isCell, okVal, okCell, cellsOf, fillN, rowsN, cellsN, bnd, lohi, offAt, overL, segL, leave, NodeOK, List.cons_append, List.nil_append, List.append_nil, catA, anys, lenA]; (refine eval_sound 2000 _ _ _ ?_; simp (maxSteps := 1000000) only [ptrL, lenV, Bool.not_true, Bool.not_false, lookR, valOf, asGrow, jump, findA, restA, and, Nat.reduceAdd, Nat.reduceSub, Nat.reduceMul, Int.reduceToNat, eval, nf, nfO, opN, appTo, rowsV, getL, setL, getO, setO, snocO, lenO, putL, ev, evs, ifEq, killV, killL, kill1, kill1L, kill, kills, killO, killOs, bin, binI, binS, binB, eq1, eqB, lit, sameK, kn, unI, mxA, mnA, mkAgg, fits, partN, partA, resN, retV, allVal, isVal, allCell, isCell, okVal, okCell, cellsOf, fillN, rowsN, cellsN, bnd, lohi, offAt, overL, segL, leave, NodeOK, List.cons_append, List.nil_append, List.append_nil, catA, anys, lenA]))
      rw [u8s_len, wr64 (by omega) (by omega)]
      refine ⟨[], rfl, _, _, ?_, ?_, rfl, rfl⟩ <;> simp [Wk, mtc, mtcS, mtcSL, mtc0, mtc0L, mtcL, mtcO, mtcOs, cutM, takeE, stA, rl, renV, renL, ren1, ren1L, ren, rens, renO, Nat.blt, lenO, getO, setO, setL, anys, okS, endM, endH, idxN, takeE, pickE, catO, rl, renV, renL, ren1, ren1L, ren, rens, renO, Nat.blt, lenO, getO, setO, setL, anys, leftF, h]
def takeF (b : List Int) (k : Int) (bad : Bool) (n : Int) : List Int × Int × Bool := if n < 0 ∨ leftF b k bad < n ∨ bad = true then ([], k, true) else ((b.drop k.toNat).take n.toNat, k + n, false)
theorem rftake (b : List Int) (k : Int) (bad : Bool) (n : Int) (h0 : 0 ≤ k) (h1 : k ≤ b.length) (hb : b.length ≤ 20000) : ACalls Try.prog 77 [.ptr 0 0, .int .i64 n] [refO b k bad] (fun r hs => r = .ro 1 (u8s (takeF b k bad n).1) ∧ hs = [refO b (takeF b k bad n).2.1 (takeF b k bad n).2.2]) := by
  refine acalls_weak (acalls_of (fn := Try.f77) (A := a77) Try.func77 ok_77 en_77 ?_)
  dsimp only [a77, refO]
  (refine eval_sound 2000 _ _ _ ?_; simp (maxSteps := 1000000) only [ptrL, lenV, Bool.not_true, Bool.not_false, lookR, valOf, asGrow, jump, findA, restA, and, Nat.reduceAdd, Nat.reduceSub, Nat.reduceMul, Int.reduceToNat, eval, nf, nfO, opN, appTo, rowsV, getL, setL, getO, setO, snocO, lenO, putL, ev, evs, ifEq, killV, killL, kill1, kill1L, kill, kills, killO, killOs, bin, binI, binS, binB, eq1, eqB, lit, sameK, kn, unI, mxA, mnA, mkAgg, fits, partN, partA, resN, retV, allVal, isVal, allCell, isCell, okVal, okCell, cellsOf, fillN, rowsN, cellsN, bnd, lohi, offAt, overL, segL, leave, NodeOK, List.cons_append, List.nil_append, List.append_nil, catA, anys, lenA])
  refine ⟨fun h => ?_, fun h => ?_⟩
  · have e : n < 0 := by simpa using h
    refine ⟨[], rfl, _, _, ?_, ?_, rfl, rfl⟩ <;> simp [Wk, mtc, mtcS, mtcSL, mtc0, mtc0L, mtcL, mtcO, mtcOs, cutM, takeE, stA, rl, renV, renL, ren1, ren1L, ren, rens, renO, Nat.blt, lenO, getO, setO, setL, anys, okS, endM, endH, idxN, takeE, pickE, catO, rl, renV, renL, ren1, ren1L, ren, rens, renO, Nat.blt, lenO, getO, setO, setL, anys, takeF, e, u8s]
  · have e : ¬ n < 0 := by simpa using h
    refine aw_call (rfleft b k bad h0 h1 hb) [0] rfl (by simp [upM, nthN, matchO, rens, ren, ren1, ren1L, renL, renV, renO, rl, lenO, getO, Nat.blt, mtc, mtcS, mtcSL, mtc0, mtc0L]) rfl (by simp [upM, nthN, matchO, rens, ren, ren1, ren1L, renL, renV, renO, rl, lenO, getO, Nat.blt, mtc, mtcS, mtcSL, mtc0, mtc0L, refO]) rfl (fun r hs hp hl => ?_)
    obtain ⟨rfl, rfl⟩ := hp
    simp only [snocO, upM, nthN, putAll, snocAll, killsA, killOsA, grows, putL, rl, renV, renL, ren1, ren1L, ren, rens, renO, Nat.blt, lenO, getO, setO, setL, anys, refO]
    (refine eval_sound 2000 _ _ _ ?_; simp (maxSteps := 1000000) only [ptrL, lenV, Bool.not_true, Bool.not_false, lookR, valOf, asGrow, jump, findA, restA, and, Nat.reduceAdd, Nat.reduceSub, Nat.reduceMul, Int.reduceToNat, eval, nf, nfO, opN, appTo, rowsV, getL, setL, getO, setO, snocO, lenO, putL, ev, evs, ifEq, killV, killL, kill1, kill1L, kill, kills, killO, killOs, bin, binI, binS, binB, eq1, eqB, lit, sameK, kn, unI, mxA, mnA, mkAgg, fits, partN, partA, resN, retV, allVal, isVal, allCell, isCell, okVal, okCell, cellsOf, fillN, rowsN, cellsN, bnd, lohi, offAt, overL, segL, leave, NodeOK, List.cons_append, List.nil_append, List.append_nil, catA, anys, lenA])
    refine ⟨fun h2 => ?_, fun h2 => ⟨fun h3 => ?_, fun h3 => ?_⟩⟩
    · have e2 : leftF b k bad < n := by simpa using h2
      refine ⟨[], rfl, _, _, ?_, ?_, rfl, rfl⟩ <;> simp [Wk, mtc, mtcS, mtcSL, mtc0, mtc0L, mtcL, mtcO, mtcOs, cutM, takeE, stA, rl, renV, renL, ren1, ren1L, ren, rens, renO, Nat.blt, lenO, getO, setO, setL, anys, okS, endM, endH, idxN, takeE, pickE, catO, rl, renV, renL, ren1, ren1L, ren, rens, renO, Nat.blt, lenO, getO, setO, setL, anys, takeF, e2, u8s]
    · refine ⟨[], rfl, _, _, ?_, ?_, rfl, rfl⟩ <;> simp [Wk, mtc, mtcS, mtcSL, mtc0, mtc0L, mtcL, mtcO, mtcOs, cutM, takeE, stA, rl, renV, renL, ren1, ren1L, ren, rens, renO, Nat.blt, lenO, getO, setO, setL, anys, okS, endM, endH, idxN, takeE, pickE, catO, rl, renV, renL, ren1, ren1L, ren, rens, renO, Nat.blt, lenO, getO, setO, setL, anys, takeF, h3, u8s]
    · have e2 : ¬ leftF b k bad < n := by simpa using h2
      have e3 : leftF b k bad = b.length - k := by simp [leftF, h3]
      rw [e3] at e2
      have hw : IntKind.i64.wrap (k + n) = k + n := wr64 (by omega) (by omega)
      refine aw_dregA (show Try.prog.follows .mixedOrders = true by kernel_rfl) 1 [] ?_ ?_ ?_
      · kernel_rfl
      · (simp only [tkO, dpO, tkN, AllOps, OpOK, mkR, autoV, autoR, labV, lkD, vOf, preT, preO, setTs, preV, wrt, memN, usesO, usesT, opT, optT, opsT, ptsT, setHs, objF, updD, newO, lkO, lkF, keysO, keysF, visN, deads, getL, setL, getO, setO, lenO, lenA, anys, setDs, setWr, setFr, endO, catD, List.getD_cons_zero, List.getD_cons_succ, List.getElem?_cons_zero, List.getElem?_cons_succ, List.cons_append, List.nil_append, List.append_nil, Nat.reduceAdd, Nat.reduceSub, ptrL, lenV, Bool.not_true, Bool.not_false, lookR, valOf, asGrow, jump, findA, restA, and, Nat.reduceAdd, Nat.reduceSub, Nat.reduceMul, Int.reduceToNat, eval, nf, nfO, opN, appTo, rowsV, getL, setL, getO, setO, snocO, lenO, putL, ev, evs, ifEq, killV, killL, kill1, kill1L, kill, kills, killO, killOs, bin, binI, binS, binB, eq1, eqB, lit, sameK, kn, unI, mxA, mnA, mkAgg, fits, partN, partA, resN, retV, allVal, isVal, allCell, isCell, okVal, okCell, cellsOf, fillN, rowsN, cellsN, bnd, lohi, offAt, overL, segL, leave, NodeOK, List.cons_append, List.nil_append, List.append_nil, catA, anys, lenA]; and_intros) <;> (first | exact trivial | ((refine eval_sound 2000 _ _ _ ?_; simp (maxSteps := 1000000) only [ptrL, lenV, Bool.not_true, Bool.not_false, lookR, valOf, asGrow, jump, findA, restA, and, Nat.reduceAdd, Nat.reduceSub, Nat.reduceMul, Int.reduceToNat, eval, nf, nfO, opN, appTo, rowsV, getL, setL, getO, setO, snocO, lenO, putL, ev, evs, ifEq, killV, killL, kill1, kill1L, kill, kills, killO, killOs, bin, binI, binS, binB, eq1, eqB, lit, sameK, kn, unI, mxA, mnA, mkAgg, fits, partN, partA, resN, retV, allVal, isVal, allCell, isCell, okVal, okCell, cellsOf, fillN, rowsN, cellsN, bnd, lohi, offAt, overL, segL, leave, NodeOK, List.cons_append, List.nil_append, List.append_nil, catA, anys, lenA]); try simp only [JR, dstOK, wrOK, frOK, rdOK, getL, getO]; try simp only [JR, dstOK, wrOK, frOK, rdOK, sig, sigF, isGrowB, mtc, mtcS, mtcSL, mtc0, mtc0L, mtcO, mtcL, memN, Nat.blt, rl, renV, renL, ren1, ren1L, ren, rens, renO, Nat.blt, lenO, getO, setO, setL, anys]; try simp))
        rw [hw, u8s_len]; omega
      · (simp only [tkO, dpO, tkN, AllOps, OpOK, mkR, autoV, autoR, labV, lkD, vOf, preT, preO, setTs, preV, wrt, memN, usesO, usesT, opT, optT, opsT, ptsT, setHs, objF, updD, newO, lkO, lkF, keysO, keysF, visN, deads, getL, setL, getO, setO, lenO, lenA, anys, setDs, setWr, setFr, endO, catD, List.getD_cons_zero, List.getD_cons_succ, List.getElem?_cons_zero, List.getElem?_cons_succ, List.cons_append, List.nil_append, List.append_nil, Nat.reduceAdd, Nat.reduceSub, ptrL, lenV, Bool.not_true, Bool.not_false, lookR, valOf, asGrow, jump, findA, restA, and, Nat.reduceAdd, Nat.reduceSub, Nat.reduceMul, Int.reduceToNat, eval, nf, nfO, opN, appTo, rowsV, getL, setL, getO, setO, snocO, lenO, putL, ev, evs, ifEq, killV, killL, kill1, kill1L, kill, kills, killO, killOs, bin, binI, binS, binB, eq1, eqB, lit, sameK, kn, unI, mxA, mnA, mkAgg, fits, partN, partA, resN, retV, allVal, isVal, allCell, isCell, okVal, okCell, cellsOf, fillN, rowsN, cellsN, bnd, lohi, offAt, overL, segL, leave, NodeOK, List.cons_append, List.nil_append, List.append_nil, catA, anys, lenA]; (refine eval_sound 2000 _ _ _ ?_; simp (maxSteps := 1000000) only [ptrL, lenV, Bool.not_true, Bool.not_false, lookR, valOf, asGrow, jump, findA, restA, and, Nat.reduceAdd, Nat.reduceSub, Nat.reduceMul, Int.reduceToNat, eval, nf, nfO, opN, appTo, rowsV, getL, setL, getO, setO, snocO, lenO, putL, ev, evs, ifEq, killV, killL, kill1, kill1L, kill, kills, killO, killOs, bin, binI, binS, binB, eq1, eqB, lit, sameK, kn, unI, mxA, mnA, mkAgg, fits, partN, partA, resN, retV, allVal, isVal, allCell, isCell, okVal, okCell, cellsOf, fillN, rowsN, cellsN, bnd, lohi, offAt, overL, segL, leave, NodeOK, List.cons_append, List.nil_append, List.append_nil, catA, anys, lenA]))
        simp only [hw]
        have ht : takeF b k bad n = ((b.drop k.toNat).take n.toNat, k + n, false) := by
          unfold takeF
          rw [e3, if_neg (by simp [h3]; omega)]
        refine ⟨[], rfl, _, _, ?_, ?_, rfl, rfl⟩
        · simp [Wk, mtc, mtcS, mtcSL, mtc0, mtc0L, mtcL, mtcO, mtcOs, cutM, takeE, stA, rl, renV, renL, ren1, ren1L, ren, rens, renO, Nat.blt, lenO, getO, setO, setL, anys, okS, endM, endH, idxN, takeE, pickE, catO, rl, renV, renL, ren1, ren1L, ren, rens, renO, Nat.blt, lenO, getO, setO, setL, anys, ht, u8s_drop, u8s_take, show (k + n).toNat - k.toNat = n.toNat by omega]
        · rw [ht]; simp [Wk, mtc, mtcS, mtcSL, mtc0, mtc0L, mtcL, mtcO, mtcOs, cutM, takeE, stA, rl, renV, renL, ren1, ren1L, ren, rens, renO, Nat.blt, lenO, getO, setO, setL, anys, okS, endM, endH, idxN, takeE, pickE, catO, rl, renV, renL, ren1, ren1L, ren, rens, renO, Nat.blt, lenO, getO, setO, setL, anys, h3]
def numW : List Int → Int
  | [] => 0
  | x :: l => IntKind.u64.wrap (IntKind.u64.wrap (256 * numW l) + IntKind.u64.wrap x)
def numF (b : List Int) (k : Int) (bad : Bool) (n : Int) : Int × Int × Bool := if n < 1 ∨ 8 < n then (0, k, true) else (numW (takeF b k bad n).1, (takeF b k bad n).2)
theorem rfnum (b : List Int) (k : Int) (bad : Bool) (n : Int) (h0 : 0 ≤ k) (h1 : k ≤ b.length) (hb : b.length ≤ 20000) : ACalls Try.prog 56 [.ptr 0 0, .int .i64 n] [refO b k bad] (fun r hs => r = .int .u64 (numF b k bad n).1 ∧ hs = [refO b (numF b k bad n).2.1 (numF b k bad n).2.2]) := by
  refine acalls_weak (acalls_of (fn := Try.f56) (A := a56) Try.func56 ok_56 en_56 ?_)
  dsimp only [a56, refO]
  (refine eval_sound 2000 _ _ _ ?_; simp (maxSteps := 1000000) only [ptrL, lenV, Bool.not_true, Bool.not_false, lookR, valOf, asGrow, jump, findA, restA, and, Nat.reduceAdd, Nat.reduceSub, Nat.reduceMul, Int.reduceToNat, eval, nf, nfO, opN, appTo, rowsV, getL, setL, getO, setO, snocO, lenO, putL, ev, evs, ifEq, killV, killL, kill1, kill1L, kill, kills, killO, killOs, bin, binI, binS, binB, eq1, eqB, lit, sameK, kn, unI, mxA, mnA, mkAgg, fits, partN, partA, resN, retV, allVal, isVal, allCell, isCell, okVal, okCell, cellsOf, fillN, rowsN, cellsN, bnd, lohi, offAt, overL, segL, leave, NodeOK, List.cons_append, List.nil_append, List.append_nil, catA, anys, lenA])
  refine ⟨fun h => ?_, fun h => ⟨fun h2 => ?_, fun h2 => ?_⟩⟩
  · have e : n < 1 := by simpa using h
    refine ⟨[], rfl, _, _, ?_, ?_, rfl, rfl⟩ <;> simp [Wk, mtc, mtcS, mtcSL, mtc0, mtc0L, mtcL, mtcO, mtcOs, cutM, takeE, stA, rl, renV, renL, ren1, ren1L, ren, rens, renO, Nat.blt, lenO, getO, setO, setL, anys, okS, endM, endH, idxN, takeE, pickE, catO, rl, renV, renL, ren1, ren1L, ren, rens, renO, Nat.blt, lenO, getO, setO, setL, anys, numF, e, u8s]
  · have e : 8 < n := by simpa using h2
    refine ⟨[], rfl, _, _, ?_, ?_, rfl, rfl⟩ <;> simp [Wk, mtc, mtcS, mtcSL, mtc0, mtc0L, mtcL, mtcO, mtcOs, cutM, takeE, stA, rl, renV, renL, ren1, ren1L, ren, rens, renO, Nat.blt, lenO, getO, setO, setL, anys, okS, endM, endH, idxN, takeE, pickE, catO, rl, renV, renL, ren1, ren1L, ren, rens, renO, Nat.blt, lenO, getO, setO, setL, anys, numF, e, u8s]
  · have e : ¬ (n < 1 ∨ 8 < n) := by simp at h h2; omega
    refine aw_call (rftake b k bad n h0 h1 hb) [0] rfl (by simp [upM, nthN, matchO, rens, ren, ren1, ren1L, renL, renV, renO, rl, lenO, getO, Nat.blt, mtc, mtcS, mtcSL, mtc0, mtc0L]) rfl (by simp [upM, nthN, matchO, rens, ren, ren1, ren1L, renL, renV, renO, rl, lenO, getO, Nat.blt, mtc, mtcS, mtcSL, mtc0, mtc0L, refO]) rfl (fun r hs hp hl => ?_)
    obtain ⟨rfl, rfl⟩ := hp
    simp only [snocO, upM, nthN, putAll, snocAll, killsA, killOsA, grows, putL, rl, renV, renL, ren1, ren1L, ren, rens, renO, Nat.blt, lenO, getO, setO, setL, anys, refO]
    (refine eval_sound 2000 _ _ _ ?_; simp (maxSteps := 1000000) only [ptrL, lenV, Bool.not_true, Bool.not_false, lookR, valOf, asGrow, jump, findA, restA, and, Nat.reduceAdd, Nat.reduceSub, Nat.reduceMul, Int.reduceToNat, eval, nf, nfO, opN, appTo, rowsV, getL, setL, getO, setO, snocO, lenO, putL, ev, evs, ifEq, killV, killL, kill1, kill1L, kill, kills, killO, killOs, bin, binI, binS, binB, eq1, eqB, lit, sameK, kn, unI, mxA, mnA, mkAgg, fits, partN, partA, resN, retV, allVal, isVal, allCell, isCell, okVal, okCell, cellsOf, fillN, rowsN, cellsN, bnd, lohi, offAt, overL, segL, leave, NodeOK, List.cons_append, List.nil_append, List.append_nil, catA, anys, lenA])
    have hc : (takeF b k bad n).1.length ≤ 8 := by unfold takeF; split <;> simp; omega
    simp only [numF, e, if_false]
    generalize (takeF b k bad n).1 = c at *
    generalize (takeF b k bad n).2.1 = k' at *
    generalize (takeF b k bad n).2.2 = b' at *
    simp only [u8s_len]
    rw [wr64 (by omega) (by omega)]
    refine aw_loop (α := Nat) (fun i => i ≤ c.length) (fun i => stA 36 [(5, .ro 1 (u8s c)), (6, .int .u64 (numW (c.drop i))), (7, .int .i64 ((i : Int) - 1))]) (fun i => [refO b k' b']) (fun i => i) c.length (Nat.le_refl _) ?_ (fun _ => rfl) fun i hi => ?_
    · simp [Wk, mtc, mtcS, mtcSL, mtc0, mtc0L, mtcL, mtcO, mtcOs, cutM, takeE, stA, rl, renV, renL, ren1, ren1L, ren, rens, renO, Nat.blt, lenO, getO, setO, setL, anys, refO, numW]
    simp only [stA, anys, setL, refO]
    (refine eval_sound 2000 _ _ _ ?_; simp (maxSteps := 1000000) only [ptrL, lenV, Bool.not_true, Bool.not_false, lookR, valOf, asGrow, jump, findA, restA, and, Nat.reduceAdd, Nat.reduceSub, Nat.reduceMul, Int.reduceToNat, eval, nf, nfO, opN, appTo, rowsV, getL, setL, getO, setO, snocO, lenO, putL, ev, evs, ifEq, killV, killL, kill1, kill1L, kill, kills, killO, killOs, bin, binI, binS, binB, eq1, eqB, lit, sameK, kn, unI, mxA, mnA, mkAgg, fits, partN, partA, resN, retV, allVal, isVal, allCell, isCell, okVal, okCell, cellsOf, fillN, rowsN, cellsN, bnd, lohi, offAt, overL, segL, leave, NodeOK, List.cons_append, List.nil_append, List.append_nil, catA, anys, lenA])
    refine ⟨fun h3 => ?_, fun h3 => ?_⟩
    · have h4 : 0 < i := by have : (0 : Int) ≤ (i : Int) - 1 := by simpa using h3
                            omega
      obtain ⟨j, rfl⟩ : ∃ j, i = j + 1 := ⟨i - 1, by omega⟩
      rw [show ((j + 1 : Nat) : Int) - 1 = (j : Int) by omega]
      refine ⟨by omega, [.int .u8 c[j]], by simp [u8s, hi], ?_⟩
      (refine eval_sound 2000 _ _ _ ?_; simp (maxSteps := 1000000) only [ptrL, lenV, Bool.not_true, Bool.not_false, lookR, valOf, asGrow, jump, findA, restA, and, Nat.reduceAdd, Nat.reduceSub, Nat.reduceMul, Int.reduceToNat, eval, nf, nfO, opN, appTo, rowsV, getL, setL, getO, setO, snocO, lenO, putL, ev, evs, ifEq, killV, killL, kill1, kill1L, kill, kills, killO, killOs, bin, binI, binS, binB, eq1, eqB, lit, sameK, kn, unI, mxA, mnA, mkAgg, fits, partN, partA, resN, retV, allVal, isVal, allCell, isCell, okVal, okCell, cellsOf, fillN, rowsN, cellsN, bnd, lohi, offAt, overL, segL, leave, NodeOK, List.cons_append, List.nil_append, List.append_nil, catA, anys, lenA])
      rw [wr64 (n := (j : Int) - 1) (by omega) (by omega)]
      refine ⟨j, by omega, by omega, ?_⟩
      simp only [Wk, mtc, mtcS, mtcSL, mtc0, mtc0L, mtcL, mtcO, mtcOs, cutM, takeE, stA, rl, renV, renL, ren1, ren1L, ren, rens, renO, Nat.blt, lenO, getO, setO, setL, anys]
      rw [List.drop_eq_getElem_cons (show j < c.length by omega)]
      simp [numW, refO]
    · have : i = 0 := by have : ¬ (0 : Int) ≤ (i : Int) - 1 := by simpa using h3
                         omega
      subst this
      refine ⟨[], rfl, _, _, ?_, ?_, rfl, rfl⟩ <;> simp [Wk, mtc, mtcS, mtcSL, mtc0, mtc0L, mtcL, mtcO, mtcOs, cutM, takeE, stA, rl, renV, renL, ren1, ren1L, ren, rens, renO, Nat.blt, lenO, getO, setO, setL, anys, okS, endM, endH, idxN, takeE, pickE, catO, rl, renV, renL, ren1, ren1L, ren, rens, renO, Nat.blt, lenO, getO, setO, setL, anys, refO]
def byteAt (n : Int) (i : Nat) : Int := IntKind.u8.wrap (n.fdiv (2 ^ (min (8 * i) 64)))
def u64s (ns : List Int) : List (List AV) := ns.map fun n => [.int .u64 n]
def numS (n : Int) (k : Nat) : List (List AV) := (List.range k).map fun i => [.int .u8 (byteAt n i)]
def putS (b : List (List AV)) (w : Int) (ns : List Int) : List (List AV) := if w < 1 ∨ 8 < w then b else b ++ ns.flatMap fun n => numS n w.toNat
theorem numS_len (n : Int) (k : Nat) : (numS n k).length = k := by simp [numS]
theorem numS_succ (n : Int) (k : Nat) : numS n (k + 1) = numS n k ++ [[.int .u8 (byteAt n k)]] := by simp [numS, List.range_succ]
theorem flat_len (k : Nat) : ∀ l : List Int, (l.flatMap fun n => numS n k).length = l.length * k
  | [] => by simp
  | n :: l => by simp [flat_len k l, numS_len, Nat.add_mul, Nat.add_comm]
set_option maxHeartbeats 1000000 in
theorem put_calls (b : List (List AV)) (w : Int) (ns : List Int) (hb : b.length + 8 * ns.length ≤ 140737488355328) : ACalls Try.prog 46 [.ro 1 b, .int .i64 w, .ro 1 (u64s ns)] [] (fun r hs => r = .own 0 ∧ hs = [.grow 5 1 (putS b w ns)]) := by
  refine acalls_of (fn := Try.f46) (A := a46) Try.func46 ok_46 en_46 ?_
  dsimp only [a46]
  (refine eval_sound 2000 _ _ _ ?_; simp (maxSteps := 1000000) only [ptrL, lenV, Bool.not_true, Bool.not_false, lookR, valOf, asGrow, jump, findA, restA, and, Nat.reduceAdd, Nat.reduceSub, Nat.reduceMul, Int.reduceToNat, eval, nf, nfO, opN, appTo, rowsV, getL, setL, getO, setO, snocO, lenO, putL, ev, evs, ifEq, killV, killL, kill1, kill1L, kill, kills, killO, killOs, bin, binI, binS, binB, eq1, eqB, lit, sameK, kn, unI, mxA, mnA, mkAgg, fits, partN, partA, resN, retV, allVal, isVal, allCell, isCell, okVal, okCell, cellsOf, fillN, rowsN, cellsN, bnd, lohi, offAt, overL, segL, leave, NodeOK, List.cons_append, List.nil_append, List.append_nil, catA, anys, lenA])
  refine ⟨by simp; omega, fun h => ⟨[0], rfl, rfl, ?_⟩, fun h => ⟨fun h2 => ⟨[0], rfl, rfl, ?_⟩, fun h2 => ?_⟩⟩
  · have : w < 1 ∨ 8 < w := by simp at h; omega
    simp [okS, endM, endH, idxN, takeE, pickE, catO, rl, renV, renL, ren1, ren1L, ren, rens, renO, Nat.blt, lenO, getO, setO, setL, anys, putS, this]
  · have : w < 1 ∨ 8 < w := by simp at h2; omega
    simp [okS, endM, endH, idxN, takeE, pickE, catO, rl, renV, renL, ren1, ren1L, ren, rens, renO, Nat.blt, lenO, getO, setO, setL, anys, putS, this]
  simp only [decide_eq_false_iff_not] at h h2
  refine aw_loop (α := Nat) (fun i => i ≤ ns.length) (fun i => stA 42 [(1, .int .i64 w), (7, .own 0), (21, .ro 1 (u64s ns)), (22, .int .i64 (ns.length)), (23, .int .i64 i)]) (fun i => [.grow 5 1 (b ++ (ns.take i).flatMap fun n => numS n w.toNat)]) (fun i => ns.length - i) 0 (Nat.zero_le _) ?_ (fun _ => rfl) fun i hi => ?_
  · simp [Wk, mtc, mtcS, mtcSL, mtc0, mtc0L, mtcL, mtcO, mtcOs, cutM, takeE, stA, rl, renV, renL, ren1, ren1L, ren, rens, renO, Nat.blt, lenO, getO, setO, setL, anys, u64s]
  simp only [stA, anys, setL]
  (refine eval_sound 2000 _ _ _ ?_; simp (maxSteps := 1000000) only [ptrL, lenV, Bool.not_true, Bool.not_false, lookR, valOf, asGrow, jump, findA, restA, and, Nat.reduceAdd, Nat.reduceSub, Nat.reduceMul, Int.reduceToNat, eval, nf, nfO, opN, appTo, rowsV, getL, setL, getO, setO, snocO, lenO, putL, ev, evs, ifEq, killV, killL, kill1, kill1L, kill, kills, killO, killOs, bin, binI, binS, binB, eq1, eqB, lit, sameK, kn, unI, mxA, mnA, mkAgg, fits, partN, partA, resN, retV, allVal, isVal, allCell, isCell, okVal, okCell, cellsOf, fillN, rowsN, cellsN, bnd, lohi, offAt, overL, segL, leave, NodeOK, List.cons_append, List.nil_append, List.append_nil, catA, anys, lenA])
  refine ⟨fun h3 => ?_, fun h3 => ?_⟩
  · have h4 : i < ns.length := by simpa using h3
    refine ⟨by omega, [.int .u64 ns[i]], by simp [u64s, h4], ?_⟩
    (refine eval_sound 2000 _ _ _ ?_; simp (maxSteps := 1000000) only [ptrL, lenV, Bool.not_true, Bool.not_false, lookR, valOf, asGrow, jump, findA, restA, and, Nat.reduceAdd, Nat.reduceSub, Nat.reduceMul, Int.reduceToNat, eval, nf, nfO, opN, appTo, rowsV, getL, setL, getO, setO, snocO, lenO, putL, ev, evs, ifEq, killV, killL, kill1, kill1L, kill, kills, killO, killOs, bin, binI, binS, binB, eq1, eqB, lit, sameK, kn, unI, mxA, mnA, mkAgg, fits, partN, partA, resN, retV, allVal, isVal, allCell, isCell, okVal, okCell, cellsOf, fillN, rowsN, cellsN, bnd, lohi, offAt, overL, segL, leave, NodeOK, List.cons_append, List.nil_append, List.append_nil, catA, anys, lenA])
    refine aw_loop (α := Nat) (fun j => (j : Int) ≤ w) (fun j => stA 42 [(1, .int .i64 w), (7, .own 0), (21, .ro 1 (u64s ns)), (22, .int .i64 (ns.length)), (23, .int .i64 i), (9, .int .u64 ns[i]), (27, .int .i64 w), (28, .int .i64 j)]) (fun j => [.grow 5 1 (b ++ ((ns.take i).flatMap fun n => numS n w.toNat) ++ numS ns[i] j)]) (fun j => w.toNat - j) 0 (by omega) ?_ (fun _ => rfl) fun j hj => ?_
    · simp [Wk, mtc, mtcS, mtcSL, mtc0, mtc0L, mtcL, mtcO, mtcOs, cutM, takeE, stA, rl, renV, renL, ren1, ren1L, ren, rens, renO, Nat.blt, lenO, getO, setO, setL, anys, u64s, numS]
    simp only [stA, anys, setL]
    (refine eval_sound 2000 _ _ _ ?_; simp (maxSteps := 1000000) only [ptrL, lenV, Bool.not_true, Bool.not_false, lookR, valOf, asGrow, jump, findA, restA, and, Nat.reduceAdd, Nat.reduceSub, Nat.reduceMul, Int.reduceToNat, eval, nf, nfO, opN, appTo, rowsV, getL, setL, getO, setO, snocO, lenO, putL, ev, evs, ifEq, killV, killL, kill1, kill1L, kill, kills, killO, killOs, bin, binI, binS, binB, eq1, eqB, lit, sameK, kn, unI, mxA, mnA, mkAgg, fits, partN, partA, resN, retV, allVal, isVal, allCell, isCell, okVal, okCell, cellsOf, fillN, rowsN, cellsN, bnd, lohi, offAt, overL, segL, leave, NodeOK, List.cons_append, List.nil_append, List.append_nil, catA, anys, lenA])
    refine ⟨fun h5 => ?_, fun h5 => ?_⟩
    · have h6 : (j : Int) < w := by simpa using h5
      rw [wr64 (n := 8 * (j : Int)) (by omega) (by omega), wr64 (n := (j : Int) + 1) (by omega) (by omega)]
      have hm : i * w.toNat ≤ (ns.length - 1) * 8 := Nat.mul_le_mul (by omega) (by omega)
      refine ⟨by omega, ?_, j + 1, by omega, by omega, ?_⟩
      · simp only [List.length_append, flat_len, numS_len, List.length_take, Nat.min_eq_left hi, List.length_cons, List.length_nil]
        omega
      · simp [Wk, mtc, mtcS, mtcSL, mtc0, mtc0L, mtcL, mtcO, mtcOs, cutM, takeE, stA, rl, renV, renL, ren1, ren1L, ren, rens, renO, Nat.blt, lenO, getO, setO, setL, anys, numS_succ, byteAt, IntKind.bits, show (8 * (j : Int)).toNat = 8 * j by omega]
    have h6 : (j : Int) = w := by simp at h5; omega
    have : j = w.toNat := by omega
    subst this
    rw [wr64 (n := (i : Int) + 1) (by omega) (by omega)]
    refine ⟨i + 1, by omega, by omega, ?_⟩
    simp only [Wk, mtc, mtcS, mtcSL, mtc0, mtc0L, mtcL, mtcO, mtcOs, cutM, takeE, stA, rl, renV, renL, ren1, ren1L, ren, rens, renO, Nat.blt, lenO, getO, setO, setL, anys]
    rw [List.take_succ_eq_append_getElem h4]
    refine ⟨by omega, by simp, ?_, trivial⟩
    simp only [List.flatMap_append, List.flatMap_cons, List.flatMap_nil, List.append_nil, List.append_assoc]
  refine ⟨[0], rfl, rfl, ?_⟩
  have : ns.length = i := by simp at h3; omega
  subst this
  have : ¬ (w < 1 ∨ 8 < w) := by omega
  simp [okS, endM, endH, idxN, takeE, pickE, catO, rl, renV, renL, ren1, ren1L, ren, rens, renO, Nat.blt, lenO, getO, setO, setL, anys, putS, this]
theorem read_ (b : List Int) : ACalls Try.prog 58 [.ro 1 (u8s b)] [] (fun r hs => r = .ptr 0 0 ∧ hs = [rdO b false]) := by
  refine acalls_weak (acalls_of (fn := Try.f58) (A := a58) Try.func58 ok_58 en_58 ?_)
  dsimp only [a58, rdO]
  (refine eval_sound 2000 _ _ _ ?_; simp (maxSteps := 1000000) only [ptrL, lenV, Bool.not_true, Bool.not_false, lookR, valOf, asGrow, jump, findA, restA, and, Nat.reduceAdd, Nat.reduceSub, Nat.reduceMul, Int.reduceToNat, eval, nf, nfO, opN, appTo, rowsV, getL, setL, getO, setO, snocO, lenO, putL, ev, evs, ifEq, killV, killL, kill1, kill1L, kill, kills, killO, killOs, bin, binI, binS, binB, eq1, eqB, lit, sameK, kn, unI, mxA, mnA, mkAgg, fits, partN, partA, resN, retV, allVal, isVal, allCell, isCell, okVal, okCell, cellsOf, fillN, rowsN, cellsN, bnd, lohi, offAt, overL, segL, leave, NodeOK, List.cons_append, List.nil_append, List.append_nil, catA, anys, lenA])
  refine ⟨by simp, [0], rfl, _, _, ?_, ?_, rfl, rfl⟩ <;> simp [Wk, mtc, mtcS, mtcSL, mtc0, mtc0L, mtcL, mtcO, mtcOs, cutM, takeE, stA, rl, renV, renL, ren1, ren1L, ren, rens, renO, Nat.blt, lenO, getO, setO, setL, anys, okS, endM, endH, idxN, takeE, pickE, catO, rl, renV, renL, ren1, ren1L, ren, rens, renO, Nat.blt, lenO, getO, setO, setL, anys, rdO]
def Rl (b l : List Int) (bad : Bool) (k : Int) : Prop := 0 ≤ k ∧ k ≤ b.length ∧ l = if bad = true then [] else b.drop k.toNat
theorem rl_left {b l : List Int} {bad : Bool} {k : Int} (h : Rl b l bad k) : (l.length : Int) = leftF b k bad := by
  obtain ⟨h0, h1, h2⟩ := h
  subst h2
  unfold leftF
  split <;> simp; omega
theorem rl_take {b l : List Int} {bad : Bool} {k : Int} (n : Int) (h : Rl b l bad k) : (cutR l bad n).1 = (takeF b k bad n).1 ∧ (cutR l bad n).2.2 = (takeF b k bad n).2.2 ∧ Rl b (cutR l bad n).2.1 (cutR l bad n).2.2 (takeF b k bad n).2.1 := by
  have hl := rl_left h
  obtain ⟨h0, h1, h2⟩ := h
  unfold cutR takeF
  rw [hl]
  split
  · exact ⟨rfl, rfl, h0, h1, by simp⟩
  · rename_i e
    have e1 : ¬ bad = true := fun e' => e (.inr (.inr e'))
    rw [if_neg e1] at h2
    have e2 : leftF b k bad = b.length - k := by simp [leftF, e1]
    have e3 : ¬ n < 0 := fun e' => e (.inl e')
    have e4 : ¬ leftF b k bad < n := fun e' => e (.inr (.inl e'))
    refine ⟨by rw [h2], by simpa using e1, by simp; omega, by simp; omega, ?_⟩
    rw [if_neg e1, h2, List.drop_drop, show (k + n).toNat = k.toNat + n.toNat by omega]
def ByteL (l : List Int) : Prop := ∀ x ∈ l, 0 ≤ x ∧ x ≤ 255
theorem wru64 {n : Int} (h1 : 0 ≤ n) (h2 : n < 18446744073709551616) : IntKind.u64.wrap n = n := IntWalk.u64_in _ ⟨h1, by omega⟩
def leN : List Int → Nat
  | [] => 0
  | x :: l => x.toNat + 256 * leN l
theorem leN_lt (l : List Int) (h : ByteL l) : leN l < 256 ^ l.length := by
  induction l with
  | nil => simp [leN]
  | cons x l ih =>
    have := ih fun y hy => h y (by simp [hy])
    have h1 := h x (by simp)
    simp only [leN, List.length_cons, Nat.pow_succ]
    omega
theorem pow8 {k : Nat} (h : k ≤ 8) : 256 ^ k ≤ 18446744073709551616 := by
  have : 256 ^ k ≤ 256 ^ 8 := Nat.pow_le_pow_right (by omega) h
  simpa using this
theorem numW_eq (l : List Int) (h : ByteL l) (hl : l.length ≤ 8) : numW l = leN l := by
  induction l with
  | nil => rfl
  | cons x l ih =>
    have hb : ByteL l := fun y hy => h y (by simp [hy])
    have h1 := h x (by simp)
    have h2 := leN_lt l hb
    have h3 := leN_lt (x :: l) h
    have h4 := pow8 hl
    simp only [leN] at h3
    simp only [List.length_cons] at hl
    simp only [numW, ih hb (by omega), leN]
    rw [wru64 (n := 256 * (leN l : Int)) (by omega) (by omega), wru64 (n := x) (by omega) (by omega), wru64 (by omega) (by omega)]
    omega
theorem leN_snoc (x : Int) : ∀ l : List Int, leN (l ++ [x]) = leN l + x.toNat * 256 ^ l.length
  | [] => by simp [leN]
  | y :: l => by
    simp only [List.cons_append, leN, leN_snoc x l, List.length_cons, Nat.pow_succ]
    rw [Nat.mul_add, Nat.add_assoc]
    congr 2
    rw [Nat.mul_comm 256, Nat.mul_assoc]
theorem or_add (a x k : Nat) (ha : a < 256 ^ k) : a ||| (x * 256 ^ k) = a + x * 256 ^ k := by
  have e : 256 ^ k = 2 ^ (8 * k) := by rw [Nat.pow_mul]
  rw [e] at ha ⊢
  have := Nat.shiftLeft_add_eq_or_of_lt ha x
  rw [Nat.shiftLeft_eq] at this
  rw [Nat.or_comm, ← this, Nat.add_comm]
theorem numG_eq (c : List Int) (h : ByteL c) (hl : c.length ≤ 8) : ∀ k, k ≤ c.length → numG c k = leN (c.take k)
  | 0, _ => by simp [numG, leN]
  | k + 1, hk => by
    have hk' : k < c.length := by omega
    have ih := numG_eq c h hl k (by omega)
    have hx := h c[k] (List.getElem_mem hk')
    have hb : ByteL (c.take k) := fun y hy => h y (List.mem_of_mem_take hy)
    have hb2 : ByteL (c.take (k + 1)) := fun y hy => h y (List.mem_of_mem_take hy)
    have h1 := leN_lt _ hb
    have h2 := leN_lt _ hb2
    have h3 := pow8 (k := (c.take (k + 1)).length) (by simp; omega)
    have e : c.take (k + 1) = c.take k ++ [c[k]] := List.take_succ_eq_append_getElem hk'
    rw [e, leN_snoc] at h2
    rw [e, leN_snoc]
    rw [← e] at h2
    simp only [List.length_take, Nat.min_eq_left (show k ≤ c.length by omega)] at h1 h2 ⊢
    have hlen : (c.take (k + 1)).length = k + 1 := by simp; omega
    rw [hlen] at h3
    rw [Nat.min_eq_left hk] at h2
    have hs : shl8 (c.getD k 0) k = ((c[k].toNat * 256 ^ k : Nat) : Int) := by
      unfold shl8
      rw [List.getD_eq_getElem?_getD, List.getElem?_eq_getElem hk', Option.getD_some, Nat.min_eq_left (by omega), wru64 (n := c[k]) (by omega) (by omega)]
      have e2 : (c[k] * 2 ^ (8 * k) : Int) = ((c[k].toNat * 256 ^ k : Nat) : Int) := by
        have e3 : (2 : Int) ^ (8 * k) = ((256 ^ k : Nat) : Int) := by
          rw [show (256 : Nat) = 2 ^ 8 from rfl, ← Nat.pow_mul]
          simp
        rw [e3, Int.natCast_mul, Int.toNat_of_nonneg hx.1]
      rw [e2, wru64 (by omega) (by omega)]
    simp only [numG, ih, hs]
    generalize leN (c.take k) = A at *
    generalize hB : c[k].toNat * 256 ^ k = B at *
    have : (BitVec.ofInt IntKind.u64.bits (A : Int) ||| BitVec.ofInt IntKind.u64.bits (B : Int)).toNat = A ||| B := by
      show (BitVec.ofInt 64 (A : Int) ||| BitVec.ofInt 64 (B : Int)).toNat = A ||| B
      rw [BitVec.toNat_or, BitVec.toNat_ofInt, BitVec.toNat_ofInt]
      congr 1 <;> (simp; omega)
    rw [this, ← hB, or_add _ _ _ h1, hB, wru64 (by omega) (by omega)]
theorem num_eq (c : List Int) (hc : ByteL c) (hl : c.length ≤ 8) : numG c c.length = numW c := by
  rw [numG_eq c hc hl _ (Nat.le_refl _), numW_eq c hc hl, List.take_length]
theorem take_mem (b : List Int) (k : Int) (bad : Bool) (n : Int) (hb : ByteL b) : ByteL (takeF b k bad n).1 := by
  unfold takeF
  split
  · intro x hx; simp at hx
  · intro x hx; exact hb x (List.mem_of_mem_drop (List.mem_of_mem_take hx))
theorem rl_num {b l : List Int} {bad : Bool} {k : Int} (n : Int) (hb : ByteL b) (h : Rl b l bad k) : (numV l bad n).1 = (numF b k bad n).1 ∧ (numV l bad n).2.2 = (numF b k bad n).2.2 ∧ Rl b (numV l bad n).2.1 (numV l bad n).2.2 (numF b k bad n).2.1 := by
  unfold numV numF
  split
  · exact ⟨rfl, rfl, h.1, h.2.1, by simp⟩
  · rename_i e
    obtain ⟨h1, h2, h3⟩ := rl_take n h
    refine ⟨?_, h2, h3⟩
    simp only [h1]
    refine num_eq _ (take_mem b k bad n hb) ?_
    unfold takeF
    split <;> simp
    omega
theorem div_pow (n : Int) (h : 0 ≤ n) (i : Nat) (hi : i < 8) : byteAt n i = IntKind.u8.wrap ((n / 256 ^ i).tmod 256) := by
  unfold byteAt
  rw [Nat.min_eq_left (by omega), show (2 : Int) ^ (8 * i) = 256 ^ i by rw [Int.pow_mul]; rfl, Int.fdiv_eq_ediv_of_nonneg _ (by have : (0 : Int) < 256 ^ i := Int.pow_pos (by omega); omega)]
  have h2 : 0 ≤ n / 256 ^ i := Int.ediv_nonneg h (by have : (0 : Int) < 256 ^ i := Int.pow_pos (by omega); omega)
  rw [Int.tmod_eq_emod_of_nonneg h2, IntKind.wrap_u8, IntKind.wrap_u8]
  omega
theorem rput_c (b : List (List AV)) (w n : Int) (hb : b.length ≤ 100000) (hn : 0 ≤ n ∧ n < 18446744073709551616) : ACalls Try.prog 51 [.ro 1 b, .int .i64 w, .int .u64 n] [] (fun r hs => r = .own 0 ∧ hs = [.grow 5 1 (putS b w [n])]) := by
  refine acalls_weak (acalls_of (fn := Try.f51) (A := a51) Try.func51 ok_51 en_51 ?_)
  dsimp only [a51, u8s]
  (refine eval_sound 2000 _ _ _ ?_; simp (maxSteps := 1000000) only [ptrL, lenV, Bool.not_true, Bool.not_false, lookR, valOf, asGrow, jump, findA, restA, and, Nat.reduceAdd, Nat.reduceSub, Nat.reduceMul, Int.reduceToNat, eval, nf, nfO, opN, appTo, rowsV, getL, setL, getO, setO, snocO, lenO, putL, ev, evs, ifEq, killV, killL, kill1, kill1L, kill, kills, killO, killOs, bin, binI, binS, binB, eq1, eqB, lit, sameK, kn, unI, mxA, mnA, mkAgg, fits, partN, partA, resN, retV, allVal, isVal, allCell, isCell, okVal, okCell, cellsOf, fillN, rowsN, cellsN, bnd, lohi, offAt, overL, segL, leave, NodeOK, List.cons_append, List.nil_append, List.append_nil, catA, anys, lenA])
  simp only [decide_eq_true_eq, decide_eq_false_iff_not]
  refine ⟨by omega, fun h3 => ?_, fun h3 => ⟨fun h4 => ?_, fun h4 => ?_⟩⟩
  · have e : putS b w [n] = b := by unfold putS; rw [if_pos (.inl h3)]
    rw [e]
    refine ⟨[0], rfl, _, _, ?_, ?_, rfl, rfl⟩ <;> simp [Wk, mtc, mtcS, mtcSL, mtc0, mtc0L, mtcL, mtcO, mtcOs, cutM, takeE, stA, rl, renV, renL, ren1, ren1L, ren, rens, renO, Nat.blt, lenO, getO, setO, setL, anys, okS, endM, endH, idxN, takeE, pickE, catO, rl, renV, renL, ren1, ren1L, ren, rens, renO, Nat.blt, lenO, getO, setO, setL, anys]
  · have e : putS b w [n] = b := by unfold putS; rw [if_pos (.inr h4)]
    rw [e]
    refine ⟨[0], rfl, _, _, ?_, ?_, rfl, rfl⟩ <;> simp [Wk, mtc, mtcS, mtcSL, mtc0, mtc0L, mtcL, mtcO, mtcOs, cutM, takeE, stA, rl, renV, renL, ren1, ren1L, ren, rens, renO, Nat.blt, lenO, getO, setO, setL, anys, okS, endM, endH, idxN, takeE, pickE, catO, rl, renV, renL, ren1, ren1L, ren, rens, renO, Nat.blt, lenO, getO, setO, setL, anys]
  · have e : putS b w [n] = b ++ numS n w.toNat := by unfold putS; rw [if_neg (by omega)]; simp
    rw [e]
    refine aw_loopU (α := Nat) (fun k => k ≤ w.toNat) (fun k => [(2, .int .u64 (n / 256 ^ k)), (7, .own 0), (8, .int .i64 k)]) (fun k => [(0, .grow 5 1 (b ++ numS n k))]) (fun k => w.toNat - k) (0) (Nat.zero_le _) ?_ fun x hx => ?_
    · have e0 : numS n ((0 : Nat)) = [] := rfl
      have e1 : n / 256 ^ 0 = n := by simp
      rw [e0, e1, List.append_nil]
      (simp only [wrC, wrOs, keepT, memN, setsL, setsO, setL, setO, snocO, List.cons_append, List.nil_append, List.append_nil, Nat.reduceAdd, Nat.zero_add, Wk, mtc, mtcS, mtcSL, mtc0, mtc0L, mtcL, mtcO, mtcOs, cutM, takeE, stA, rl, renV, renL, ren1, ren1L, ren, rens, renO, Nat.blt, lenO, getO, setO, setL, anys, u8s]; simp [u8s])
    (simp only [wrC, wrOs, keepT, memN, setsL, setsO, setL, setO, snocO, List.cons_append, List.nil_append, List.append_nil, Nat.reduceAdd, Nat.zero_add, u8s]; (refine eval_sound 2000 _ _ _ ?_; simp (maxSteps := 1000000) only [ptrL, lenV, Bool.not_true, Bool.not_false, lookR, valOf, asGrow, jump, findA, restA, and, Nat.reduceAdd, Nat.reduceSub, Nat.reduceMul, Int.reduceToNat, eval, nf, nfO, opN, appTo, rowsV, getL, setL, getO, setO, snocO, lenO, putL, ev, evs, ifEq, killV, killL, kill1, kill1L, kill, kills, killO, killOs, bin, binI, binS, binB, eq1, eqB, lit, sameK, kn, unI, mxA, mnA, mkAgg, fits, partN, partA, resN, retV, allVal, isVal, allCell, isCell, okVal, okCell, cellsOf, fillN, rowsN, cellsN, bnd, lohi, offAt, overL, segL, leave, NodeOK, List.cons_append, List.nil_append, List.append_nil, catA, anys, lenA]))
    simp only [decide_eq_true_eq, decide_eq_false_iff_not]
    refine ⟨fun h5 => ?_, fun h5 => ?_⟩
    · have hx8 : x < 8 := by omega
      have hp : (0 : Int) < 256 ^ x := Int.pow_pos (by omega)
      have h2 : 0 ≤ n / 256 ^ x := Int.ediv_nonneg hn.1 (by omega)
      have h6 : n / 256 ^ x ≤ n := Int.ediv_le_self _ hn.1
      have h7 : (n / 256 ^ x).tdiv 256 = n / 256 ^ (x + 1) := by
        rw [Int.tdiv_eq_ediv_of_nonneg h2, Int.pow_succ, Int.ediv_ediv_of_nonneg (by omega)]
      have h8 : 0 ≤ n / 256 ^ (x + 1) := by rw [← h7, Int.tdiv_eq_ediv_of_nonneg h2]; exact Int.ediv_nonneg h2 (by omega)
      have h9 : n / 256 ^ (x + 1) ≤ n := Int.ediv_le_self _ hn.1
      have hlen : (b ++ numS n x).length ≤ 100008 := by simp [numS_len]; omega
      have h10 : (n / 256 ^ x).tmod 256 = (n / 256 ^ x) % 256 := Int.tmod_eq_emod_of_nonneg h2
      refine ⟨by simp, by simp at hlen ⊢; omega, by simp, ?_⟩
      rw [h7, wr64 (n := (x : Int) + 1) (by omega) (by omega), wru64 h8 (by omega), ← div_pow n hn.1 x hx8]
      refine ⟨x + 1, by omega, by omega, ?_⟩
      rw [numS_succ, ← List.append_assoc]
      (simp only [wrC, wrOs, keepT, memN, setsL, setsO, setL, setO, snocO, List.cons_append, List.nil_append, List.append_nil, Nat.reduceAdd, Nat.zero_add, Wk, mtc, mtcS, mtcSL, mtc0, mtc0L, mtcL, mtcO, mtcOs, cutM, takeE, stA, rl, renV, renL, ren1, ren1L, ren, rens, renO, Nat.blt, lenO, getO, setO, setL, anys, u8s]; simp [u8s])
    · have : x = w.toNat := by omega
      subst this
      refine ⟨[0], rfl, _, _, ?_, ?_, rfl, rfl⟩ <;> simp [Wk, mtc, mtcS, mtcSL, mtc0, mtc0L, mtcL, mtcO, mtcOs, cutM, takeE, stA, rl, renV, renL, ren1, ren1L, ren, rens, renO, Nat.blt, lenO, getO, setO, setL, anys, okS, endM, endH, idxN, takeE, pickE, catO, rl, renV, renL, ren1, ren1L, ren, rens, renO, Nat.blt, lenO, getO, setO, setL, anys]
def numI (n : Int) (k : Nat) : List Int := (List.range k).map fun i => byteAt n i
theorem numI_len (n : Int) (k : Nat) : (numI n k).length = k := by simp [numI]
theorem numI_byte (n : Int) (k : Nat) : ByteL (numI n k) := by
  intro x hx
  simp only [numI, List.mem_map] at hx
  obtain ⟨i, _, rfl⟩ := hx
  unfold byteAt
  rw [IntKind.wrap_u8]
  omega
theorem byteAt_eq (n : Int) (h : 0 ≤ n) (i : Nat) (hi : i < 8) : byteAt n i = n / 256 ^ i % 256 := by
  have h2 : 0 ≤ n / 256 ^ i := Int.ediv_nonneg h (by have : (0 : Int) < 256 ^ i := Int.pow_pos (by omega); omega)
  rw [div_pow n h i hi, Int.tmod_eq_emod_of_nonneg h2, IntKind.wrap_u8]
  omega
theorem leN_num (n : Int) (h : 0 ≤ n) : ∀ k, k ≤ 8 → (leN (numI n k) : Int) = n % 256 ^ k
  | 0, _ => by simp [numI, leN]
  | k + 1, hk => by
    have ih := leN_num n h k (by omega)
    have hb := numI_byte n (k + 1)
    have e : numI n (k + 1) = numI n k ++ [byteAt n k] := by simp [numI, List.range_succ]
    have hx := hb (byteAt n k) (by rw [e]; simp)
    rw [e, leN_snoc, numI_len, Int.natCast_add, ih, Int.natCast_mul, Int.toNat_of_nonneg hx.1, byteAt_eq n h k (by omega)]
    have hp : (0 : Int) < 256 ^ k := Int.pow_pos (by omega)
    rw [Int.natCast_pow, show (256 : Int) ^ (k + 1) = 256 ^ k * 256 from Int.pow_succ _ _]
    show n % 256 ^ k + (n / 256 ^ k % 256) * (256 : Int) ^ k = _
    have h1 := Int.emod_add_mul_ediv n (256 ^ k)
    have h2 := Int.emod_add_mul_ediv (n / 256 ^ k) 256
    have h3 : n / 256 ^ (k + 1) = n / 256 ^ k / 256 := by rw [Int.pow_succ, Int.ediv_ediv_of_nonneg (by omega)]
    have h4 := Int.emod_add_mul_ediv n (256 ^ (k + 1))
    rw [h3, Int.pow_succ] at h4
    generalize n / 256 ^ k = q at *
    generalize (256 : Int) ^ k = p at *
    have : (p * 256) * (q / 256) = p * (256 * (q / 256)) := by rw [Int.mul_assoc]
    have h5 : p * q = p * (q % 256) + p * (256 * (q / 256)) := by rw [← Int.mul_add, h2]
    rw [Int.mul_comm (q % 256) _]
    have : n % (p * 256) = n % p + p * (q % 256) := by omega
    rw [this]
theorem numV_num (n : Int) (k : Nat) (hk : 1 ≤ k ∧ k ≤ 8) (h : 0 ≤ n) (h2 : n < 256 ^ k) (rest : List Int) : numV (numI n k ++ rest) false k = (n, rest, false) := by
  have hc : cutR (numI n k ++ rest) false k = (numI n k, rest, false) := by
    have hl := numI_len n k
    unfold cutR
    rw [if_neg (by simp [hl]; omega), Int.toNat_natCast]
    rw [List.take_left' hl, List.drop_left' hl]
  unfold numV
  rw [if_neg (by omega), hc]
  simp only []
  rw [numG_eq _ (numI_byte n k) (by rw [numI_len]; omega) _ (Nat.le_refl _), List.take_length, leN_num n h k hk.2, Int.emod_eq_of_lt h h2]
theorem wruN {n : Nat} (h : n < 18446744073709551616) : IntKind.u64.wrap (n : Int) = n := IntWalk.u64_in _ ⟨by omega, by omega⟩
theorem bvN {n : Nat} (h : n < 18446744073709551616) : (BitVec.ofInt 64 (n : Int)).toNat = n := by
  rw [BitVec.toNat_ofInt]
  simp; omega
theorem andN {a b : Nat} (ha : a < 18446744073709551616) (hb : b < 18446744073709551616) : IntKind.u64.wrap ((BitVec.ofInt IntKind.u64.bits (a : Int) &&& BitVec.ofInt IntKind.u64.bits (b : Int)).toNat : Int) = ((a &&& b : Nat) : Int) := by
  show IntKind.u64.wrap ((BitVec.ofInt 64 (a : Int) &&& BitVec.ofInt 64 (b : Int)).toNat : Int) = _
  rw [BitVec.toNat_and, bvN ha, bvN hb]
  exact wruN (Nat.lt_of_le_of_lt Nat.and_le_left ha)
theorem orN {a b : Nat} (ha : a < 18446744073709551616) (hb : b < 18446744073709551616) : IntKind.u64.wrap ((BitVec.ofInt IntKind.u64.bits (a : Int) ||| BitVec.ofInt IntKind.u64.bits (b : Int)).toNat : Int) = ((a ||| b : Nat) : Int) := by
  show IntKind.u64.wrap ((BitVec.ofInt 64 (a : Int) ||| BitVec.ofInt 64 (b : Int)).toNat : Int) = _
  rw [BitVec.toNat_or, bvN ha, bvN hb]
  exact wruN (show a ||| b < 2 ^ 64 from Nat.or_lt_two_pow ha hb)
theorem shrN (a k : Nat) (ha : a < 18446744073709551616) : (a : Int).fdiv (2 ^ min ((k : Int)).toNat IntKind.u64.bits) = ((a >>> k : Nat) : Int) := by
  show (a : Int).fdiv (2 ^ min ((k : Int)).toNat 64) = _
  have hp : ∀ j : Nat, ((2 : Int) ^ j) = ((2 ^ j : Nat) : Int) := fun j => by norm_cast
  rw [Int.toNat_natCast, Int.fdiv_eq_ediv_of_nonneg _ (by rw [hp]; exact Int.natCast_nonneg _), Nat.shiftRight_eq_div_pow]
  by_cases h : k ≤ 64
  · rw [Nat.min_eq_left h]; norm_cast
  · rw [Nat.min_eq_right (by omega)]
    have h1 : a / 2 ^ 64 = 0 := Nat.div_eq_of_lt ha
    have h2 : a / 2 ^ k = 0 := Nat.div_eq_of_lt (Nat.lt_of_lt_of_le (m := 2 ^ 64) ha (Nat.pow_le_pow_right (by decide) (by omega)))
    rw [h2]
    have : ((a : Int) / 2 ^ 64) = ((a / 2 ^ 64 : Nat) : Int) := by norm_cast
    rw [this, h1]
theorem xorN {a b : Nat} (ha : a < 18446744073709551616) (hb : b < 18446744073709551616) : IntKind.u64.wrap ((BitVec.ofInt IntKind.u64.bits (a : Int) ^^^ BitVec.ofInt IntKind.u64.bits (b : Int)).toNat : Int) = ((a ^^^ b : Nat) : Int) := by
  show IntKind.u64.wrap ((BitVec.ofInt 64 (a : Int) ^^^ BitVec.ofInt 64 (b : Int)).toNat : Int) = _
  rw [BitVec.toNat_xor, bvN ha, bvN hb]
  exact wruN (show a ^^^ b < 2 ^ 64 from Nat.xor_lt_two_pow ha hb)
end Go.Proofs.Ytjkmnmpjcdanhaa.S
