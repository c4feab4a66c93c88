/- Put; the chapter's example. -/
import Derived.Test.YtejflbmpokdhgaaOct3
namespace Go.Proofs.Ytejflbmpokdhgaa.S
set_option maxRecDepth 100000
set_option linter.unusedSimpArgs false
set_option linter.all false
set_option linter.unusedVariables false
def byteAt (n : Int) (i : Nat) : Int := IntKind.u8.wrap (n.fdiv (2 ^ (min (8 * i) 64)))
def u64s (ns : List Int) : List (List AV) := ns.map fun n => [.int .u64 n]
def numS (n : Int) (k : Nat) : List (List AV) := (List.range k).map fun i => [.int .u8 (byteAt n i)]
def putS (b : List (List AV)) (w : Int) (ns : List Int) : List (List AV) := if w < 1 ∨ 8 < w then b else b ++ ns.flatMap fun n => numS n w.toNat
theorem numS_len (n : Int) (k : Nat) : (numS n k).length = k := by simp [numS]
theorem numS_succ (n : Int) (k : Nat) : numS n (k + 1) = numS n k ++ [[.int .u8 (byteAt n k)]] := by simp [numS, List.range_succ]
theorem flat_len (k : Nat) : ∀ l : List Int, (l.flatMap fun n => numS n k).length = l.length * k
  | [] => by simp
  | n :: l => by simp [flat_len k l, numS_len, Nat.add_mul, Nat.add_comm]
set_option maxHeartbeats 1000000 in
theorem put_calls (b : List (List AV)) (w : Int) (ns : List Int) (hb : b.length + 8 * ns.length ≤ 140737488355328) : ACalls Try.prog 16 [.ro 1 b, .int .i64 w, .ro 1 (u64s ns)] [] (fun r hs => r = .own 0 ∧ hs = [.grow 5 1 (putS b w ns)]) := by
  refine acalls_of (fn := Try.f16) (A := a16) Try.func16 ok_16 en_16 ?_
  dsimp only [a16]
  (refine eval_sound 2000 _ _ _ ?_; simp only [and, Nat.reduceAdd, Nat.reduceSub, Nat.reduceMul, eval, nf, nfO, opN, appTo, rowsV, getL, setL, getO, setO, snocO, lenO, putL, ev, evs, ifEq, killV, killL, kill1, kill1L, kill, kills, killO, killOs, bin, binI, binS, binB, eq1, eqB, lit, sameK, kn, unI, mxA, mnA, mkAgg, fits, partN, partA, resN, retV, allVal, isVal, allCell, isCell, okVal, okCell, cellsOf, fillN, rowsN, cellsN, bnd, lohi, offAt, overL, segL, leave, NodeOK, List.cons_append, List.nil_append, List.append_nil, catA, anys, lenA])
  refine ⟨by simp; omega, fun h => ⟨[0], rfl, rfl, ?_⟩, fun h => ⟨fun h2 => ⟨[0], rfl, rfl, ?_⟩, fun h2 => ?_⟩⟩
  · have : w < 1 ∨ 8 < w := by simp at h; omega
    simp [okS, endM, endH, idxN, takeE, pickE, catO, rl, renV, renL, ren1, ren1L, ren, rens, renO, Nat.blt, lenO, getO, setO, setL, anys, putS, this]
  · have : w < 1 ∨ 8 < w := by simp at h2; omega
    simp [okS, endM, endH, idxN, takeE, pickE, catO, rl, renV, renL, ren1, ren1L, ren, rens, renO, Nat.blt, lenO, getO, setO, setL, anys, putS, this]
  simp only [decide_eq_false_iff_not] at h h2
  refine aw_loop (α := Nat) (fun i => i ≤ ns.length) (fun i => stA 42 [(1, .int .i64 w), (7, .own 0), (21, .ro 1 (u64s ns)), (22, .int .i64 (ns.length)), (23, .int .i64 i)]) (fun i => [.grow 5 1 (b ++ (ns.take i).flatMap fun n => numS n w.toNat)]) (fun i => ns.length - i) 0 (Nat.zero_le _) ?_ (fun _ => rfl) fun i hi => ?_
  · simp [Wk, mtc, mtcL, mtcO, mtcOs, cutM, takeE, stA, rl, renV, renL, ren1, ren1L, ren, rens, renO, Nat.blt, lenO, getO, setO, setL, anys, u64s]
  simp only [stA, anys, setL]
  (refine eval_sound 2000 _ _ _ ?_; simp only [and, Nat.reduceAdd, Nat.reduceSub, Nat.reduceMul, eval, nf, nfO, opN, appTo, rowsV, getL, setL, getO, setO, snocO, lenO, putL, ev, evs, ifEq, killV, killL, kill1, kill1L, kill, kills, killO, killOs, bin, binI, binS, binB, eq1, eqB, lit, sameK, kn, unI, mxA, mnA, mkAgg, fits, partN, partA, resN, retV, allVal, isVal, allCell, isCell, okVal, okCell, cellsOf, fillN, rowsN, cellsN, bnd, lohi, offAt, overL, segL, leave, NodeOK, List.cons_append, List.nil_append, List.append_nil, catA, anys, lenA])
  refine ⟨fun h3 => ?_, fun h3 => ?_⟩
  · have h4 : i < ns.length := by simpa using h3
    refine ⟨by omega, [.int .u64 ns[i]], by simp [u64s, h4], ?_⟩
    (refine eval_sound 2000 _ _ _ ?_; simp only [and, Nat.reduceAdd, Nat.reduceSub, Nat.reduceMul, eval, nf, nfO, opN, appTo, rowsV, getL, setL, getO, setO, snocO, lenO, putL, ev, evs, ifEq, killV, killL, kill1, kill1L, kill, kills, killO, killOs, bin, binI, binS, binB, eq1, eqB, lit, sameK, kn, unI, mxA, mnA, mkAgg, fits, partN, partA, resN, retV, allVal, isVal, allCell, isCell, okVal, okCell, cellsOf, fillN, rowsN, cellsN, bnd, lohi, offAt, overL, segL, leave, NodeOK, List.cons_append, List.nil_append, List.append_nil, catA, anys, lenA])
    refine aw_loop (α := Nat) (fun j => (j : Int) ≤ w) (fun j => stA 42 [(1, .int .i64 w), (7, .own 0), (21, .ro 1 (u64s ns)), (22, .int .i64 (ns.length)), (23, .int .i64 i), (9, .int .u64 ns[i]), (27, .int .i64 w), (28, .int .i64 j)]) (fun j => [.grow 5 1 (b ++ ((ns.take i).flatMap fun n => numS n w.toNat) ++ numS ns[i] j)]) (fun j => w.toNat - j) 0 (by omega) ?_ (fun _ => rfl) fun j hj => ?_
    · simp [Wk, mtc, mtcL, mtcO, mtcOs, cutM, takeE, stA, rl, renV, renL, ren1, ren1L, ren, rens, renO, Nat.blt, lenO, getO, setO, setL, anys, u64s, numS]
    simp only [stA, anys, setL]
    (refine eval_sound 2000 _ _ _ ?_; simp only [and, Nat.reduceAdd, Nat.reduceSub, Nat.reduceMul, eval, nf, nfO, opN, appTo, rowsV, getL, setL, getO, setO, snocO, lenO, putL, ev, evs, ifEq, killV, killL, kill1, kill1L, kill, kills, killO, killOs, bin, binI, binS, binB, eq1, eqB, lit, sameK, kn, unI, mxA, mnA, mkAgg, fits, partN, partA, resN, retV, allVal, isVal, allCell, isCell, okVal, okCell, cellsOf, fillN, rowsN, cellsN, bnd, lohi, offAt, overL, segL, leave, NodeOK, List.cons_append, List.nil_append, List.append_nil, catA, anys, lenA])
    refine ⟨fun h5 => ?_, fun h5 => ?_⟩
    · have h6 : (j : Int) < w := by simpa using h5
      rw [wr64 (n := 8 * (j : Int)) (by omega) (by omega), wr64 (n := (j : Int) + 1) (by omega) (by omega)]
      have hm : i * w.toNat ≤ (ns.length - 1) * 8 := Nat.mul_le_mul (by omega) (by omega)
      refine ⟨by omega, ?_, j + 1, by omega, by omega, ?_⟩
      · simp only [List.length_append, flat_len, numS_len, List.length_take, Nat.min_eq_left hi, List.length_cons, List.length_nil]
        omega
      · simp [Wk, mtc, mtcL, mtcO, mtcOs, cutM, takeE, stA, rl, renV, renL, ren1, ren1L, ren, rens, renO, Nat.blt, lenO, getO, setO, setL, anys, numS_succ, byteAt, IntKind.bits, show (8 * (j : Int)).toNat = 8 * j by omega]
    have h6 : (j : Int) = w := by simp at h5; omega
    have : j = w.toNat := by omega
    subst this
    rw [wr64 (n := (i : Int) + 1) (by omega) (by omega)]
    refine ⟨i + 1, by omega, by omega, ?_⟩
    simp only [Wk, mtc, mtcL, mtcO, mtcOs, cutM, takeE, stA, rl, renV, renL, ren1, ren1L, ren, rens, renO, Nat.blt, lenO, getO, setO, setL, anys]
    rw [List.take_succ_eq_append_getElem h4]
    refine ⟨by omega, by simp, ?_, trivial⟩
    simp only [List.flatMap_append, List.flatMap_cons, List.flatMap_nil, List.append_nil, List.append_assoc]
  refine ⟨[0], rfl, rfl, ?_⟩
  have : ns.length = i := by simp at h3; omega
  subst this
  have : ¬ (w < 1 ∨ 8 < w) := by omega
  simp [okS, endM, endH, idxN, takeE, pickE, catO, rl, renV, renL, ren1, ren1L, ren, rens, renO, Nat.blt, lenO, getO, setO, setL, anys, putS, this]
theorem read_ (b : List Int) : ACalls Try.prog 18 [.ro 1 (u8s b)] [] (fun r hs => r = .ptr 0 0 ∧ hs = [rdO b false]) := by
  refine acalls_weak (acalls_of (fn := Try.f18) (A := a18) Try.func18 ok_18 en_18 ?_)
  dsimp only [a18, rdO]
  (refine eval_sound 2000 _ _ _ ?_; simp only [and, Nat.reduceAdd, Nat.reduceSub, Nat.reduceMul, eval, nf, nfO, opN, appTo, rowsV, getL, setL, getO, setO, snocO, lenO, putL, ev, evs, ifEq, killV, killL, kill1, kill1L, kill, kills, killO, killOs, bin, binI, binS, binB, eq1, eqB, lit, sameK, kn, unI, mxA, mnA, mkAgg, fits, partN, partA, resN, retV, allVal, isVal, allCell, isCell, okVal, okCell, cellsOf, fillN, rowsN, cellsN, bnd, lohi, offAt, overL, segL, leave, NodeOK, List.cons_append, List.nil_append, List.append_nil, catA, anys, lenA])
  refine ⟨by simp, [0], rfl, _, _, ?_, ?_, rfl, rfl⟩ <;> simp [Wk, mtc, mtcL, mtcO, mtcOs, cutM, takeE, stA, rl, renV, renL, ren1, ren1L, ren, rens, renO, Nat.blt, lenO, getO, setO, setL, anys, okS, endM, endH, idxN, takeE, pickE, catO, rl, renV, renL, ren1, ren1L, ren, rens, renO, Nat.blt, lenO, getO, setO, setL, anys, rdO]
theorem lives_ : ACalls Try.prog 13 [] [] (fun r hs => r = .bool true ∧ hs = []) := by
  refine acalls_weak (acalls_of (fn := Try.f13) (A := a13) Try.func13 ok_13 en_13 ?_)
  dsimp only [a13, rdO]
  (refine eval_sound 2000 _ _ _ ?_; simp only [and, Nat.reduceAdd, Nat.reduceSub, Nat.reduceMul, eval, nf, nfO, opN, appTo, rowsV, getL, setL, getO, setO, snocO, lenO, putL, ev, evs, ifEq, killV, killL, kill1, kill1L, kill, kills, killO, killOs, bin, binI, binS, binB, eq1, eqB, lit, sameK, kn, unI, mxA, mnA, mkAgg, fits, partN, partA, resN, retV, allVal, isVal, allCell, isCell, okVal, okCell, cellsOf, fillN, rowsN, cellsN, bnd, lohi, offAt, overL, segL, leave, NodeOK, List.cons_append, List.nil_append, List.append_nil, catA, anys, lenA])
  refine acall_trans (trans_frz 0 _ _ _ rfl) ?_
  simp only [snocO, mapA, frz, frz1, frzV, mapO, frzO, ifEq, setO, getO, getL, setL]
  refine acall_args [.ro 1 (u8s []), .int .i64 3, .ro 1 (u64s [258])] (by simp [mtc, mtcL, u8s, u64s]) ?_
  refine aw_call (put_calls (u8s []) 3 [258] (by simp [u8s])) [] rfl (by simp [upM, nthN, matchO, rens, ren, ren1, ren1L, renL, renV, renO, rl, lenO, getO, Nat.blt, mtc, u64s, u8s]) rfl (by simp [upM, nthN, matchO, rens, ren, ren1, ren1L, renL, renV, renO, rl, lenO, getO, Nat.blt, mtc]) rfl (fun r hs hp hl => ?_)
  obtain ⟨rfl, rfl⟩ := hp
  rw [show putS (u8s []) 3 [258] = u8s [2, 1, 0] from rfl]
  simp only [snocO, upM, nthN, putAll, snocAll, killsA, killOsA, grows, putL, rl, renV, renL, ren1, ren1L, ren, rens, renO, Nat.blt, lenO, getO, setO, setL, anys]
  (refine eval_sound 2000 _ _ _ ?_; simp only [and, Nat.reduceAdd, Nat.reduceSub, Nat.reduceMul, eval, nf, nfO, opN, appTo, rowsV, getL, setL, getO, setO, snocO, lenO, putL, ev, evs, ifEq, killV, killL, kill1, kill1L, kill, kills, killO, killOs, bin, binI, binS, binB, eq1, eqB, lit, sameK, kn, unI, mxA, mnA, mkAgg, fits, partN, partA, resN, retV, allVal, isVal, allCell, isCell, okVal, okCell, cellsOf, fillN, rowsN, cellsN, bnd, lohi, offAt, overL, segL, leave, NodeOK, List.cons_append, List.nil_append, List.append_nil, catA, anys, lenA])
  refine acall_trans (trans_frz 1 _ _ _ rfl) ?_
  simp only [snocO, mapA, frz, frz1, frzV, mapO, frzO, ifEq, setO, getO, getL, setL]
  refine aw_call (read_ [2, 1, 0]) [] rfl (by simp [upM, nthN, matchO, rens, ren, ren1, ren1L, renL, renV, renO, rl, lenO, getO, Nat.blt, mtc, u64s]) rfl (by simp [upM, nthN, matchO, rens, ren, ren1, ren1L, renL, renV, renO, rl, lenO, getO, Nat.blt, mtc]) rfl (fun r hs hp hl => ?_)
  obtain ⟨rfl, rfl⟩ := hp
  simp only [snocO, upM, nthN, putAll, snocAll, killsA, killOsA, grows, putL, rl, renV, renL, ren1, ren1L, ren, rens, renO, Nat.blt, lenO, getO, setO, setL, anys, rdO]
  simp only [u8s, List.map_cons, List.map_nil]
  (refine eval_sound 2000 _ _ _ ?_; simp only [and, Nat.reduceAdd, Nat.reduceSub, Nat.reduceMul, eval, nf, nfO, opN, appTo, rowsV, getL, setL, getO, setO, snocO, lenO, putL, ev, evs, ifEq, killV, killL, kill1, kill1L, kill, kills, killO, killOs, bin, binI, binS, binB, eq1, eqB, lit, sameK, kn, unI, mxA, mnA, mkAgg, fits, partN, partA, resN, retV, allVal, isVal, allCell, isCell, okVal, okCell, cellsOf, fillN, rowsN, cellsN, bnd, lohi, offAt, overL, segL, leave, NodeOK, List.cons_append, List.nil_append, List.append_nil, catA, anys, lenA])
  refine ⟨fun h => by simp at h, fun _ => ⟨by simp, _, rfl, ?_⟩⟩
  (refine eval_sound 2000 _ _ _ ?_; simp only [and, Nat.reduceAdd, Nat.reduceSub, Nat.reduceMul, eval, nf, nfO, opN, appTo, rowsV, getL, setL, getO, setO, snocO, lenO, putL, ev, evs, ifEq, killV, killL, kill1, kill1L, kill, kills, killO, killOs, bin, binI, binS, binB, eq1, eqB, lit, sameK, kn, unI, mxA, mnA, mkAgg, fits, partN, partA, resN, retV, allVal, isVal, allCell, isCell, okVal, okCell, cellsOf, fillN, rowsN, cellsN, bnd, lohi, offAt, overL, segL, leave, NodeOK, List.cons_append, List.nil_append, List.append_nil, catA, anys, lenA])
  refine ⟨fun _ => ⟨by simp, _, rfl, ?_⟩, fun h => by simp at h⟩
  (refine eval_sound 2000 _ _ _ ?_; simp only [and, Nat.reduceAdd, Nat.reduceSub, Nat.reduceMul, eval, nf, nfO, opN, appTo, rowsV, getL, setL, getO, setO, snocO, lenO, putL, ev, evs, ifEq, killV, killL, kill1, kill1L, kill, kills, killO, killOs, bin, binI, binS, binB, eq1, eqB, lit, sameK, kn, unI, mxA, mnA, mkAgg, fits, partN, partA, resN, retV, allVal, isVal, allCell, isCell, okVal, okCell, cellsOf, fillN, rowsN, cellsN, bnd, lohi, offAt, overL, segL, leave, NodeOK, List.cons_append, List.nil_append, List.append_nil, catA, anys, lenA])
  refine ⟨fun _ => ⟨by simp, _, rfl, ?_⟩, fun h => by simp at h⟩
  (refine eval_sound 2000 _ _ _ ?_; simp only [and, Nat.reduceAdd, Nat.reduceSub, Nat.reduceMul, eval, nf, nfO, opN, appTo, rowsV, getL, setL, getO, setO, snocO, lenO, putL, ev, evs, ifEq, killV, killL, kill1, kill1L, kill, kills, killO, killOs, bin, binI, binS, binB, eq1, eqB, lit, sameK, kn, unI, mxA, mnA, mkAgg, fits, partN, partA, resN, retV, allVal, isVal, allCell, isCell, okVal, okCell, cellsOf, fillN, rowsN, cellsN, bnd, lohi, offAt, overL, segL, leave, NodeOK, List.cons_append, List.nil_append, List.append_nil, catA, anys, lenA])
  refine ⟨fun _ => ?_, fun h => by simp at h⟩
  refine aw_call (num_c [2, 1, 0] false 3) [2] rfl (by simp [upM, nthN, matchO, rens, ren, ren1, ren1L, renL, renV, renO, rl, lenO, getO, Nat.blt, mtc, u64s]) rfl (by simp [upM, nthN, matchO, rens, ren, ren1, ren1L, renL, renV, renO, rl, lenO, getO, Nat.blt, mtc, rdO, u8s]) rfl (fun r hs hp hl => ?_)
  obtain ⟨rfl, rfl⟩ := hp
  rw [show numV [2, 1, 0] false 3 = (258, [], false) from rfl]
  simp only [snocO, upM, nthN, putAll, snocAll, killsA, killOsA, grows, putL, rl, renV, renL, ren1, ren1L, ren, rens, renO, Nat.blt, lenO, getO, setO, setL, anys, rdO]
  (refine eval_sound 2000 _ _ _ ?_; simp only [and, Nat.reduceAdd, Nat.reduceSub, Nat.reduceMul, eval, nf, nfO, opN, appTo, rowsV, getL, setL, getO, setO, snocO, lenO, putL, ev, evs, ifEq, killV, killL, kill1, kill1L, kill, kills, killO, killOs, bin, binI, binS, binB, eq1, eqB, lit, sameK, kn, unI, mxA, mnA, mkAgg, fits, partN, partA, resN, retV, allVal, isVal, allCell, isCell, okVal, okCell, cellsOf, fillN, rowsN, cellsN, bnd, lohi, offAt, overL, segL, leave, NodeOK, List.cons_append, List.nil_append, List.append_nil, catA, anys, lenA])
  refine ⟨fun _ => ?_, fun h => by simp at h⟩
  refine aw_call (end_ [] false) [2] rfl (by simp [upM, nthN, matchO, rens, ren, ren1, ren1L, renL, renV, renO, rl, lenO, getO, Nat.blt, mtc, u64s]) rfl (by simp [upM, nthN, matchO, rens, ren, ren1, ren1L, renL, renV, renO, rl, lenO, getO, Nat.blt, mtc, rdO, u8s]) rfl (fun r hs hp hl => ?_)
  obtain ⟨rfl, rfl⟩ := hp
  simp only [snocO, upM, nthN, putAll, snocAll, killsA, killOsA, grows, putL, rl, renV, renL, ren1, ren1L, ren, rens, renO, Nat.blt, lenO, getO, setO, setL, anys, rdO]
  (refine eval_sound 2000 _ _ _ ?_; simp only [and, Nat.reduceAdd, Nat.reduceSub, Nat.reduceMul, eval, nf, nfO, opN, appTo, rowsV, getL, setL, getO, setO, snocO, lenO, putL, ev, evs, ifEq, killV, killL, kill1, kill1L, kill, kills, killO, killOs, bin, binI, binS, binB, eq1, eqB, lit, sameK, kn, unI, mxA, mnA, mkAgg, fits, partN, partA, resN, retV, allVal, isVal, allCell, isCell, okVal, okCell, cellsOf, fillN, rowsN, cellsN, bnd, lohi, offAt, overL, segL, leave, NodeOK, List.cons_append, List.nil_append, List.append_nil, catA, anys, lenA])
  refine ⟨[], rfl, _, _, ?_, ?_, rfl, rfl⟩ <;> simp [Wk, mtc, mtcL, mtcO, mtcOs, cutM, takeE, stA, rl, renV, renL, ren1, ren1L, ren, rens, renO, Nat.blt, lenO, getO, setO, setL, anys, okS, endM, endH, idxN, takeE, pickE, catO, rl, renV, renL, ren1, ren1L, ren, rens, renO, Nat.blt, lenO, getO, setO, setL, anys, endR]
end Go.Proofs.Ytejflbmpokdhgaa.S
