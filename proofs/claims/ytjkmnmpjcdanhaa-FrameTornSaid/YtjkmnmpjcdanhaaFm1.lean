/- Contracts of frames: bytes turned. -/
import Derived.Test.YtjkmnmpjcdanhaaCc2
import Derived.Test.YtjkmnmpjcdanhaaS29
namespace Go.Proofs.Ytjkmnmpjcdanhaa.S
set_option linter.all false
set_option maxRecDepth 100000
set_option maxHeartbeats 2000000
def u8c (l : List Int) : List AV := l.map fun n => .int .u8 n
theorem u8c_len (l : List Int) : (u8c l).length = l.length := List.length_map _
theorem u8c_flat (l : List Int) : (u8s l).flatten = u8c l := by
  unfold u8s u8c
  induction l with
  | nil => rfl
  | cons a l ih => rw [List.map_cons, List.flatten_cons, ih]; rfl
def revK (l : List Int) (i : Nat) : List Int := (List.range l.length).map fun q => if q < i ∨ l.length ≤ q + i then l.getD (l.length - 1 - q) 0 else l.getD q 0
theorem revK_len (l : List Int) (i : Nat) : (revK l i).length = l.length := by simp [revK]
theorem revK_zero (l : List Int) : revK l 0 = l := by
  apply List.ext_getElem?
  intro q
  unfold revK
  rw [List.getElem?_map]
  by_cases h : q < l.length
  · rw [List.getElem?_range h, List.getElem?_eq_getElem h]
    simp only [Option.map_some]
    rw [if_neg (by omega), List.getD_eq_getElem?_getD, List.getElem?_eq_getElem h]
    rfl
  · rw [List.getElem?_eq_none (by simp; omega), List.getElem?_eq_none (by omega)]
    rfl
theorem revK_end {l : List Int} {i : Nat} (h : l.length ≤ 2 * i + 1) : revK l i = l.reverse := by
  apply List.ext_getElem?
  intro q
  unfold revK
  rw [List.getElem?_map]
  by_cases hq : q < l.length
  · rw [List.getElem?_range hq, List.getElem?_reverse hq]
    simp only [Option.map_some]
    have e : (if q < i ∨ l.length ≤ q + i then l.getD (l.length - 1 - q) 0 else l.getD q 0) = l.getD (l.length - 1 - q) 0 := by
      split
      · rfl
      · congr 1; omega
    rw [e, List.getD_eq_getElem?_getD, List.getElem?_eq_getElem (by omega)]
    rfl
  · rw [List.getElem?_eq_none (by simp; omega), List.getElem?_eq_none (by simp; omega)]
    rfl
theorem revK_get {l : List Int} {i q : Nat} (hq : q < l.length) (h1 : i ≤ q) (h2 : q + i < l.length) : (revK l i)[q]? = some (l.getD q 0) := by
  unfold revK
  rw [List.getElem?_map, List.getElem?_range hq]
  simp only [Option.map_some]
  rw [if_neg (by omega)]
theorem revK_succ {l : List Int} {i : Nat} (h : 2 * i + 1 < l.length) : ((revK l i).set i (l.getD (l.length - 1 - i) 0)).set (l.length - 1 - i) (l.getD i 0) = revK l (i + 1) := by
  unfold revK
  rw [set_map, set_map]
  refine List.map_congr_left fun q hq => ?_
  have hq := List.mem_range.1 hq
  by_cases e1 : q = l.length - 1 - i
  · rw [if_pos e1, if_pos (by omega)]
    congr 1; omega
  · rw [if_neg e1]
    by_cases e2 : q = i
    · rw [if_pos e2, if_pos (by omega)]
      congr 1; omega
    · rw [if_neg e2]
      by_cases e3 : q < i ∨ l.length ≤ q + i
      · rw [if_pos e3, if_pos (by omega)]
      · rw [if_neg e3, if_neg (by omega)]
theorem u8c_at {l : List Int} {E : List AV} {q : Nat} {n : Int} (h : l[q]? = some n) : (u8c l ++ E)[q]? = some (.int .u8 n) := by
  have hq := (List.getElem?_eq_some_iff.1 h).1
  rw [List.getElem?_append_left (by rw [u8c_len]; exact hq)]
  unfold u8c
  rw [List.getElem?_map, h]
  rfl
theorem over_u8c {l : List Int} {E : List AV} {q : Nat} {n : Int} (h : q < l.length) : over (u8c l ++ E) q [.int .u8 n] = u8c (l.set q n) ++ E := by
  rw [over_set (by rw [List.length_append, u8c_len]; omega), List.set_append_left _ _ (by rw [u8c_len]; exact h)]
  unfold u8c
  rw [List.map_set]
theorem rev_c (l : List Int) (E : List AV) (cap : Nat) (h0 : 0 < l.length) (hl : l.length ≤ 1000000) (hc : l.length ≤ cap) : ACalls Try.prog 74 [.sl 0 0 l.length cap] [.arr 5 (u8c l ++ E)] (fun r hs => hs = [.arr 5 (u8c l.reverse ++ E)]) := by
  refine acalls_weak (acalls_of (fn := Try.f74) (A := a74) Try.func74 ok_74 en_74 ?_)
  dsimp only [a74, u8s]
  (refine eval_sound 2000 _ _ _ ?_; simp (maxSteps := 1000000) only [ptrL, lenV, Bool.not_true, Bool.not_false, lookR, valOf, asGrow, jump, findA, restA, and, Nat.reduceAdd, Nat.reduceSub, Nat.reduceMul, Int.reduceToNat, eval, nf, nfO, opN, appTo, rowsV, getL, setL, getO, setO, snocO, lenO, putL, ev, evs, ifEq, killV, killL, kill1, kill1L, kill, kills, killO, killOs, bin, binI, binS, binB, eq1, eqB, lit, sameK, kn, unI, mxA, mnA, mkAgg, fits, partN, partA, resN, retV, allVal, isVal, allCell, isCell, okVal, okCell, cellsOf, fillN, rowsN, cellsN, bnd, lohi, offAt, overL, segL, leave, NodeOK, List.cons_append, List.nil_append, List.append_nil, catA, anys, lenA])
  rw [wr64 (n := (l.length : Int) - 1) (by omega) (by omega)]
  refine aw_loopU (α := Nat) (fun i => 2 * i ≤ l.length) (fun i => [(2, .int .i64 (i : Nat)), (3, .int .i64 ((l.length : Int) - 1 - i))]) (fun i => [(0, .arr 5 (u8c (revK l i) ++ E))]) (fun i => l.length - i) (0) (Nat.zero_le _) ?_ fun i hi => ?_
  · rw [revK_zero]
    (simp only [wrC, wrOs, keepT, memN, setsL, setsO, setL, setO, snocO, List.cons_append, List.nil_append, List.append_nil, Nat.reduceAdd, Nat.zero_add, Wk, mtc, mtcS, mtcSL, mtc0, mtc0L, mtcL, mtcO, mtcOs, cutM, takeE, stA, rl, renV, renL, ren1, ren1L, ren, rens, renO, Nat.blt, lenO, getO, setO, setL, anys, u8s]; simp [u8s])
  (simp only [wrC, wrOs, keepT, memN, setsL, setsO, setL, setO, snocO, List.cons_append, List.nil_append, List.append_nil, Nat.reduceAdd, Nat.zero_add, u8s]; (refine eval_sound 2000 _ _ _ ?_; simp (maxSteps := 1000000) only [ptrL, lenV, Bool.not_true, Bool.not_false, lookR, valOf, asGrow, jump, findA, restA, and, Nat.reduceAdd, Nat.reduceSub, Nat.reduceMul, Int.reduceToNat, eval, nf, nfO, opN, appTo, rowsV, getL, setL, getO, setO, snocO, lenO, putL, ev, evs, ifEq, killV, killL, kill1, kill1L, kill, kills, killO, killOs, bin, binI, binS, binB, eq1, eqB, lit, sameK, kn, unI, mxA, mnA, mkAgg, fits, partN, partA, resN, retV, allVal, isVal, allCell, isCell, okVal, okCell, cellsOf, fillN, rowsN, cellsN, bnd, lohi, offAt, overL, segL, leave, NodeOK, List.cons_append, List.nil_append, List.append_nil, catA, anys, lenA]))
  simp only [decide_eq_true_eq, decide_eq_false_iff_not]
  refine ⟨fun h1 => ?_, fun h1 => ?_⟩
  · have hj : ((l.length : Int) - 1 - i) = ((l.length - 1 - i : Nat) : Int) := by omega
    have hs := revK_succ (l := l) (i := i) (by omega)
    have hg1 := revK_get (l := l) (i := i) (q := l.length - 1 - i) (by omega) (by omega) (by omega)
    have hg2 := revK_get (l := l) (i := i) (q := i) (by omega) (by omega) (by omega)
    have hlen := revK_len l i
    have w1 : IntKind.i64.wrap ((i : Int) + 1) = ((i + 1 : Nat) : Int) := by rw [wr64 (by omega) (by omega)]; rfl
    have w2 : IntKind.i64.wrap (((l.length - 1 - i : Nat) : Int) - 1) = (l.length : Int) - 1 - ((i + 1 : Nat) : Int) := by rw [wr64 (by omega) (by omega)]; omega
    have hn : (u8c (revK l i) ++ E).length = l.length + E.length := by rw [List.length_append, u8c_len, hlen]
    rw [hj]
    generalize hjj : l.length - 1 - i = j at *
    generalize hR : revK l i = R at *
    have ha := u8c_at (E := E) hg1
    have hb := u8c_at (E := E) hg2
    have ho1 := over_u8c (l := R) (E := E) (q := i) (n := l.getD j 0) (by omega)
    have ho2 := over_u8c (l := R.set i (l.getD j 0)) (E := E) (q := j) (n := l.getD i 0) (by rw [List.length_set]; omega)
    generalize l.getD j 0 = x at *
    generalize l.getD i 0 = y at *
    refine aw_dregA (show Try.prog.follows .mixedOrders = true by kernel_rfl) 1 [(6, ⟨.ptrS 0 j, [], [], []⟩), (7, ⟨.int .u8 x, [], [], [0]⟩), (10, ⟨.ptrS 0 i, [], [], []⟩), (11, ⟨.int .u8 y, [], [], [0]⟩), (12, ⟨.ptrS 0 i, [], [], []⟩), (13, ⟨.tup [], [(0, .arr 5 (u8c (R.set i x) ++ E))], [], []⟩), (14, ⟨.ptrS 0 j, [], [], []⟩), (15, ⟨.tup [], [(0, .arr 5 (u8c ((R.set i x).set j y) ++ E))], [], []⟩)] ?_ ?_ ?_
    · kernel_rfl
    · (simp only [tkO, dpO, tkN, AllOps, OpOK, mkR, autoV, autoR, labV, lkD, vOf, preT, preO, setTs, preV, wrt, memN, usesO, usesT, opT, optT, opsT, ptsT, setHs, objF, updD, newO, lkO, lkF, keysO, keysF, visN, deads, getL, setL, getO, setO, lenO, lenA, anys, setDs, setWr, setFr, endO, catD, List.getD_cons_zero, List.getD_cons_succ, List.getElem?_cons_zero, List.getElem?_cons_succ, List.cons_append, List.nil_append, List.append_nil, Nat.reduceAdd, Nat.reduceSub, ptrL, lenV, Bool.not_true, Bool.not_false, lookR, valOf, asGrow, jump, findA, restA, and, Nat.reduceAdd, Nat.reduceSub, Nat.reduceMul, Int.reduceToNat, eval, nf, nfO, opN, appTo, rowsV, getL, setL, getO, setO, snocO, lenO, putL, ev, evs, ifEq, killV, killL, kill1, kill1L, kill, kills, killO, killOs, bin, binI, binS, binB, eq1, eqB, lit, sameK, kn, unI, mxA, mnA, mkAgg, fits, partN, partA, resN, retV, allVal, isVal, allCell, isCell, okVal, okCell, cellsOf, fillN, rowsN, cellsN, bnd, lohi, offAt, overL, segL, leave, NodeOK, List.cons_append, List.nil_append, List.append_nil, catA, anys, lenA]; and_intros) <;> (first | exact trivial | ((refine eval_sound 2000 _ _ _ ?_; simp (maxSteps := 1000000) only [ptrL, lenV, Bool.not_true, Bool.not_false, lookR, valOf, asGrow, jump, findA, restA, and, Nat.reduceAdd, Nat.reduceSub, Nat.reduceMul, Int.reduceToNat, eval, nf, nfO, opN, appTo, rowsV, getL, setL, getO, setO, snocO, lenO, putL, ev, evs, ifEq, killV, killL, kill1, kill1L, kill, kills, killO, killOs, bin, binI, binS, binB, eq1, eqB, lit, sameK, kn, unI, mxA, mnA, mkAgg, fits, partN, partA, resN, retV, allVal, isVal, allCell, isCell, okVal, okCell, cellsOf, fillN, rowsN, cellsN, bnd, lohi, offAt, overL, segL, leave, NodeOK, List.cons_append, List.nil_append, List.append_nil, catA, anys, lenA]); try simp only [JR, dstOK, wrOK, frOK, rdOK, getL, getO]; try simp only [JR, dstOK, wrOK, frOK, rdOK, sig, sigF, isGrowB, mtc, mtcS, mtcSL, mtc0, mtc0L, mtcO, mtcL, memN, Nat.blt, rl, renV, renL, ren1, ren1L, ren, rens, renO, Nat.blt, lenO, getO, setO, setL, anys]; try simp))
      · omega
      · refine ⟨_, ha, ?_⟩
        (refine eval_sound 2000 _ _ _ ?_; simp (maxSteps := 1000000) only [ptrL, lenV, Bool.not_true, Bool.not_false, lookR, valOf, asGrow, jump, findA, restA, and, Nat.reduceAdd, Nat.reduceSub, Nat.reduceMul, Int.reduceToNat, eval, nf, nfO, opN, appTo, rowsV, getL, setL, getO, setO, snocO, lenO, putL, ev, evs, ifEq, killV, killL, kill1, kill1L, kill, kills, killO, killOs, bin, binI, binS, binB, eq1, eqB, lit, sameK, kn, unI, mxA, mnA, mkAgg, fits, partN, partA, resN, retV, allVal, isVal, allCell, isCell, okVal, okCell, cellsOf, fillN, rowsN, cellsN, bnd, lohi, offAt, overL, segL, leave, NodeOK, List.cons_append, List.nil_append, List.append_nil, catA, anys, lenA])
        ((try simp only [JR, dstOK, wrOK, frOK, rdOK, getL, getO]); (try simp only [JR, dstOK, wrOK, frOK, rdOK, sig, sigF, isGrowB, mtc, mtcS, mtcSL, mtc0, mtc0L, mtcO, mtcL, memN, Nat.blt, rl, renV, renL, ren1, ren1L, ren, rens, renO, Nat.blt, lenO, getO, setO, setL, anys, u8c_len]); try simp)
      · omega
      · refine ⟨_, hb, ?_⟩
        (refine eval_sound 2000 _ _ _ ?_; simp (maxSteps := 1000000) only [ptrL, lenV, Bool.not_true, Bool.not_false, lookR, valOf, asGrow, jump, findA, restA, and, Nat.reduceAdd, Nat.reduceSub, Nat.reduceMul, Int.reduceToNat, eval, nf, nfO, opN, appTo, rowsV, getL, setL, getO, setO, snocO, lenO, putL, ev, evs, ifEq, killV, killL, kill1, kill1L, kill, kills, killO, killOs, bin, binI, binS, binB, eq1, eqB, lit, sameK, kn, unI, mxA, mnA, mkAgg, fits, partN, partA, resN, retV, allVal, isVal, allCell, isCell, okVal, okCell, cellsOf, fillN, rowsN, cellsN, bnd, lohi, offAt, overL, segL, leave, NodeOK, List.cons_append, List.nil_append, List.append_nil, catA, anys, lenA])
        ((try simp only [JR, dstOK, wrOK, frOK, rdOK, getL, getO]); (try simp only [JR, dstOK, wrOK, frOK, rdOK, sig, sigF, isGrowB, mtc, mtcS, mtcSL, mtc0, mtc0L, mtcO, mtcL, memN, Nat.blt, rl, renV, renL, ren1, ren1L, ren, rens, renO, Nat.blt, lenO, getO, setO, setL, anys, u8c_len]); try simp)
      · omega
      · exact ⟨by rw [u8c_len]; omega, ho1.symm⟩
      · omega
      · exact ⟨by rw [u8c_len, List.length_set]; omega, ho2.symm⟩
    · (simp only [tkO, dpO, tkN, AllOps, OpOK, mkR, autoV, autoR, labV, lkD, vOf, preT, preO, setTs, preV, wrt, memN, usesO, usesT, opT, optT, opsT, ptsT, setHs, objF, updD, newO, lkO, lkF, keysO, keysF, visN, deads, getL, setL, getO, setO, lenO, lenA, anys, setDs, setWr, setFr, endO, catD, List.getD_cons_zero, List.getD_cons_succ, List.getElem?_cons_zero, List.getElem?_cons_succ, List.cons_append, List.nil_append, List.append_nil, Nat.reduceAdd, Nat.reduceSub, ptrL, lenV, Bool.not_true, Bool.not_false, lookR, valOf, asGrow, jump, findA, restA, and, Nat.reduceAdd, Nat.reduceSub, Nat.reduceMul, Int.reduceToNat, eval, nf, nfO, opN, appTo, rowsV, getL, setL, getO, setO, snocO, lenO, putL, ev, evs, ifEq, killV, killL, kill1, kill1L, kill, kills, killO, killOs, bin, binI, binS, binB, eq1, eqB, lit, sameK, kn, unI, mxA, mnA, mkAgg, fits, partN, partA, resN, retV, allVal, isVal, allCell, isCell, okVal, okCell, cellsOf, fillN, rowsN, cellsN, bnd, lohi, offAt, overL, segL, leave, NodeOK, List.cons_append, List.nil_append, List.append_nil, catA, anys, lenA]; (refine eval_sound 2000 _ _ _ ?_; simp (maxSteps := 1000000) only [ptrL, lenV, Bool.not_true, Bool.not_false, lookR, valOf, asGrow, jump, findA, restA, and, Nat.reduceAdd, Nat.reduceSub, Nat.reduceMul, Int.reduceToNat, eval, nf, nfO, opN, appTo, rowsV, getL, setL, getO, setO, snocO, lenO, putL, ev, evs, ifEq, killV, killL, kill1, kill1L, kill, kills, killO, killOs, bin, binI, binS, binB, eq1, eqB, lit, sameK, kn, unI, mxA, mnA, mkAgg, fits, partN, partA, resN, retV, allVal, isVal, allCell, isCell, okVal, okCell, cellsOf, fillN, rowsN, cellsN, bnd, lohi, offAt, overL, segL, leave, NodeOK, List.cons_append, List.nil_append, List.append_nil, catA, anys, lenA]))
      rw [w1, w2, hs]
      refine ⟨i + 1, by omega, by omega, ?_⟩
      (simp only [wrC, wrOs, keepT, memN, setsL, setsO, setL, setO, snocO, List.cons_append, List.nil_append, List.append_nil, Nat.reduceAdd, Nat.zero_add, Wk, mtc, mtcS, mtcSL, mtc0, mtc0L, mtcL, mtcO, mtcOs, cutM, takeE, stA, rl, renV, renL, ren1, ren1L, ren, rens, renO, Nat.blt, lenO, getO, setO, setL, anys, u8s]; simp [u8s])
  · have hE := revK_end (l := l) (i := i) (by omega)
    rw [hE]
    refine ⟨[], rfl, .tup [], _, ?_, ?_, rfl⟩ <;> simp [Wk, mtc, mtcS, mtcSL, mtc0, mtc0L, mtcL, mtcO, mtcOs, cutM, takeE, stA, rl, renV, renL, ren1, ren1L, ren, rens, renO, Nat.blt, lenO, getO, setO, setL, anys, okS, endM, endH, idxN, takeE, pickE, catO, rl, renV, renL, ren1, ren1L, ren, rens, renO, Nat.blt, lenO, getO, setO, setL, anys]
theorem bclone_c (l : List Int) (h0 : 0 < l.length) (hl : l.length ≤ 1000000) : ACalls Try.prog 73 [.ro 1 (u8s l)] [] (fun r hs => r = .own 0 ∧ hs = [.grow 5 1 (u8s l)]) := by
  refine acalls_weak (acalls_of (fn := Try.f73) (A := a73) Try.func73 ok_73 en_73 ?_)
  dsimp only [a73, u8s_len]
  (refine eval_sound 2000 _ _ _ ?_; simp (maxSteps := 1000000) only [ptrL, lenV, Bool.not_true, Bool.not_false, lookR, valOf, asGrow, jump, findA, restA, and, Nat.reduceAdd, Nat.reduceSub, Nat.reduceMul, Int.reduceToNat, eval, nf, nfO, opN, appTo, rowsV, getL, setL, getO, setO, snocO, lenO, putL, ev, evs, ifEq, killV, killL, kill1, kill1L, kill, kills, killO, killOs, bin, binI, binS, binB, eq1, eqB, lit, sameK, kn, unI, mxA, mnA, mkAgg, fits, partN, partA, resN, retV, allVal, isVal, allCell, isCell, okVal, okCell, cellsOf, fillN, rowsN, cellsN, bnd, lohi, offAt, overL, segL, leave, NodeOK, List.cons_append, List.nil_append, List.append_nil, catA, anys, lenA])
  simp only [u8s_len, List.length_nil]
  refine ⟨fun h => ?_, by omega, ?_⟩
  · exfalso
    have := congrArg List.length h
    rw [u8s_len] at this
    simp at this
    subst this
    simp at h0
  · refine ⟨[0], rfl, _, _, ?_, ?_, rfl, rfl⟩ <;> simp [Wk, mtc, mtcS, mtcSL, mtc0, mtc0L, mtcL, mtcO, mtcOs, cutM, takeE, stA, rl, renV, renL, ren1, ren1L, ren, rens, renO, Nat.blt, lenO, getO, setO, setL, anys, okS, endM, endH, idxN, takeE, pickE, catO, rl, renV, renL, ren1, ren1L, ren, rens, renO, Nat.blt, lenO, getO, setO, setL, anys]
theorem trn_c (l : List Int) (h0 : 0 < l.length) (hL : l.length ≤ 1000000) : ACalls Try.prog 48 [.ro 1 (u8s l)] [] (fun r hs => r = .ro 1 (u8s l.reverse) ∧ hs = []) := by
  refine acalls_weak (acalls_of (fn := Try.f48) (A := a48) Try.func48 ok_48 en_48 ?_)
  dsimp only [a48, u8s_len]
  (refine eval_sound 2000 _ _ _ ?_; simp (maxSteps := 1000000) only [ptrL, lenV, Bool.not_true, Bool.not_false, lookR, valOf, asGrow, jump, findA, restA, and, Nat.reduceAdd, Nat.reduceSub, Nat.reduceMul, Int.reduceToNat, eval, nf, nfO, opN, appTo, rowsV, getL, setL, getO, setO, snocO, lenO, putL, ev, evs, ifEq, killV, killL, kill1, kill1L, kill, kills, killO, killOs, bin, binI, binS, binB, eq1, eqB, lit, sameK, kn, unI, mxA, mnA, mkAgg, fits, partN, partA, resN, retV, allVal, isVal, allCell, isCell, okVal, okCell, cellsOf, fillN, rowsN, cellsN, bnd, lohi, offAt, overL, segL, leave, NodeOK, List.cons_append, List.nil_append, List.append_nil, catA, anys, lenA])
  ((repeat (with_reducible refine And.intro ?_ ?_; focus (simp; done))); refine aw_call (bclone_c l h0 hL) [] rfl (by simp [upM, nthN, matchO, rens, ren, ren1, ren1L, renL, renV, renO, rl, lenO, getO, Nat.blt, mtc, mtcS, mtcSL, mtc0, mtc0L, u8s_len]) rfl (by simp [upM, nthN, matchO, rens, ren, ren1, ren1L, renL, renV, renO, rl, lenO, getO, Nat.blt, mtc, mtcS, mtcSL, mtc0, mtc0L, u8s_len]) rfl (fun r hs hp hl => ?_); obtain ⟨rfl, rfl⟩ := hp; simp only [snocO, upM, nthN, putAll, snocAll, killsA, killOsA, grows, putL, rl, renV, renL, ren1, ren1L, ren, rens, renO, Nat.blt, lenO, getO, setO, setL, anys, u8s_len])
  refine aw_sl 0 _ 1 (u8s l) rfl (by rw [u8s_len]; omega) fun cap hcap => ?_
  rw [u8s_len] at hcap
  rw [u8c_flat, u8s_len]
  simp only [snocO, mapA, frz, frz1, frzV, mapO, frzO, ifEq, setO, getO, getL, setL]
  (refine eval_sound 2000 _ _ _ ?_; simp (maxSteps := 1000000) only [ptrL, lenV, Bool.not_true, Bool.not_false, lookR, valOf, asGrow, jump, findA, restA, and, Nat.reduceAdd, Nat.reduceSub, Nat.reduceMul, Int.reduceToNat, eval, nf, nfO, opN, appTo, rowsV, getL, setL, getO, setO, snocO, lenO, putL, ev, evs, ifEq, killV, killL, kill1, kill1L, kill, kills, killO, killOs, bin, binI, binS, binB, eq1, eqB, lit, sameK, kn, unI, mxA, mnA, mkAgg, fits, partN, partA, resN, retV, allVal, isVal, allCell, isCell, okVal, okCell, cellsOf, fillN, rowsN, cellsN, bnd, lohi, offAt, overL, segL, leave, NodeOK, List.cons_append, List.nil_append, List.append_nil, catA, anys, lenA])
  generalize hE : List.replicate (cap * 1 - l.length * 1) AV.any = E
  have hEl : E.length = cap - l.length := by rw [← hE]; simp
  ((repeat (with_reducible refine And.intro ?_ ?_; focus (simp; done))); refine aw_call (rev_c l E cap h0 hL hcap) [0] rfl (by simp [upM, nthN, matchO, rens, ren, ren1, ren1L, renL, renV, renO, rl, lenO, getO, Nat.blt, mtc, mtcS, mtcSL, mtc0, mtc0L]) rfl (by simp [upM, nthN, matchO, rens, ren, ren1, ren1L, renL, renV, renO, rl, lenO, getO, Nat.blt, mtc, mtcS, mtcSL, mtc0, mtc0L]) rfl (fun r hs hp hl => ?_); subst hp; simp only [snocO, upM, nthN, putAll, snocAll, killsA, killOsA, grows, putL, rl, renV, renL, ren1, ren1L, ren, rens, renO, Nat.blt, lenO, getO, setO, setL, anys])
  refine aw_trans (trans_frA 0 0 cap (u8s l.reverse) (sz := 1) rfl ?_ ?_ ?_ ?_) ?_
  · rw [u8s_len, List.length_reverse]; exact hcap
  · intro row hr
    obtain ⟨n, _, rfl⟩ := List.mem_map.1 hr
    rfl
  · intro i row j a e1 e2
    rw [u8s_at, Option.map_eq_some_iff] at e1
    obtain ⟨n, hn, rfl⟩ := e1
    have hj : j = 0 := by have := (List.getElem?_eq_some_iff.1 e2).1; simpa using this
    subst hj
    simp at e2
    subst e2
    rw [show 0 + (i * 1 + 0) = i by omega]
    exact u8c_at hn
  · rw [u8s_len, List.length_append, u8c_len, List.length_reverse, hEl]
    omega
  rw [u8s_len, List.length_reverse]
  simp only [snocO, mapA, frA, frA1, frAV, mapO, frAO, ifEq, setO, getO, getL, setL, Nat.beq_refl, List.length_map, u8s_len]
  (refine eval_sound 2000 _ _ _ ?_; simp (maxSteps := 1000000) only [ptrL, lenV, Bool.not_true, Bool.not_false, lookR, valOf, asGrow, jump, findA, restA, and, Nat.reduceAdd, Nat.reduceSub, Nat.reduceMul, Int.reduceToNat, eval, nf, nfO, opN, appTo, rowsV, getL, setL, getO, setO, snocO, lenO, putL, ev, evs, ifEq, killV, killL, kill1, kill1L, kill, kills, killO, killOs, bin, binI, binS, binB, eq1, eqB, lit, sameK, kn, unI, mxA, mnA, mkAgg, fits, partN, partA, resN, retV, allVal, isVal, allCell, isCell, okVal, okCell, cellsOf, fillN, rowsN, cellsN, bnd, lohi, offAt, overL, segL, leave, NodeOK, List.cons_append, List.nil_append, List.append_nil, catA, anys, lenA])
  ((repeat (with_reducible refine And.intro ?_ ?_; focus (simp; done))); refine ⟨[], rfl, _, _, ?_, ?_, rfl, rfl⟩ <;> simp [Wk, mtc, mtcS, mtcSL, mtc0, mtc0L, mtcL, mtcO, mtcOs, cutM, takeE, stA, rl, renV, renL, ren1, ren1L, ren, rens, renO, Nat.blt, lenO, getO, setO, setL, anys, okS, endM, endH, idxN, takeE, pickE, catO, rl, renV, renL, ren1, ren1L, ren, rens, renO, Nat.blt, lenO, getO, setO, setL, anys, u8s_len])
end Go.Proofs.Ytjkmnmpjcdanhaa.S
