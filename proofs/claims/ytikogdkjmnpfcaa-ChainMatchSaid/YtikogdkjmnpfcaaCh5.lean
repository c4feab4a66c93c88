/- Contracts of chains: the document's rows behind others. -/
import Derived.Test.YtikogdkjmnpfcaaCh4
namespace Go.Proofs.Ytikogdkjmnpfcaa.S
set_option linter.all false
set_option maxRecDepth 100000
theorem rjoined0 (o : Int) (a b : List It) (ha : a.length ≤ 4096) (hb : b.length ≤ 1000) : ACalls Try.prog 72 [.int .u64 o, .ro 3 (a.map itR), .ro 3 (b.map itR)] []
    (fun r hs => if joinE o a b = 0 then r = .tup [.own 0, .int .i64 0] ∧ hs = [.grow 28 3 ((a ++ b).map itR)] else r = .tup [.nils, .int .i64 (joinE o a b)] ∧ hs = []) := by
  refine acalls_weak (acalls_of (fn := Try.f72) (A := a72) Try.func72 ok_72 en_72 ?_)
  dsimp only [a72, itA]
  (refine eval_sound 2000 _ _ _ ?_; simp (maxSteps := 1000000) only [jump, findA, restA, and, Nat.reduceAdd, Nat.reduceSub, Nat.reduceMul, eval, nf, nfO, opN, appTo, rowsV, getL, setL, getO, setO, snocO, lenO, putL, ev, evs, ifEq, killV, killL, kill1, kill1L, kill, kills, killO, killOs, bin, binI, binS, binB, eq1, eqB, lit, sameK, kn, unI, mxA, mnA, mkAgg, fits, partN, partA, resN, retV, allVal, isVal, allCell, isCell, okVal, okCell, cellsOf, fillN, rowsN, cellsN, bnd, lohi, offAt, overL, segL, leave, NodeOK, List.cons_append, List.nil_append, List.append_nil, catA, anys, lenA])
  simp only [List.length_map]
  rw [show (a.length : Int) + b.length = ((a.length + b.length : Nat) : Int) by omega, wr64 (n := ((a.length + b.length : Nat) : Int)) (by omega) (by omega)]
  simp only [decide_eq_true_eq, decide_eq_false_iff_not]
  refine ⟨fun h => ?_, fun h => ?_⟩
  · have e1 : joinE o a b = 31 := by unfold joinE; rw [if_pos (by omega)]
    rw [e1]
    refine ⟨[], rfl, .tup [.nils, .int .i64 31], [], ?_, ?_, by rw [if_neg (by decide)]; exact ⟨rfl, rfl⟩⟩ <;> simp [Wk, mtc, mtc0, mtc0L, mtcL, mtcO, mtcOs, cutM, takeE, stA, rl, renV, renL, ren1, ren1L, ren, rens, renO, Nat.blt, lenO, getO, setO, setL, anys, okS, endM, endH, idxN, takeE, pickE, catO, rl, renV, renL, ren1, ren1L, ren, rens, renO, Nat.blt, lenO, getO, setO, setL, anys]
  refine ⟨by omega, fun h2 => ?_, fun h2 => ?_⟩
  · obtain ⟨q, hq, hq2⟩ := lastT_at (o := o) (a := a) (by omega)
    rw [wr64 (n := (a.length : Int) - 1) (by omega) (by omega)]
    refine ⟨by omega, itR q, by rw [List.getElem?_map, show ((a.length : Int) - 1).toNat = a.length - 1 by omega, hq]; rfl, ?_⟩
    simp only [itR]
    (refine eval_sound 2000 _ _ _ ?_; simp (maxSteps := 1000000) only [jump, findA, restA, and, Nat.reduceAdd, Nat.reduceSub, Nat.reduceMul, eval, nf, nfO, opN, appTo, rowsV, getL, setL, getO, setO, snocO, lenO, putL, ev, evs, ifEq, killV, killL, kill1, kill1L, kill, kills, killO, killOs, bin, binI, binS, binB, eq1, eqB, lit, sameK, kn, unI, mxA, mnA, mkAgg, fits, partN, partA, resN, retV, allVal, isVal, allCell, isCell, okVal, okCell, cellsOf, fillN, rowsN, cellsN, bnd, lohi, offAt, overL, segL, leave, NodeOK, List.cons_append, List.nil_append, List.append_nil, catA, anys, lenA])
    have hT : fallsL (lastT o a) b = fallsL q.t (b.drop 0) := by rw [hq2]; rfl
    refine aw_loopU (α := Nat × Int) (fun s => s.1 ≤ b.length ∧ fallsL (lastT o a) b = fallsL s.2 (b.drop s.1)) (fun s => [(8, .own 0), (9, .int .u64 s.2), (10, .int .i64 s.1)]) (fun s => [(0, .grow 28 3 ((a ++ b.take s.1).map itR))]) (fun s => b.length - s.1) ((0, q.t)) (⟨Nat.zero_le _, hT⟩) ?_ fun x hx => ?_
    · simp only [List.take_zero, List.append_nil]
      (simp only [wrC, wrOs, keepT, memN, setsL, setsO, setL, setO, snocO, List.cons_append, List.nil_append, List.append_nil, Nat.reduceAdd, Nat.zero_add, Wk, mtc, mtc0, mtc0L, mtcL, mtcO, mtcOs, cutM, takeE, stA, rl, renV, renL, ren1, ren1L, ren, rens, renO, Nat.blt, lenO, getO, setO, setL, anys, itA]; simp [itA])
    obtain ⟨k, x⟩ := x
    obtain ⟨hk0, hx⟩ := hx
    simp only [] at hk0 hx
    (simp only [wrC, wrOs, keepT, memN, setsL, setsO, setL, setO, snocO, List.cons_append, List.nil_append, List.append_nil, Nat.reduceAdd, Nat.zero_add, itA]; (refine eval_sound 2000 _ _ _ ?_; simp (maxSteps := 1000000) only [jump, findA, restA, and, Nat.reduceAdd, Nat.reduceSub, Nat.reduceMul, eval, nf, nfO, opN, appTo, rowsV, getL, setL, getO, setO, snocO, lenO, putL, ev, evs, ifEq, killV, killL, kill1, kill1L, kill, kills, killO, killOs, bin, binI, binS, binB, eq1, eqB, lit, sameK, kn, unI, mxA, mnA, mkAgg, fits, partN, partA, resN, retV, allVal, isVal, allCell, isCell, okVal, okCell, cellsOf, fillN, rowsN, cellsN, bnd, lohi, offAt, overL, segL, leave, NodeOK, List.cons_append, List.nil_append, List.append_nil, catA, anys, lenA]))
    simp only [decide_eq_true_eq, decide_eq_false_iff_not, List.length_map]
    refine ⟨fun h4 => ?_, fun h4 => ?_⟩
    · have hk : k < b.length := by omega
      obtain ⟨y, hy⟩ : ∃ y, b[k]? = some y := ⟨_, List.getElem?_eq_getElem hk⟩
      have hs : fallsL (lastT o a) b = (decide (y.t < x) || fallsL y.t (b.drop (k + 1))) := falls_step (x := ⟨x, 0, ⟨#[]⟩⟩) hx hy
      have hrow : (b.map itR)[((k : Int)).toNat]? = some (itR y) := by rw [List.getElem?_map, Int.toNat_natCast, hy]; rfl
      have htk : a ++ b.take (k + 1) = (a ++ b.take k) ++ [y] := by rw [List.take_add_one, hy, List.append_assoc]; rfl
      refine ⟨by omega, itR y, hrow, ?_⟩
      simp only [itR]
      (refine eval_sound 2000 _ _ _ ?_; simp (maxSteps := 1000000) only [jump, findA, restA, and, Nat.reduceAdd, Nat.reduceSub, Nat.reduceMul, eval, nf, nfO, opN, appTo, rowsV, getL, setL, getO, setO, snocO, lenO, putL, ev, evs, ifEq, killV, killL, kill1, kill1L, kill, kills, killO, killOs, bin, binI, binS, binB, eq1, eqB, lit, sameK, kn, unI, mxA, mnA, mkAgg, fits, partN, partA, resN, retV, allVal, isVal, allCell, isCell, okVal, okCell, cellsOf, fillN, rowsN, cellsN, bnd, lohi, offAt, overL, segL, leave, NodeOK, List.cons_append, List.nil_append, List.append_nil, catA, anys, lenA])
      refine ⟨fun h5 => ?_, fun h5 => ?_⟩
      · have e1 : joinE o a b = 2 := by unfold joinE; rw [if_neg (by omega), if_pos (by rw [hs, h5]; rfl)]
        rw [e1]
        refine ⟨[], rfl, .tup [.nils, .int .i64 2], [], ?_, ?_, by rw [if_neg (by decide)]; exact ⟨rfl, rfl⟩⟩ <;> simp [Wk, mtc, mtc0, mtc0L, mtcL, mtcO, mtcOs, cutM, takeE, stA, rl, renV, renL, ren1, ren1L, ren, rens, renO, Nat.blt, lenO, getO, setO, setL, anys, okS, endM, endH, idxN, takeE, pickE, catO, rl, renV, renL, ren1, ren1L, ren, rens, renO, Nat.blt, lenO, getO, setO, setL, anys]
      · refine ⟨by omega, itR y, hrow, ?_⟩
        simp only [itR]
        (refine eval_sound 2000 _ _ _ ?_; simp (maxSteps := 1000000) only [jump, findA, restA, and, Nat.reduceAdd, Nat.reduceSub, Nat.reduceMul, eval, nf, nfO, opN, appTo, rowsV, getL, setL, getO, setO, snocO, lenO, putL, ev, evs, ifEq, killV, killL, kill1, kill1L, kill, kills, killO, killOs, bin, binI, binS, binB, eq1, eqB, lit, sameK, kn, unI, mxA, mnA, mkAgg, fits, partN, partA, resN, retV, allVal, isVal, allCell, isCell, okVal, okCell, cellsOf, fillN, rowsN, cellsN, bnd, lohi, offAt, overL, segL, leave, NodeOK, List.cons_append, List.nil_append, List.append_nil, catA, anys, lenA])
        refine ⟨by omega, itR y, hrow, ?_⟩
        simp only [itR]
        (refine eval_sound 2000 _ _ _ ?_; simp (maxSteps := 1000000) only [jump, findA, restA, and, Nat.reduceAdd, Nat.reduceSub, Nat.reduceMul, eval, nf, nfO, opN, appTo, rowsV, getL, setL, getO, setO, snocO, lenO, putL, ev, evs, ifEq, killV, killL, kill1, kill1L, kill, kills, killO, killOs, bin, binI, binS, binB, eq1, eqB, lit, sameK, kn, unI, mxA, mnA, mkAgg, fits, partN, partA, resN, retV, allVal, isVal, allCell, isCell, okVal, okCell, cellsOf, fillN, rowsN, cellsN, bnd, lohi, offAt, overL, segL, leave, NodeOK, List.cons_append, List.nil_append, List.append_nil, catA, anys, lenA])
        rw [wr64 (n := (k : Int) + 1) (by omega) (by omega)]
        refine ⟨by simp, by simp; omega, (k + 1, y.t), ⟨by simp only []; omega, by rw [hs, h5]; rfl⟩, by simp only []; omega, ?_⟩
        simp only [htk]
        (simp only [wrC, wrOs, keepT, memN, setsL, setsO, setL, setO, snocO, List.cons_append, List.nil_append, List.append_nil, Nat.reduceAdd, Nat.zero_add, Wk, mtc, mtc0, mtc0L, mtcL, mtcO, mtcOs, cutM, takeE, stA, rl, renV, renL, ren1, ren1L, ren, rens, renO, Nat.blt, lenO, getO, setO, setL, anys, itA, itR]; simp [itA, itR])
    · have hk : k = b.length := by omega
      subst hk
      have e1 : joinE o a b = 0 := by unfold joinE; rw [if_neg (by omega), if_neg (by rw [hx, List.drop_length]; simp [fallsL])]
      rw [e1, List.take_length]
      refine ⟨[0], rfl, .tup [.own 0, .int .i64 0], [.grow 28 3 ((a ++ b).map itR)], ?_, ?_, by rw [if_pos rfl]; exact ⟨rfl, rfl⟩⟩ <;> simp [Wk, mtc, mtc0, mtc0L, mtcL, mtcO, mtcOs, cutM, takeE, stA, rl, renV, renL, ren1, ren1L, ren, rens, renO, Nat.blt, lenO, getO, setO, setL, anys, okS, endM, endH, idxN, takeE, pickE, catO, rl, renV, renL, ren1, ren1L, ren, rens, renO, Nat.blt, lenO, getO, setO, setL, anys]
  · have ha0 : a = [] := List.eq_nil_of_length_eq_zero (by omega)
    have hT : fallsL (lastT o a) b = fallsL o (b.drop 0) := by rw [ha0]; rfl
    refine aw_loopU (α := Nat × Int) (fun s => s.1 ≤ b.length ∧ fallsL (lastT o a) b = fallsL s.2 (b.drop s.1)) (fun s => [(8, .own 0), (9, .int .u64 s.2), (10, .int .i64 s.1)]) (fun s => [(0, .grow 28 3 ((a ++ b.take s.1).map itR))]) (fun s => b.length - s.1) ((0, o)) (⟨Nat.zero_le _, hT⟩) ?_ fun x hx => ?_
    · simp only [List.take_zero, List.append_nil]
      (simp only [wrC, wrOs, keepT, memN, setsL, setsO, setL, setO, snocO, List.cons_append, List.nil_append, List.append_nil, Nat.reduceAdd, Nat.zero_add, Wk, mtc, mtc0, mtc0L, mtcL, mtcO, mtcOs, cutM, takeE, stA, rl, renV, renL, ren1, ren1L, ren, rens, renO, Nat.blt, lenO, getO, setO, setL, anys, itA]; simp [itA])
    obtain ⟨k, x⟩ := x
    obtain ⟨hk0, hx⟩ := hx
    simp only [] at hk0 hx
    (simp only [wrC, wrOs, keepT, memN, setsL, setsO, setL, setO, snocO, List.cons_append, List.nil_append, List.append_nil, Nat.reduceAdd, Nat.zero_add, itA]; (refine eval_sound 2000 _ _ _ ?_; simp (maxSteps := 1000000) only [jump, findA, restA, and, Nat.reduceAdd, Nat.reduceSub, Nat.reduceMul, eval, nf, nfO, opN, appTo, rowsV, getL, setL, getO, setO, snocO, lenO, putL, ev, evs, ifEq, killV, killL, kill1, kill1L, kill, kills, killO, killOs, bin, binI, binS, binB, eq1, eqB, lit, sameK, kn, unI, mxA, mnA, mkAgg, fits, partN, partA, resN, retV, allVal, isVal, allCell, isCell, okVal, okCell, cellsOf, fillN, rowsN, cellsN, bnd, lohi, offAt, overL, segL, leave, NodeOK, List.cons_append, List.nil_append, List.append_nil, catA, anys, lenA]))
    simp only [decide_eq_true_eq, decide_eq_false_iff_not, List.length_map]
    refine ⟨fun h4 => ?_, fun h4 => ?_⟩
    · have hk : k < b.length := by omega
      obtain ⟨y, hy⟩ : ∃ y, b[k]? = some y := ⟨_, List.getElem?_eq_getElem hk⟩
      have hs : fallsL (lastT o a) b = (decide (y.t < x) || fallsL y.t (b.drop (k + 1))) := falls_step (x := ⟨x, 0, ⟨#[]⟩⟩) hx hy
      have hrow : (b.map itR)[((k : Int)).toNat]? = some (itR y) := by rw [List.getElem?_map, Int.toNat_natCast, hy]; rfl
      have htk : a ++ b.take (k + 1) = (a ++ b.take k) ++ [y] := by rw [List.take_add_one, hy, List.append_assoc]; rfl
      refine ⟨by omega, itR y, hrow, ?_⟩
      simp only [itR]
      (refine eval_sound 2000 _ _ _ ?_; simp (maxSteps := 1000000) only [jump, findA, restA, and, Nat.reduceAdd, Nat.reduceSub, Nat.reduceMul, eval, nf, nfO, opN, appTo, rowsV, getL, setL, getO, setO, snocO, lenO, putL, ev, evs, ifEq, killV, killL, kill1, kill1L, kill, kills, killO, killOs, bin, binI, binS, binB, eq1, eqB, lit, sameK, kn, unI, mxA, mnA, mkAgg, fits, partN, partA, resN, retV, allVal, isVal, allCell, isCell, okVal, okCell, cellsOf, fillN, rowsN, cellsN, bnd, lohi, offAt, overL, segL, leave, NodeOK, List.cons_append, List.nil_append, List.append_nil, catA, anys, lenA])
      refine ⟨fun h5 => ?_, fun h5 => ?_⟩
      · have e1 : joinE o a b = 2 := by unfold joinE; rw [if_neg (by omega), if_pos (by rw [hs, h5]; rfl)]
        rw [e1]
        refine ⟨[], rfl, .tup [.nils, .int .i64 2], [], ?_, ?_, by rw [if_neg (by decide)]; exact ⟨rfl, rfl⟩⟩ <;> simp [Wk, mtc, mtc0, mtc0L, mtcL, mtcO, mtcOs, cutM, takeE, stA, rl, renV, renL, ren1, ren1L, ren, rens, renO, Nat.blt, lenO, getO, setO, setL, anys, okS, endM, endH, idxN, takeE, pickE, catO, rl, renV, renL, ren1, ren1L, ren, rens, renO, Nat.blt, lenO, getO, setO, setL, anys]
      · refine ⟨by omega, itR y, hrow, ?_⟩
        simp only [itR]
        (refine eval_sound 2000 _ _ _ ?_; simp (maxSteps := 1000000) only [jump, findA, restA, and, Nat.reduceAdd, Nat.reduceSub, Nat.reduceMul, eval, nf, nfO, opN, appTo, rowsV, getL, setL, getO, setO, snocO, lenO, putL, ev, evs, ifEq, killV, killL, kill1, kill1L, kill, kills, killO, killOs, bin, binI, binS, binB, eq1, eqB, lit, sameK, kn, unI, mxA, mnA, mkAgg, fits, partN, partA, resN, retV, allVal, isVal, allCell, isCell, okVal, okCell, cellsOf, fillN, rowsN, cellsN, bnd, lohi, offAt, overL, segL, leave, NodeOK, List.cons_append, List.nil_append, List.append_nil, catA, anys, lenA])
        refine ⟨by omega, itR y, hrow, ?_⟩
        simp only [itR]
        (refine eval_sound 2000 _ _ _ ?_; simp (maxSteps := 1000000) only [jump, findA, restA, and, Nat.reduceAdd, Nat.reduceSub, Nat.reduceMul, eval, nf, nfO, opN, appTo, rowsV, getL, setL, getO, setO, snocO, lenO, putL, ev, evs, ifEq, killV, killL, kill1, kill1L, kill, kills, killO, killOs, bin, binI, binS, binB, eq1, eqB, lit, sameK, kn, unI, mxA, mnA, mkAgg, fits, partN, partA, resN, retV, allVal, isVal, allCell, isCell, okVal, okCell, cellsOf, fillN, rowsN, cellsN, bnd, lohi, offAt, overL, segL, leave, NodeOK, List.cons_append, List.nil_append, List.append_nil, catA, anys, lenA])
        rw [wr64 (n := (k : Int) + 1) (by omega) (by omega)]
        refine ⟨by simp, by simp; omega, (k + 1, y.t), ⟨by simp only []; omega, by rw [hs, h5]; rfl⟩, by simp only []; omega, ?_⟩
        simp only [htk]
        (simp only [wrC, wrOs, keepT, memN, setsL, setsO, setL, setO, snocO, List.cons_append, List.nil_append, List.append_nil, Nat.reduceAdd, Nat.zero_add, Wk, mtc, mtc0, mtc0L, mtcL, mtcO, mtcOs, cutM, takeE, stA, rl, renV, renL, ren1, ren1L, ren, rens, renO, Nat.blt, lenO, getO, setO, setL, anys, itA, itR]; simp [itA, itR])
    · have hk : k = b.length := by omega
      subst hk
      have e1 : joinE o a b = 0 := by unfold joinE; rw [if_neg (by omega), if_neg (by rw [hx, List.drop_length]; simp [fallsL])]
      rw [e1, List.take_length]
      refine ⟨[0], rfl, .tup [.own 0, .int .i64 0], [.grow 28 3 ((a ++ b).map itR)], ?_, ?_, by rw [if_pos rfl]; exact ⟨rfl, rfl⟩⟩ <;> simp [Wk, mtc, mtc0, mtc0L, mtcL, mtcO, mtcOs, cutM, takeE, stA, rl, renV, renL, ren1, ren1L, ren, rens, renO, Nat.blt, lenO, getO, setO, setL, anys, okS, endM, endH, idxN, takeE, pickE, catO, rl, renV, renL, ren1, ren1L, ren, rens, renO, Nat.blt, lenO, getO, setO, setL, anys]
theorem rjoined_c (o : Int) (a b : List It) (ha : a.length ≤ 4096) (hb : b.length ≤ 1000) : ACalls Try.prog 72 [.int .u64 o, .ro 3 (a.map itR), .ro 3 (b.map itR)] [] (fun r hs => r = .tup [.ro 3 ((joinL o a b).map itR), .int .i64 (joinE o a b)] ∧ hs = []) := by
  have h0 := rjoined0 o a b ha hb
  unfold joinL
  by_cases hE : joinE o a b = 0
  · simp only [hE, if_true] at h0 ⊢
    (refine acalls_tr (h0) fun r hs h => ?_; obtain ⟨rfl, rfl⟩ := h; exact ⟨_, _, _, _, _, trans_frz 0 _ _ _ rfl, by simp [snocO, mapA, frz, frz1, frzV, mapO, frzO, ifEq, setO, getO, getL, setL, Wk, mtc, mtc0, mtc0L, mtcL, mtcO, mtcOs, cutM, takeE, stA, rl, renV, renL, ren1, ren1L, ren, rens, renO, Nat.blt, lenO, getO, setO, setL, anys, frz, frz1, frzV, frzO, itA], rfl, rfl⟩)
  · simp only [hE, if_false] at h0 ⊢
    refine acalls_tr h0 fun r hs h => ?_
    obtain ⟨rfl, rfl⟩ := h
    exact ⟨_, _, _, _, _, trans_id, by simp [Wk, mtc, mtc0, mtc0L, mtcL, mtcO, mtcOs, cutM, takeE, stA, rl, renV, renL, ren1, ren1L, ren, rens, renO, Nat.blt, lenO, getO, setO, setL, anys], rfl, rfl⟩
end Go.Proofs.Ytikogdkjmnpfcaa.S
