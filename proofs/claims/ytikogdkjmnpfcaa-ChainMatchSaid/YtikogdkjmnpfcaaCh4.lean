/- Contracts of chains: rows behind others. -/
import Derived.Test.YtikogdkjmnpfcaaCh3
namespace Go.Proofs.Ytikogdkjmnpfcaa.S
set_option linter.all false
set_option maxRecDepth 100000
def lastT (o : Int) (a : List It) : Int := match a.getLast? with
  | some x => x.t
  | none => o
def fallsL : Int → List It → Bool
  | _, [] => false
  | o, x :: l => decide (x.t < o) || fallsL x.t l
def joinE (o : Int) (a b : List It) : Int := if 4096 < a.length + b.length then 31 else if fallsL (lastT o a) b = true then 2 else 0
def joinL (o : Int) (a b : List It) : List It := if joinE o a b = 0 then a ++ b else []
theorem lastT_at {o : Int} {a : List It} (h : 0 < a.length) : ∃ x, a[a.length - 1]? = some x ∧ lastT o a = x.t := by
  refine ⟨a[a.length - 1]'(by omega), List.getElem?_eq_getElem _, ?_⟩
  unfold lastT
  rw [List.getLast?_eq_getElem?, List.getElem?_eq_getElem (by omega)]
theorem lastT_nil (o : Int) : lastT o [] = o := rfl
theorem falls_step {o : Int} {b : List It} {k : Nat} {x : It} {y : It} (h : fallsL o b = fallsL x.t (b.drop k)) (hy : b[k]? = some y) : fallsL o b = (decide (y.t < x.t) || fallsL y.t (b.drop (k + 1))) := by
  have hk := (List.getElem?_eq_some_iff.1 hy).1
  rw [h, List.drop_eq_getElem_cons hk]
  have : b[k] = y := by have := List.getElem?_eq_getElem hk; rw [hy] at this; injection this with this; exact this.symm
  rw [this]; rfl
theorem joined_c (o : Int) (a b : List It) (ha : a.length ≤ 4096) (hb : b.length ≤ 1000) : ACalls Try.prog 57 [.int .u64 o, .ro 3 (a.map itR), .ro 3 (b.map itR)] [] (fun r hs => r = .tup [.ro 3 ((joinL o a b).map itR), .int .i64 (joinE o a b)] ∧ hs = []) := by
  refine acalls_weak (acalls_of (fn := Try.f57) (A := a57) Try.func57 ok_57 en_57 ?_)
  dsimp only [a57, itA]
  (refine eval_sound 2000 _ _ _ ?_; simp (maxSteps := 1000000) only [jump, findA, restA, and, Nat.reduceAdd, Nat.reduceSub, Nat.reduceMul, eval, nf, nfO, opN, appTo, rowsV, getL, setL, getO, setO, snocO, lenO, putL, ev, evs, ifEq, killV, killL, kill1, kill1L, kill, kills, killO, killOs, bin, binI, binS, binB, eq1, eqB, lit, sameK, kn, unI, mxA, mnA, mkAgg, fits, partN, partA, resN, retV, allVal, isVal, allCell, isCell, okVal, okCell, cellsOf, fillN, rowsN, cellsN, bnd, lohi, offAt, overL, segL, leave, NodeOK, List.cons_append, List.nil_append, List.append_nil, catA, anys, lenA])
  simp only [List.length_map]
  rw [show (a.length : Int) + b.length = ((a.length + b.length : Nat) : Int) by omega, wr64 (n := ((a.length + b.length : Nat) : Int)) (by omega) (by omega)]
  simp only [decide_eq_true_eq, decide_eq_false_iff_not]
  refine ⟨fun h => ?_, fun h => ?_⟩
  · have e1 : joinE o a b = 31 := by unfold joinE; rw [if_pos (by omega)]
    have e2 : joinL o a b = [] := by unfold joinL; rw [e1]; rfl
    rw [e1, e2]
    ((repeat (with_reducible refine And.intro ?_ ?_; focus (simp; done))); refine ⟨[], rfl, _, _, ?_, ?_, rfl, rfl⟩ <;> simp [Wk, mtc, mtc0, mtc0L, mtcL, mtcO, mtcOs, cutM, takeE, stA, rl, renV, renL, ren1, ren1L, ren, rens, renO, Nat.blt, lenO, getO, setO, setL, anys, okS, endM, endH, idxN, takeE, pickE, catO, rl, renV, renL, ren1, ren1L, ren, rens, renO, Nat.blt, lenO, getO, setO, setL, anys, itA])
  refine ⟨fun h2 => ?_, fun h2 => ?_⟩
  · obtain ⟨q, hq, hq2⟩ := lastT_at (o := o) (a := a) (by omega)
    rw [wr64 (n := (a.length : Int) - 1) (by omega) (by omega)]
    refine ⟨by omega, itR q, by rw [List.getElem?_map, show ((a.length : Int) - 1).toNat = a.length - 1 by omega, hq]; rfl, ?_⟩
    simp only [itR]
    (refine eval_sound 2000 _ _ _ ?_; simp (maxSteps := 1000000) only [jump, findA, restA, and, Nat.reduceAdd, Nat.reduceSub, Nat.reduceMul, eval, nf, nfO, opN, appTo, rowsV, getL, setL, getO, setO, snocO, lenO, putL, ev, evs, ifEq, killV, killL, kill1, kill1L, kill, kills, killO, killOs, bin, binI, binS, binB, eq1, eqB, lit, sameK, kn, unI, mxA, mnA, mkAgg, fits, partN, partA, resN, retV, allVal, isVal, allCell, isCell, okVal, okCell, cellsOf, fillN, rowsN, cellsN, bnd, lohi, offAt, overL, segL, leave, NodeOK, List.cons_append, List.nil_append, List.append_nil, catA, anys, lenA])
    refine ⟨by simp, ?_⟩
    have hT : fallsL (lastT o a) b = fallsL q.t (b.drop 0) := by rw [hq2]; rfl
    refine aw_loopU (α := Nat × It) (fun s => s.1 ≤ b.length ∧ fallsL (lastT o a) b = fallsL s.2.t (b.drop s.1)) (fun s => [(32, .int .i64 s.1)]) (fun s => [(0, .arr 24 [.int .u64 s.2.t, .int .i64 s.2.k, .str s.2.s])]) (fun s => b.length - s.1) ((0, ⟨q.t, 0, ⟨#[]⟩⟩)) (⟨Nat.zero_le _, hT⟩) ?_ fun x hx => ?_
    · (simp only [wrC, wrOs, keepT, memN, setsL, setsO, setL, setO, snocO, List.cons_append, List.nil_append, List.append_nil, Nat.reduceAdd, Nat.zero_add, Wk, mtc, mtc0, mtc0L, mtcL, mtcO, mtcOs, cutM, takeE, stA, rl, renV, renL, ren1, ren1L, ren, rens, renO, Nat.blt, lenO, getO, setO, setL, anys, itA]; simp [itA])
    obtain ⟨k, x⟩ := x
    obtain ⟨hk0, hx⟩ := hx
    simp only [] at hk0 hx
    (simp only [wrC, wrOs, keepT, memN, setsL, setsO, setL, setO, snocO, List.cons_append, List.nil_append, List.append_nil, Nat.reduceAdd, Nat.zero_add, itA]; (refine eval_sound 2000 _ _ _ ?_; simp (maxSteps := 1000000) only [jump, findA, restA, and, Nat.reduceAdd, Nat.reduceSub, Nat.reduceMul, eval, nf, nfO, opN, appTo, rowsV, getL, setL, getO, setO, snocO, lenO, putL, ev, evs, ifEq, killV, killL, kill1, kill1L, kill, kills, killO, killOs, bin, binI, binS, binB, eq1, eqB, lit, sameK, kn, unI, mxA, mnA, mkAgg, fits, partN, partA, resN, retV, allVal, isVal, allCell, isCell, okVal, okCell, cellsOf, fillN, rowsN, cellsN, bnd, lohi, offAt, overL, segL, leave, NodeOK, List.cons_append, List.nil_append, List.append_nil, catA, anys, lenA]))
    simp only [decide_eq_true_eq, decide_eq_false_iff_not, List.length_map]
    refine ⟨fun h4 => ?_, fun h4 => ?_⟩
    · have hk : k < b.length := by omega
      obtain ⟨y, hy⟩ : ∃ y, b[k]? = some y := ⟨_, List.getElem?_eq_getElem hk⟩
      have hs := falls_step hx hy
      refine ⟨by omega, itR y, by rw [List.getElem?_map, Int.toNat_natCast, hy]; rfl, ?_⟩
      simp only [itR]
      (refine eval_sound 2000 _ _ _ ?_; simp (maxSteps := 1000000) only [jump, findA, restA, and, Nat.reduceAdd, Nat.reduceSub, Nat.reduceMul, eval, nf, nfO, opN, appTo, rowsV, getL, setL, getO, setO, snocO, lenO, putL, ev, evs, ifEq, killV, killL, kill1, kill1L, kill, kills, killO, killOs, bin, binI, binS, binB, eq1, eqB, lit, sameK, kn, unI, mxA, mnA, mkAgg, fits, partN, partA, resN, retV, allVal, isVal, allCell, isCell, okVal, okCell, cellsOf, fillN, rowsN, cellsN, bnd, lohi, offAt, overL, segL, leave, NodeOK, List.cons_append, List.nil_append, List.append_nil, catA, anys, lenA])
      refine ⟨by simp, ?_⟩
      ((repeat (with_reducible refine And.intro ?_ ?_; focus (simp; done))); refine aw_call (falls_c x y) [] rfl (by simp [upM, nthN, matchO, rens, ren, ren1, ren1L, renL, renV, renO, rl, lenO, getO, Nat.blt, mtc, mtc0, mtc0L, itA]) rfl (by simp [upM, nthN, matchO, rens, ren, ren1, ren1L, renL, renV, renO, rl, lenO, getO, Nat.blt, mtc, mtc0, mtc0L, itA]) rfl (fun r hs hp hl => ?_); obtain ⟨rfl, rfl⟩ := hp; simp only [snocO, upM, nthN, putAll, snocAll, killsA, killOsA, grows, putL, rl, renV, renL, ren1, ren1L, ren, rens, renO, Nat.blt, lenO, getO, setO, setL, anys, itA]; (refine eval_sound 2000 _ _ _ ?_; simp (maxSteps := 1000000) only [jump, findA, restA, and, Nat.reduceAdd, Nat.reduceSub, Nat.reduceMul, eval, nf, nfO, opN, appTo, rowsV, getL, setL, getO, setO, snocO, lenO, putL, ev, evs, ifEq, killV, killL, kill1, kill1L, kill, kills, killO, killOs, bin, binI, binS, binB, eq1, eqB, lit, sameK, kn, unI, mxA, mnA, mkAgg, fits, partN, partA, resN, retV, allVal, isVal, allCell, isCell, okVal, okCell, cellsOf, fillN, rowsN, cellsN, bnd, lohi, offAt, overL, segL, leave, NodeOK, List.cons_append, List.nil_append, List.append_nil, catA, anys, lenA]))
      refine ⟨fun h5 => ?_, fun h5 => ?_⟩
      · have e1 : joinE o a b = 2 := by unfold joinE; rw [if_neg (by omega), if_pos (by rw [hs, h5]; rfl)]
        have e2 : joinL o a b = [] := by unfold joinL; rw [e1]; rfl
        rw [e1, e2]
        ((repeat (with_reducible refine And.intro ?_ ?_; focus (simp; done))); refine ⟨[], rfl, _, _, ?_, ?_, rfl, rfl⟩ <;> simp [Wk, mtc, mtc0, mtc0L, mtcL, mtcO, mtcOs, cutM, takeE, stA, rl, renV, renL, ren1, ren1L, ren, rens, renO, Nat.blt, lenO, getO, setO, setL, anys, okS, endM, endH, idxN, takeE, pickE, catO, rl, renV, renL, ren1, ren1L, ren, rens, renO, Nat.blt, lenO, getO, setO, setL, anys, itA])
      · rw [wr64 (n := (k : Int) + 1) (by omega) (by omega)]
        (repeat (with_reducible refine And.intro ?_ ?_; focus (simp; done)))
        refine ⟨(k + 1, y), ⟨by simp only []; omega, by rw [hs, h5]; rfl⟩, by simp only []; omega, ?_⟩
        (simp only [wrC, wrOs, keepT, memN, setsL, setsO, setL, setO, snocO, List.cons_append, List.nil_append, List.append_nil, Nat.reduceAdd, Nat.zero_add, Wk, mtc, mtc0, mtc0L, mtcL, mtcO, mtcOs, cutM, takeE, stA, rl, renV, renL, ren1, ren1L, ren, rens, renO, Nat.blt, lenO, getO, setO, setL, anys, itA]; simp [itA])
    · have hk : k = b.length := by omega
      subst hk
      have e1 : joinE o a b = 0 := by unfold joinE; rw [if_neg (by omega), if_neg (by rw [hx, List.drop_length]; simp [fallsL])]
      have e2 : joinL o a b = a ++ b := by unfold joinL; rw [e1]; rfl
      rw [e1, e2]
      (refine acall_trans (trans_frz 1 _ _ _ rfl) ?_; simp only [snocO, mapA, frz, frz1, frzV, mapO, frzO, ifEq, setO, getO, getL, setL])
      ((repeat (with_reducible refine And.intro ?_ ?_; focus (simp; done))); refine aw_call (concat_c a b (by omega)) [] rfl (by simp [upM, nthN, matchO, rens, ren, ren1, ren1L, renL, renV, renO, rl, lenO, getO, Nat.blt, mtc, mtc0, mtc0L, itA]) rfl (by simp [upM, nthN, matchO, rens, ren, ren1, ren1L, renL, renV, renO, rl, lenO, getO, Nat.blt, mtc, mtc0, mtc0L, itA]) rfl (fun r hs hp hl => ?_); obtain ⟨rfl, rfl⟩ := hp; simp only [snocO, upM, nthN, putAll, snocAll, killsA, killOsA, grows, putL, rl, renV, renL, ren1, ren1L, ren, rens, renO, Nat.blt, lenO, getO, setO, setL, anys, itA]; (refine eval_sound 2000 _ _ _ ?_; simp (maxSteps := 1000000) only [jump, findA, restA, and, Nat.reduceAdd, Nat.reduceSub, Nat.reduceMul, eval, nf, nfO, opN, appTo, rowsV, getL, setL, getO, setO, snocO, lenO, putL, ev, evs, ifEq, killV, killL, kill1, kill1L, kill, kills, killO, killOs, bin, binI, binS, binB, eq1, eqB, lit, sameK, kn, unI, mxA, mnA, mkAgg, fits, partN, partA, resN, retV, allVal, isVal, allCell, isCell, okVal, okCell, cellsOf, fillN, rowsN, cellsN, bnd, lohi, offAt, overL, segL, leave, NodeOK, List.cons_append, List.nil_append, List.append_nil, catA, anys, lenA]))
      ((repeat (with_reducible refine And.intro ?_ ?_; focus (simp; done))); refine ⟨[], rfl, _, _, ?_, ?_, rfl, rfl⟩ <;> simp [Wk, mtc, mtc0, mtc0L, mtcL, mtcO, mtcOs, cutM, takeE, stA, rl, renV, renL, ren1, ren1L, ren, rens, renO, Nat.blt, lenO, getO, setO, setL, anys, okS, endM, endH, idxN, takeE, pickE, catO, rl, renV, renL, ren1, ren1L, ren, rens, renO, Nat.blt, lenO, getO, setO, setL, anys, itA])
  · have ha0 : a = [] := List.eq_nil_of_length_eq_zero (by omega)
    refine ⟨by simp, ?_⟩
    have hT : fallsL (lastT o a) b = fallsL o (b.drop 0) := by rw [ha0]; rfl
    refine aw_loopU (α := Nat × It) (fun s => s.1 ≤ b.length ∧ fallsL (lastT o a) b = fallsL s.2.t (b.drop s.1)) (fun s => [(32, .int .i64 s.1)]) (fun s => [(0, .arr 24 [.int .u64 s.2.t, .int .i64 s.2.k, .str s.2.s])]) (fun s => b.length - s.1) ((0, ⟨o, 0, ⟨#[]⟩⟩)) (⟨Nat.zero_le _, hT⟩) ?_ fun x hx => ?_
    · (simp only [wrC, wrOs, keepT, memN, setsL, setsO, setL, setO, snocO, List.cons_append, List.nil_append, List.append_nil, Nat.reduceAdd, Nat.zero_add, Wk, mtc, mtc0, mtc0L, mtcL, mtcO, mtcOs, cutM, takeE, stA, rl, renV, renL, ren1, ren1L, ren, rens, renO, Nat.blt, lenO, getO, setO, setL, anys, itA]; simp [itA])
    obtain ⟨k, x⟩ := x
    obtain ⟨hk0, hx⟩ := hx
    simp only [] at hk0 hx
    (simp only [wrC, wrOs, keepT, memN, setsL, setsO, setL, setO, snocO, List.cons_append, List.nil_append, List.append_nil, Nat.reduceAdd, Nat.zero_add, itA]; (refine eval_sound 2000 _ _ _ ?_; simp (maxSteps := 1000000) only [jump, findA, restA, and, Nat.reduceAdd, Nat.reduceSub, Nat.reduceMul, eval, nf, nfO, opN, appTo, rowsV, getL, setL, getO, setO, snocO, lenO, putL, ev, evs, ifEq, killV, killL, kill1, kill1L, kill, kills, killO, killOs, bin, binI, binS, binB, eq1, eqB, lit, sameK, kn, unI, mxA, mnA, mkAgg, fits, partN, partA, resN, retV, allVal, isVal, allCell, isCell, okVal, okCell, cellsOf, fillN, rowsN, cellsN, bnd, lohi, offAt, overL, segL, leave, NodeOK, List.cons_append, List.nil_append, List.append_nil, catA, anys, lenA]))
    simp only [decide_eq_true_eq, decide_eq_false_iff_not, List.length_map]
    refine ⟨fun h4 => ?_, fun h4 => ?_⟩
    · have hk : k < b.length := by omega
      obtain ⟨y, hy⟩ : ∃ y, b[k]? = some y := ⟨_, List.getElem?_eq_getElem hk⟩
      have hs := falls_step hx hy
      refine ⟨by omega, itR y, by rw [List.getElem?_map, Int.toNat_natCast, hy]; rfl, ?_⟩
      simp only [itR]
      (refine eval_sound 2000 _ _ _ ?_; simp (maxSteps := 1000000) only [jump, findA, restA, and, Nat.reduceAdd, Nat.reduceSub, Nat.reduceMul, eval, nf, nfO, opN, appTo, rowsV, getL, setL, getO, setO, snocO, lenO, putL, ev, evs, ifEq, killV, killL, kill1, kill1L, kill, kills, killO, killOs, bin, binI, binS, binB, eq1, eqB, lit, sameK, kn, unI, mxA, mnA, mkAgg, fits, partN, partA, resN, retV, allVal, isVal, allCell, isCell, okVal, okCell, cellsOf, fillN, rowsN, cellsN, bnd, lohi, offAt, overL, segL, leave, NodeOK, List.cons_append, List.nil_append, List.append_nil, catA, anys, lenA])
      refine ⟨by simp, ?_⟩
      ((repeat (with_reducible refine And.intro ?_ ?_; focus (simp; done))); refine aw_call (falls_c x y) [] rfl (by simp [upM, nthN, matchO, rens, ren, ren1, ren1L, renL, renV, renO, rl, lenO, getO, Nat.blt, mtc, mtc0, mtc0L, itA]) rfl (by simp [upM, nthN, matchO, rens, ren, ren1, ren1L, renL, renV, renO, rl, lenO, getO, Nat.blt, mtc, mtc0, mtc0L, itA]) rfl (fun r hs hp hl => ?_); obtain ⟨rfl, rfl⟩ := hp; simp only [snocO, upM, nthN, putAll, snocAll, killsA, killOsA, grows, putL, rl, renV, renL, ren1, ren1L, ren, rens, renO, Nat.blt, lenO, getO, setO, setL, anys, itA]; (refine eval_sound 2000 _ _ _ ?_; simp (maxSteps := 1000000) only [jump, findA, restA, and, Nat.reduceAdd, Nat.reduceSub, Nat.reduceMul, eval, nf, nfO, opN, appTo, rowsV, getL, setL, getO, setO, snocO, lenO, putL, ev, evs, ifEq, killV, killL, kill1, kill1L, kill, kills, killO, killOs, bin, binI, binS, binB, eq1, eqB, lit, sameK, kn, unI, mxA, mnA, mkAgg, fits, partN, partA, resN, retV, allVal, isVal, allCell, isCell, okVal, okCell, cellsOf, fillN, rowsN, cellsN, bnd, lohi, offAt, overL, segL, leave, NodeOK, List.cons_append, List.nil_append, List.append_nil, catA, anys, lenA]))
      refine ⟨fun h5 => ?_, fun h5 => ?_⟩
      · have e1 : joinE o a b = 2 := by unfold joinE; rw [if_neg (by omega), if_pos (by rw [hs, h5]; rfl)]
        have e2 : joinL o a b = [] := by unfold joinL; rw [e1]; rfl
        rw [e1, e2]
        ((repeat (with_reducible refine And.intro ?_ ?_; focus (simp; done))); refine ⟨[], rfl, _, _, ?_, ?_, rfl, rfl⟩ <;> simp [Wk, mtc, mtc0, mtc0L, mtcL, mtcO, mtcOs, cutM, takeE, stA, rl, renV, renL, ren1, ren1L, ren, rens, renO, Nat.blt, lenO, getO, setO, setL, anys, okS, endM, endH, idxN, takeE, pickE, catO, rl, renV, renL, ren1, ren1L, ren, rens, renO, Nat.blt, lenO, getO, setO, setL, anys, itA])
      · rw [wr64 (n := (k : Int) + 1) (by omega) (by omega)]
        (repeat (with_reducible refine And.intro ?_ ?_; focus (simp; done)))
        refine ⟨(k + 1, y), ⟨by simp only []; omega, by rw [hs, h5]; rfl⟩, by simp only []; omega, ?_⟩
        (simp only [wrC, wrOs, keepT, memN, setsL, setsO, setL, setO, snocO, List.cons_append, List.nil_append, List.append_nil, Nat.reduceAdd, Nat.zero_add, Wk, mtc, mtc0, mtc0L, mtcL, mtcO, mtcOs, cutM, takeE, stA, rl, renV, renL, ren1, ren1L, ren, rens, renO, Nat.blt, lenO, getO, setO, setL, anys, itA]; simp [itA])
    · have hk : k = b.length := by omega
      subst hk
      have e1 : joinE o a b = 0 := by unfold joinE; rw [if_neg (by omega), if_neg (by rw [hx, List.drop_length]; simp [fallsL])]
      have e2 : joinL o a b = a ++ b := by unfold joinL; rw [e1]; rfl
      rw [e1, e2]
      (refine acall_trans (trans_frz 1 _ _ _ rfl) ?_; simp only [snocO, mapA, frz, frz1, frzV, mapO, frzO, ifEq, setO, getO, getL, setL])
      ((repeat (with_reducible refine And.intro ?_ ?_; focus (simp; done))); refine aw_call (concat_c a b (by omega)) [] rfl (by simp [upM, nthN, matchO, rens, ren, ren1, ren1L, renL, renV, renO, rl, lenO, getO, Nat.blt, mtc, mtc0, mtc0L, itA]) rfl (by simp [upM, nthN, matchO, rens, ren, ren1, ren1L, renL, renV, renO, rl, lenO, getO, Nat.blt, mtc, mtc0, mtc0L, itA]) rfl (fun r hs hp hl => ?_); obtain ⟨rfl, rfl⟩ := hp; simp only [snocO, upM, nthN, putAll, snocAll, killsA, killOsA, grows, putL, rl, renV, renL, ren1, ren1L, ren, rens, renO, Nat.blt, lenO, getO, setO, setL, anys, itA]; (refine eval_sound 2000 _ _ _ ?_; simp (maxSteps := 1000000) only [jump, findA, restA, and, Nat.reduceAdd, Nat.reduceSub, Nat.reduceMul, eval, nf, nfO, opN, appTo, rowsV, getL, setL, getO, setO, snocO, lenO, putL, ev, evs, ifEq, killV, killL, kill1, kill1L, kill, kills, killO, killOs, bin, binI, binS, binB, eq1, eqB, lit, sameK, kn, unI, mxA, mnA, mkAgg, fits, partN, partA, resN, retV, allVal, isVal, allCell, isCell, okVal, okCell, cellsOf, fillN, rowsN, cellsN, bnd, lohi, offAt, overL, segL, leave, NodeOK, List.cons_append, List.nil_append, List.append_nil, catA, anys, lenA]))
      ((repeat (with_reducible refine And.intro ?_ ?_; focus (simp; done))); refine ⟨[], rfl, _, _, ?_, ?_, rfl, rfl⟩ <;> simp [Wk, mtc, mtc0, mtc0L, mtcL, mtcO, mtcOs, cutM, takeE, stA, rl, renV, renL, ren1, ren1L, ren, rens, renO, Nat.blt, lenO, getO, setO, setL, anys, okS, endM, endH, idxN, takeE, pickE, catO, rl, renV, renL, ren1, ren1L, ren, rens, renO, Nat.blt, lenO, getO, setO, setL, anys, itA])
end Go.Proofs.Ytikogdkjmnpfcaa.S
