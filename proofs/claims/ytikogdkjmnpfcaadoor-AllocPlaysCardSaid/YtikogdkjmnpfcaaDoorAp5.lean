/- alloc: the chapter's example. -/
import Derived.Test.YtikogdkjmnpfcaaDoorAp4
namespace Go.Proofs.YtikogdkjmnpfcaaDoor.S
open Go.Lib
set_option linter.all false
set_option maxRecDepth 100000
set_option maxHeartbeats 2000000
theorem xorW_has {W : List Nat} {i q : Nat} (h : i / 64 < W.length) : hasW (xorW W i) q = (if q = i then !hasW W q else hasW W q) := by
  unfold hasW xorW
  rw [getD_set h]
  by_cases hj : i / 64 = q / 64
  · rw [if_pos hj, Nat.testBit_xor, Nat.one_shiftLeft, Nat.testBit_two_pow, hj]
    by_cases hq : q = i
    · subst hq; simp
    · rw [if_neg hq, decide_eq_false (by omega), Bool.xor_false]
  · rw [if_neg hj, if_neg (by intro e; exact hj (by rw [e]))]
theorem xorW_ok {M : Nat} {W : List Nat} {i : Nat} (h : WOKs M W) (hi : i < M * 256) : WOKs M (xorW W i) := set_ok h (Nat.xor_lt_two_pow (n := 64) (h.get _ (by omega)) (one_lt i))
theorem lives_c : ACalls Tryd.prog 6 [] [] (fun r hs => r = .tt ∧ hs = []) := by
  refine acalls_weak (acalls_of (fn := Tryd.f6) (A := a6) Tryd.func6 ok_6 en_6 ?_)
  dsimp only [a6, alC, alW]
  (refine eval_sound 2000 _ _ _ ?_; simp (maxSteps := 1000000) only [ptrL, lenV, Bool.not_true, Bool.not_false, lookR, valOf, asGrow, jump, findA, restA, and, Nat.reduceAdd, Nat.reduceSub, Nat.reduceMul, Int.reduceToNat, eval, nf, nfO, opN, appTo, rowsV, getL, setL, getO, setO, snocO, lenO, putL, ev, evs, ifEq, killV, killL, kill1, kill1L, kill, kills, killO, killOs, bin, binI, binS, binB, eq1, eqB, lit, sameK, kn, unI, mxA, mnA, mkAgg, fits, partN, partA, resN, retV, allVal, isVal, allCell, isCell, okVal, okCell, cellsOf, fillN, rowsN, cellsN, bnd, lohi, offAt, overL, segL, leave, NodeOK, List.cons_append, List.nil_append, List.append_nil, catA, anys, lenA])
  ((repeat (with_reducible refine And.intro ?_ ?_; focus (simp; done))); refine aw_call (new_c 3 (by omega) (by omega)) [] rfl (by simp [upM, nthN, matchO, rens, ren, ren1, ren1L, renL, renV, renO, rl, lenO, getO, Nat.blt, mtc, mtcS, mtcSL, mtc0, mtc0L, alC, alW, alN]) rfl (by simp [upM, nthN, matchO, rens, ren, ren1, ren1L, renL, renV, renO, rl, lenO, getO, Nat.blt, mtc, mtcS, mtcSL, mtc0, mtc0L, alC, alW, alN]) rfl (fun r hs hp hl => ?_); obtain ⟨W, w1, w2, rfl, rfl⟩ := hp; simp only [snocO, upM, nthN, putAll, snocAll, killsA, killOsA, grows, putL, rl, renV, renL, ren1, ren1L, ren, rens, renO, Nat.blt, lenO, getO, setO, setL, anys, alC, alW, alN]; (refine eval_sound 2000 _ _ _ ?_; simp (maxSteps := 1000000) only [ptrL, lenV, Bool.not_true, Bool.not_false, lookR, valOf, asGrow, jump, findA, restA, and, Nat.reduceAdd, Nat.reduceSub, Nat.reduceMul, Int.reduceToNat, eval, nf, nfO, opN, appTo, rowsV, getL, setL, getO, setO, snocO, lenO, putL, ev, evs, ifEq, killV, killL, kill1, kill1L, kill, kills, killO, killOs, bin, binI, binS, binB, eq1, eqB, lit, sameK, kn, unI, mxA, mnA, mkAgg, fits, partN, partA, resN, retV, allVal, isVal, allCell, isCell, okVal, okCell, cellsOf, fillN, rowsN, cellsN, bnd, lohi, offAt, overL, segL, leave, NodeOK, List.cons_append, List.nil_append, List.append_nil, catA, anys, lenA]))
  have hl := w1.len
  simp only [show (3 + 255) / 256 = 1 by decide] at *
  have hx : ∀ (V : List Nat) (i q : Nat), WOKs 1 V → i < 256 → hasW (xorW V i) q = (if q = i then !hasW V q else hasW V q) := fun V i q hV hi => xorW_has (by have := hV.len; omega)
  ((repeat (with_reducible refine And.intro ?_ ?_; focus (simp; done))); refine aw_call (take_c 1 1 3 3 W (by omega) (by omega) (by omega) w1 (fun p h1 h2 => by rw [w2 p (by omega)]; simpa using h1) ⟨0, by omega, by rw [w2 0 (by omega)]; rfl⟩) [1, 0] rfl (by simp [upM, nthN, matchO, rens, ren, ren1, ren1L, renL, renV, renO, rl, lenO, getO, Nat.blt, mtc, mtcS, mtcSL, mtc0, mtc0L, alC, alW, alN]) rfl (by simp [upM, nthN, matchO, rens, ren, ren1, ren1L, renL, renV, renO, rl, lenO, getO, Nat.blt, mtc, mtcS, mtcSL, mtc0, mtc0L, alC, alW, alN]) rfl (fun r hs hp hl => ?_); obtain ⟨p, p1, p2, p3, rfl, rfl⟩ := hp; simp only [snocO, upM, nthN, putAll, snocAll, killsA, killOsA, grows, putL, rl, renV, renL, ren1, ren1L, ren, rens, renO, Nat.blt, lenO, getO, setO, setL, anys, alC, alW, alN]; (refine eval_sound 2000 _ _ _ ?_; simp (maxSteps := 1000000) only [ptrL, lenV, Bool.not_true, Bool.not_false, lookR, valOf, asGrow, jump, findA, restA, and, Nat.reduceAdd, Nat.reduceSub, Nat.reduceMul, Int.reduceToNat, eval, nf, nfO, opN, appTo, rowsV, getL, setL, getO, setO, snocO, lenO, putL, ev, evs, ifEq, killV, killL, kill1, kill1L, kill, kills, killO, killOs, bin, binI, binS, binB, eq1, eqB, lit, sameK, kn, unI, mxA, mnA, mkAgg, fits, partN, partA, resN, retV, allVal, isVal, allCell, isCell, okVal, okCell, cellsOf, fillN, rowsN, cellsN, bnd, lohi, offAt, overL, segL, leave, NodeOK, List.cons_append, List.nil_append, List.append_nil, catA, anys, lenA]))
  have hp : p = 0 := by
    by_cases h : p = 0
    · exact h
    · have := p3 0 (by omega); rw [w2 0 (by omega)] at this; cases this
  subst hp
  have v2 : ∀ q, q < 256 → hasW (xorW W 0) q = decide (q = 0 ∨ 3 ≤ q) := fun q hq => by
    rw [hx W 0 q w1 (by omega)]
    split
    · rename_i h; subst h; rw [w2 0 (by omega)]; rfl
    · rw [w2 q (by omega)]; congr 1; apply propext; omega
  have v1 := xorW_ok (i := 0) w1 (by omega)
  generalize xorW W 0 = V at *
  (repeat (with_reducible refine And.intro ?_ ?_; focus (simp; done)))
  ((repeat (with_reducible refine And.intro ?_ ?_; focus (simp; done))); refine aw_call (take_c 1 1 3 2 V (by omega) (by omega) (by omega) v1 (fun p h1 h2 => by rw [v2 p (by omega)]; simp; omega) ⟨1, by omega, by rw [v2 1 (by omega)]; rfl⟩) [1, 0] rfl (by simp [upM, nthN, matchO, rens, ren, ren1, ren1L, renL, renV, renO, rl, lenO, getO, Nat.blt, mtc, mtcS, mtcSL, mtc0, mtc0L, alC, alW, alN]) rfl (by simp [upM, nthN, matchO, rens, ren, ren1, ren1L, renL, renV, renO, rl, lenO, getO, Nat.blt, mtc, mtcS, mtcSL, mtc0, mtc0L, alC, alW, alN]) rfl (fun r hs hp hl => ?_); obtain ⟨q, q1, q2, q3, rfl, rfl⟩ := hp; simp only [snocO, upM, nthN, putAll, snocAll, killsA, killOsA, grows, putL, rl, renV, renL, ren1, ren1L, ren, rens, renO, Nat.blt, lenO, getO, setO, setL, anys, alC, alW, alN]; (refine eval_sound 2000 _ _ _ ?_; simp (maxSteps := 1000000) only [ptrL, lenV, Bool.not_true, Bool.not_false, lookR, valOf, asGrow, jump, findA, restA, and, Nat.reduceAdd, Nat.reduceSub, Nat.reduceMul, Int.reduceToNat, eval, nf, nfO, opN, appTo, rowsV, getL, setL, getO, setO, snocO, lenO, putL, ev, evs, ifEq, killV, killL, kill1, kill1L, kill, kills, killO, killOs, bin, binI, binS, binB, eq1, eqB, lit, sameK, kn, unI, mxA, mnA, mkAgg, fits, partN, partA, resN, retV, allVal, isVal, allCell, isCell, okVal, okCell, cellsOf, fillN, rowsN, cellsN, bnd, lohi, offAt, overL, segL, leave, NodeOK, List.cons_append, List.nil_append, List.append_nil, catA, anys, lenA]))
  have hq : q = 1 := by
    by_cases h : q = 1
    · exact h
    · by_cases h0 : q = 0
      · subst h0; rw [v2 0 (by omega)] at q2; cases q2
      · have := q3 1 (by omega); rw [v2 1 (by omega)] at this; cases this
  subst hq
  have u2 : ∀ q, q < 256 → hasW (xorW V 1) q = decide (q = 0 ∨ q = 1 ∨ 3 ≤ q) := fun q hq => by
    rw [hx V 1 q v1 (by omega)]
    split
    · rename_i h; subst h; rw [v2 1 (by omega)]; rfl
    · rw [v2 q (by omega)]; congr 1; apply propext; omega
  have u1 := xorW_ok (i := 1) v1 (by omega)
  generalize xorW V 1 = U at *
  (repeat (with_reducible refine And.intro ?_ ?_; focus (simp; done)))
  have hg := give_c 1 1 3 1 U 0 (by omega) (by omega) (by omega) u1
  have ht : turnW 3 1 U 0 false 40 = (xorW U 0, 2, 0) := by
    unfold turnW
    rw [if_neg (by omega), if_neg (by unfold atH; rw [show (0 : Int).toNat = 0 from rfl, u2 0 (by omega)]; simp)]
    rfl
  rw [ht] at hg
  ((repeat (with_reducible refine And.intro ?_ ?_; focus (simp; done))); refine aw_call (hg) [1, 0] rfl (by simp [upM, nthN, matchO, rens, ren, ren1, ren1L, renL, renV, renO, rl, lenO, getO, Nat.blt, mtc, mtcS, mtcSL, mtc0, mtc0L, alC, alW, alN]) rfl (by simp [upM, nthN, matchO, rens, ren, ren1, ren1L, renL, renV, renO, rl, lenO, getO, Nat.blt, mtc, mtcS, mtcSL, mtc0, mtc0L, alC, alW, alN]) rfl (fun r hs hp hl => ?_); obtain ⟨rfl, rfl⟩ := hp; simp only [snocO, upM, nthN, putAll, snocAll, killsA, killOsA, grows, putL, rl, renV, renL, ren1, ren1L, ren, rens, renO, Nat.blt, lenO, getO, setO, setL, anys, alC, alW, alN]; (refine eval_sound 2000 _ _ _ ?_; simp (maxSteps := 1000000) only [ptrL, lenV, Bool.not_true, Bool.not_false, lookR, valOf, asGrow, jump, findA, restA, and, Nat.reduceAdd, Nat.reduceSub, Nat.reduceMul, Int.reduceToNat, eval, nf, nfO, opN, appTo, rowsV, getL, setL, getO, setO, snocO, lenO, putL, ev, evs, ifEq, killV, killL, kill1, kill1L, kill, kills, killO, killOs, bin, binI, binS, binB, eq1, eqB, lit, sameK, kn, unI, mxA, mnA, mkAgg, fits, partN, partA, resN, retV, allVal, isVal, allCell, isCell, okVal, okCell, cellsOf, fillN, rowsN, cellsN, bnd, lohi, offAt, overL, segL, leave, NodeOK, List.cons_append, List.nil_append, List.append_nil, catA, anys, lenA]))
  have t2 : ∀ q, q < 256 → hasW (xorW U 0) q = decide (q = 1 ∨ 3 ≤ q) := fun q hq => by
    rw [hx U 0 q u1 (by omega)]
    split
    · rename_i h; subst h; rw [u2 0 (by omega)]; rfl
    · rw [u2 q (by omega)]; congr 1; apply propext; omega
  have t1 := xorW_ok (i := 0) u1 (by omega)
  generalize xorW U 0 = T at *
  ((repeat (with_reducible refine And.intro ?_ ?_; focus (simp; done))); refine aw_call (take_c 1 1 3 2 T (by omega) (by omega) (by omega) t1 (fun p h1 h2 => by rw [t2 p (by omega)]; simp; omega) ⟨0, by omega, by rw [t2 0 (by omega)]; rfl⟩) [1, 0] rfl (by simp [upM, nthN, matchO, rens, ren, ren1, ren1L, renL, renV, renO, rl, lenO, getO, Nat.blt, mtc, mtcS, mtcSL, mtc0, mtc0L, alC, alW, alN]) rfl (by simp [upM, nthN, matchO, rens, ren, ren1, ren1L, renL, renV, renO, rl, lenO, getO, Nat.blt, mtc, mtcS, mtcSL, mtc0, mtc0L, alC, alW, alN]) rfl (fun r hs hp hl => ?_); obtain ⟨z, z1, z2, z3, rfl, rfl⟩ := hp; simp only [snocO, upM, nthN, putAll, snocAll, killsA, killOsA, grows, putL, rl, renV, renL, ren1, ren1L, ren, rens, renO, Nat.blt, lenO, getO, setO, setL, anys, alC, alW, alN]; (refine eval_sound 2000 _ _ _ ?_; simp (maxSteps := 1000000) only [ptrL, lenV, Bool.not_true, Bool.not_false, lookR, valOf, asGrow, jump, findA, restA, and, Nat.reduceAdd, Nat.reduceSub, Nat.reduceMul, Int.reduceToNat, eval, nf, nfO, opN, appTo, rowsV, getL, setL, getO, setO, snocO, lenO, putL, ev, evs, ifEq, killV, killL, kill1, kill1L, kill, kills, killO, killOs, bin, binI, binS, binB, eq1, eqB, lit, sameK, kn, unI, mxA, mnA, mkAgg, fits, partN, partA, resN, retV, allVal, isVal, allCell, isCell, okVal, okCell, cellsOf, fillN, rowsN, cellsN, bnd, lohi, offAt, overL, segL, leave, NodeOK, List.cons_append, List.nil_append, List.append_nil, catA, anys, lenA]))
  have hz : z = 0 := by
    by_cases h : z = 0
    · exact h
    · have := z3 0 (by omega); rw [t2 0 (by omega)] at this; cases this
  subst hz
  generalize xorW T 0 = S at *
  (repeat (with_reducible refine And.intro ?_ ?_; focus (simp; done)))
  iterate 7 (refine ⟨fun _ => ?_, fun h => by simp at h⟩)
  ((repeat (with_reducible refine And.intro ?_ ?_; focus (simp; done))); refine aw_call (free_c 1 1 3 1 S) [1, 0] rfl (by simp [upM, nthN, matchO, rens, ren, ren1, ren1L, renL, renV, renO, rl, lenO, getO, Nat.blt, mtc, mtcS, mtcSL, mtc0, mtc0L, alC, alW, alN]) rfl (by simp [upM, nthN, matchO, rens, ren, ren1, ren1L, renL, renV, renO, rl, lenO, getO, Nat.blt, mtc, mtcS, mtcSL, mtc0, mtc0L, alC, alW, alN]) rfl (fun r hs hp hl => ?_); obtain ⟨rfl, rfl⟩ := hp; simp only [snocO, upM, nthN, putAll, snocAll, killsA, killOsA, grows, putL, rl, renV, renL, ren1, ren1L, ren, rens, renO, Nat.blt, lenO, getO, setO, setL, anys, alC, alW, alN]; (refine eval_sound 2000 _ _ _ ?_; simp (maxSteps := 1000000) only [ptrL, lenV, Bool.not_true, Bool.not_false, lookR, valOf, asGrow, jump, findA, restA, and, Nat.reduceAdd, Nat.reduceSub, Nat.reduceMul, Int.reduceToNat, eval, nf, nfO, opN, appTo, rowsV, getL, setL, getO, setO, snocO, lenO, putL, ev, evs, ifEq, killV, killL, kill1, kill1L, kill, kills, killO, killOs, bin, binI, binS, binB, eq1, eqB, lit, sameK, kn, unI, mxA, mnA, mkAgg, fits, partN, partA, resN, retV, allVal, isVal, allCell, isCell, okVal, okCell, cellsOf, fillN, rowsN, cellsN, bnd, lohi, offAt, overL, segL, leave, NodeOK, List.cons_append, List.nil_append, List.append_nil, catA, anys, lenA]))
  ((repeat (with_reducible refine And.intro ?_ ?_; focus (simp; done))); refine ⟨[], rfl, _, _, ?_, ?_, rfl, rfl⟩ <;> simp [Wk, mtc, mtcS, mtcSL, mtc0, mtc0L, mtcL, mtcO, mtcOs, cutM, takeE, stA, rl, renV, renL, ren1, ren1L, ren, rens, renO, Nat.blt, lenO, getO, setO, setL, anys, okS, endM, endH, idxN, takeE, pickE, catO, rl, renV, renL, ren1, ren1L, ren, rens, renO, Nat.blt, lenO, getO, setO, setL, anys, alC, alW])
end Go.Proofs.YtikogdkjmnpfcaaDoor.S
