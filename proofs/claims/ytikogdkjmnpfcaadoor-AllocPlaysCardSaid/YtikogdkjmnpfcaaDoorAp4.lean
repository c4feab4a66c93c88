/- Contracts of alloc: New. -/
import Derived.Test.YtikogdkjmnpfcaaDoorAp3
namespace Go.Proofs.YtikogdkjmnpfcaaDoor.S
open Go.Lib
set_option linter.all false
set_option maxRecDepth 100000
set_option maxHeartbeats 2000000
def orW (W : List Nat) (i : Nat) : List Nat := W.set (i / 64) (W.getD (i / 64) 0 ||| 1 <<< (i % 64))
theorem getD_set {W : List Nat} {k j x : Nat} (h : k < W.length) : (W.set k x).getD j 0 = if k = j then x else W.getD j 0 := by
  rw [List.getD_eq_getElem?_getD, List.getD_eq_getElem?_getD, List.getElem?_set]
  by_cases hj : k = j
  · subst hj; simp [h]
  · simp [hj]
theorem orW_has {W : List Nat} {i q : Nat} (h : i / 64 < W.length) : hasW (orW W i) q = (hasW W q || decide (q = i)) := by
  unfold hasW orW
  rw [getD_set h]
  by_cases hj : i / 64 = q / 64
  · rw [if_pos hj, Nat.testBit_or, Nat.one_shiftLeft, Nat.testBit_two_pow, hj]
    congr 1
    by_cases hq : q = i
    · subst hq; simp
    · rw [decide_eq_false hq, decide_eq_false (by omega)]
  · rw [if_neg hj, decide_eq_false (by intro e; exact hj (by rw [e])), Bool.or_false]
theorem set_ok {M : Nat} {W : List Nat} {k x : Nat} (h : WOKs M W) (hx : x < 18446744073709551616) : WOKs M (W.set k x) := by
  refine ⟨by rw [List.length_set]; exact h.len, fun j hj => ?_⟩
  have hl := h.len
  by_cases hk : k < W.length
  · rw [getD_set hk]
    split
    · exact hx
    · exact h.lt j hj
  · rw [List.set_eq_of_length_le (by omega)]
    exact h.lt j hj
theorem orW_ok {M : Nat} {W : List Nat} {i : Nat} (h : WOKs M W) (hi : i < M * 256) : WOKs M (orW W i) := set_ok h (Nat.or_lt_two_pow (n := 64) (h.get _ (by omega)) (one_lt i))
theorem wA_zero (M : Nat) : (List.replicate M [AV.int .u64 0, .int .u64 0, .int .u64 0, .int .u64 0]).flatten = wA (List.replicate (M * 4) 0) := by
  induction M with
  | zero => rfl
  | succ M ih => rw [List.replicate_succ, List.flatten_cons, ih, show (M + 1) * 4 = M * 4 + 1 + 1 + 1 + 1 by omega]; simp only [List.replicate_succ, wA, List.map_cons]; rfl
def alN (M : Nat) (n f : Int) : AObj := .cells 52 [.sl 0 0 M M, .int .i64 n, .int .i64 f]
theorem new_c (n : Nat) (h1 : 1 ≤ n) (h2 : n ≤ 65536) : ACalls Tryd.prog 7 [.int .i64 n] []
    (fun r hs => ∃ W, WOKs ((n + 255) / 256) W ∧ (∀ q, q < (n + 255) / 256 * 256 → hasW W q = decide (n ≤ q)) ∧ r = .ptr 1 0 ∧ hs = [alW W, alN ((n + 255) / 256) n n]) := by
  refine acalls_weak (acalls_of (fn := Tryd.f7) (A := a7) Tryd.func7 ok_7 en_7 ?_)
  dsimp only [a7, alC, alW]
  (refine eval_sound 2000 _ _ _ ?_; simp (maxSteps := 1000000) only [ptrL, lenV, Bool.not_true, Bool.not_false, lookR, valOf, asGrow, jump, findA, restA, and, Nat.reduceAdd, Nat.reduceSub, Nat.reduceMul, Int.reduceToNat, eval, nf, nfO, opN, appTo, rowsV, getL, setL, getO, setO, snocO, lenO, putL, ev, evs, ifEq, killV, killL, kill1, kill1L, kill, kills, killO, killOs, bin, binI, binS, binB, eq1, eqB, lit, sameK, kn, unI, mxA, mnA, mkAgg, fits, partN, partA, resN, retV, allVal, isVal, allCell, isCell, okVal, okCell, cellsOf, fillN, rowsN, cellsN, bnd, lohi, offAt, overL, segL, leave, NodeOK, List.cons_append, List.nil_append, List.append_nil, catA, anys, lenA])
  simp only [decide_eq_true_eq, decide_eq_false_iff_not]
  refine ⟨fun h => by omega, fun _ => ⟨fun h => by omega, fun _ => ?_⟩⟩
  have wM : IntKind.i64.wrap ((IntKind.i64.wrap (IntKind.i64.wrap ((n : Int) + 256) - 1)).tdiv 256) = (((n + 255) / 256 : Nat) : Int) := by
    rw [wr64 (n := (n : Int) + 256) (by omega) (by omega), wr64 (n := (n : Int) + 256 - 1) (by omega) (by omega), Int.tdiv_eq_ediv_of_nonneg (by omega), wr64 (by omega) (by omega)]
    omega
  rw [wM]
  generalize hMd : (n + 255) / 256 = M at *
  have hM : M ≤ 256 := by omega
  have hMn : n ≤ M * 256 := by omega
  refine ⟨by omega, ⟨by omega, by omega, by omega, by omega⟩, ?_⟩
  simp only [Int.toNat_natCast]
  rw [wA_zero]
  have hz : WOKs M (List.replicate (M * 4) 0) := ⟨by simp, fun j hj => by rw [List.getD_eq_getElem?_getD, List.getElem?_replicate]; split <;> simp⟩
  have hz2 : ∀ q, hasW (List.replicate (M * 4) 0) q = false := fun q => by
    unfold hasW
    rw [List.getD_eq_getElem?_getD, List.getElem?_replicate]
    split <;> simp
  refine aw_loopU (α := Nat × List Nat) (fun s => n ≤ s.1 ∧ s.1 ≤ M * 256 ∧ WOKs M s.2 ∧ ∀ q, q < M * 256 → hasW s.2 q = (decide (n ≤ q) && decide (q < s.1))) (fun s => [(4, .int .i64 s.1)]) (fun s => [(0, .arr 63 (wA s.2))]) (fun s => M * 256 - s.1) ((n, List.replicate (M * 4) 0)) (⟨Nat.le_refl _, hMn, hz, fun q hq => by rw [hz2]; symm; rw [Bool.and_eq_false_iff, decide_eq_false_iff_not, decide_eq_false_iff_not]; omega⟩) ?_ fun s hs => ?_
  · (simp only [wrC, wrOs, keepT, memN, setsL, setsO, setL, setO, snocO, List.cons_append, List.nil_append, List.append_nil, Nat.reduceAdd, Nat.zero_add, Wk, mtc, mtcS, mtcSL, mtc0, mtc0L, mtcL, mtcO, mtcOs, cutM, takeE, stA, rl, renV, renL, ren1, ren1L, ren, rens, renO, Nat.blt, lenO, getO, setO, setL, anys, alC, alW]; simp [alC, alW])
  obtain ⟨i, W⟩ := s
  obtain ⟨s1, s2, s3, s4⟩ := hs
  simp only [] at s1 s2 s3 s4
  (simp only [wrC, wrOs, keepT, memN, setsL, setsO, setL, setO, snocO, List.cons_append, List.nil_append, List.append_nil, Nat.reduceAdd, Nat.zero_add, alC, alW]; (refine eval_sound 2000 _ _ _ ?_; simp (maxSteps := 1000000) only [ptrL, lenV, Bool.not_true, Bool.not_false, lookR, valOf, asGrow, jump, findA, restA, and, Nat.reduceAdd, Nat.reduceSub, Nat.reduceMul, Int.reduceToNat, eval, nf, nfO, opN, appTo, rowsV, getL, setL, getO, setO, snocO, lenO, putL, ev, evs, ifEq, killV, killL, kill1, kill1L, kill, kills, killO, killOs, bin, binI, binS, binB, eq1, eqB, lit, sameK, kn, unI, mxA, mnA, mkAgg, fits, partN, partA, resN, retV, allVal, isVal, allCell, isCell, okVal, okCell, cellsOf, fillN, rowsN, cellsN, bnd, lohi, offAt, overL, segL, leave, NodeOK, List.cons_append, List.nil_append, List.append_nil, catA, anys, lenA]))
  simp only [decide_eq_true_eq, decide_eq_false_iff_not]
  rw [wr64 (n := (M : Int) * 256) (by omega) (by omega)]
  refine ⟨fun h3 => ?_, fun h3 => ?_⟩
  · have hi : i < M * 256 := by omega
    have hl := s3.len
    have hg := s3.get (i / 64) (by omega)
    have ho := one_lt i
    have hq : (wA W)[i / 64]? = some (.int .u64 ((W.getD (i / 64) 0 : Nat) : Int)) := wA_get hg (by omega)
    ((repeat (with_reducible refine And.intro ?_ ?_; focus (simp; done))); refine aw_call (at_c M M n n W i (by omega) hi) [1, 0] rfl (by simp [upM, nthN, matchO, rens, ren, ren1, ren1L, renL, renV, renO, rl, lenO, getO, Nat.blt, mtc, mtcS, mtcSL, mtc0, mtc0L, alC, alW]) rfl (by simp [upM, nthN, matchO, rens, ren, ren1, ren1L, renL, renV, renO, rl, lenO, getO, Nat.blt, mtc, mtcS, mtcSL, mtc0, mtc0L, alC, alW]) rfl (fun r hs hp hl => ?_); obtain ⟨rfl, rfl⟩ := hp; simp only [snocO, upM, nthN, putAll, snocAll, killsA, killOsA, grows, putL, rl, renV, renL, ren1, ren1L, ren, rens, renO, Nat.blt, lenO, getO, setO, setL, anys, alC, alW]; (refine eval_sound 2000 _ _ _ ?_; simp (maxSteps := 1000000) only [ptrL, lenV, Bool.not_true, Bool.not_false, lookR, valOf, asGrow, jump, findA, restA, and, Nat.reduceAdd, Nat.reduceSub, Nat.reduceMul, Int.reduceToNat, eval, nf, nfO, opN, appTo, rowsV, getL, setL, getO, setO, snocO, lenO, putL, ev, evs, ifEq, killV, killL, kill1, kill1L, kill, kills, killO, killOs, bin, binI, binS, binB, eq1, eqB, lit, sameK, kn, unI, mxA, mnA, mkAgg, fits, partN, partA, resN, retV, allVal, isVal, allCell, isCell, okVal, okCell, cellsOf, fillN, rowsN, cellsN, bnd, lohi, offAt, overL, segL, leave, NodeOK, List.cons_append, List.nil_append, List.append_nil, catA, anys, lenA]))
    (repeat (with_reducible refine And.intro ?_ ?_; focus (simp; done)))
    refine ⟨_, hq, ?_⟩
    (refine eval_sound 2000 _ _ _ ?_; simp (maxSteps := 1000000) only [ptrL, lenV, Bool.not_true, Bool.not_false, lookR, valOf, asGrow, jump, findA, restA, and, Nat.reduceAdd, Nat.reduceSub, Nat.reduceMul, Int.reduceToNat, eval, nf, nfO, opN, appTo, rowsV, getL, setL, getO, setO, snocO, lenO, putL, ev, evs, ifEq, killV, killL, kill1, kill1L, kill, kills, killO, killOs, bin, binI, binS, binB, eq1, eqB, lit, sameK, kn, unI, mxA, mnA, mkAgg, fits, partN, partA, resN, retV, allVal, isVal, allCell, isCell, okVal, okCell, cellsOf, fillN, rowsN, cellsN, bnd, lohi, offAt, overL, segL, leave, NodeOK, List.cons_append, List.nil_append, List.append_nil, catA, anys, lenA])
    rw [orN hg ho, over_wA (Nat.or_lt_two_pow (n := 64) hg ho) (by omega), wr64 (n := (i : Int) + 1) (by omega) (by omega)]
    refine ⟨by unfold wA; rw [List.length_map]; omega, (i + 1, orW W i), ⟨by simp only []; omega, by simp only []; omega, orW_ok s3 hi, fun q hq => ?_⟩, by simp only []; omega, ?_⟩
    · show hasW (orW W i) q = (decide (n ≤ q) && decide (q < i + 1))
      rw [orW_has (by omega), s4 q hq, Bool.eq_iff_iff]
      simp only [Bool.or_eq_true, Bool.and_eq_true, decide_eq_true_eq]
      omega
    · (simp only [wrC, wrOs, keepT, memN, setsL, setsO, setL, setO, snocO, List.cons_append, List.nil_append, List.append_nil, Nat.reduceAdd, Nat.zero_add, Wk, mtc, mtcS, mtcSL, mtc0, mtc0L, mtcL, mtcO, mtcOs, cutM, takeE, stA, rl, renV, renL, ren1, ren1L, ren, rens, renO, Nat.blt, lenO, getO, setO, setL, anys, alC, alW, orW]; simp [alC, alW, orW])
  · have hi : i = M * 256 := by omega
    refine ⟨[0, 1], rfl, _, _, ?_, ?_, W, s3, fun q hq => ?_, rfl, rfl⟩
    · simp [Wk, mtc, mtcS, mtcSL, mtc0, mtc0L, mtcL, mtcO, mtcOs, cutM, takeE, stA, rl, renV, renL, ren1, ren1L, ren, rens, renO, Nat.blt, lenO, getO, setO, setL, anys, okS, endM, endH, idxN, takeE, pickE, catO, rl, renV, renL, ren1, ren1L, ren, rens, renO, Nat.blt, lenO, getO, setO, setL, anys]
    · simp [Wk, mtc, mtcS, mtcSL, mtc0, mtc0L, mtcL, mtcO, mtcOs, cutM, takeE, stA, rl, renV, renL, ren1, ren1L, ren, rens, renO, Nat.blt, lenO, getO, setO, setL, anys, okS, endM, endH, idxN, takeE, pickE, catO, rl, renV, renL, ren1, ren1L, ren, rens, renO, Nat.blt, lenO, getO, setO, setL, anys, alN]
    · rw [s4 q hq, decide_eq_true (p := q < i) (by omega), Bool.and_true]
end Go.Proofs.YtikogdkjmnpfcaaDoor.S
