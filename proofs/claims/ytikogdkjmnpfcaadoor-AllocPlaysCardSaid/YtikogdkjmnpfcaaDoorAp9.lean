/- Contracts of alloc's answer that change it. -/
import Derived.Test.YtikogdkjmnpfcaaDoorAp8
namespace Go.Proofs.YtikogdkjmnpfcaaDoor.S
open Go.Lib
set_option linter.all false
set_option maxRecDepth 100000
set_option maxHeartbeats 2000000
def fstB (L : List Bool) : Nat := L.findIdx fun b => !b
theorem fstB_le (L : List Bool) : fstB L ≤ L.length := List.findIdx_le_length
theorem fstB_eq {L : List Bool} {k : Nat} (hk : k < L.length) (h0 : L.getD k false = false) (h : ∀ q, q < k → L.getD q false = true) : fstB L = k := by
  unfold fstB
  rw [List.findIdx_eq hk]
  refine ⟨?_, fun j hj => ?_⟩
  · rw [List.getD_eq_getElem?_getD, List.getElem?_eq_getElem hk] at h0
    simpa using h0
  · have := h j hj
    rw [List.getD_eq_getElem?_getD, List.getElem?_eq_getElem (by omega)] at this
    simpa using this
theorem fstB_at {L : List Bool} (h : fstB L < L.length) : L.getD (fstB L) false = false := by
  have := List.findIdx_getElem (xs := L) (p := fun b => !b) (w := h)
  rw [List.getD_eq_getElem?_getD, List.getElem?_eq_getElem h]
  show L[fstB L] = false
  unfold fstB
  simpa using this
theorem fstB_before {L : List Bool} {q : Nat} (h : q < fstB L) : L.getD q false = true := by
  have h2 := fstB_le L
  have := List.not_of_lt_findIdx (xs := L) (p := fun b => !b) h
  rw [List.getD_eq_getElem?_getD, List.getElem?_eq_getElem (by omega)]
  simpa using this
theorem fstB_none {L : List Bool} (h : ∀ q, q < L.length → L.getD q false = true) : fstB L = L.length := by
  apply Decidable.byContradiction
  intro hc
  have hl : fstB L < L.length := by have := fstB_le L; omega
  have h1 := fstB_at hl
  rw [h _ hl] at h1
  cases h1
theorem frB_set : ∀ (L : List Bool) (i : Nat) (b : Bool), i < L.length → frB (L.set i b) + (if L.getD i false = true then 0 else 1) = frB L + (if b = true then 0 else 1)
  | [], i, b, h => by simp at h
  | x :: l, 0, b, h => by
    unfold frB
    cases x <;> cases b <;> simp
  | x :: l, i + 1, b, h => by
    have := frB_set l i b (by simpa using h)
    unfold frB at this ⊢
    simp only [List.set_cons_succ, List.getD_cons_succ]
    cases x
    · rw [List.filter_cons_of_pos (by rfl), List.filter_cons_of_pos (by rfl), List.length_cons, List.length_cons]; omega
    · rw [List.filter_cons_of_neg (by simp), List.filter_cons_of_neg (by simp)]; exact this
theorem frB_le (L : List Bool) : frB L ≤ L.length := List.length_filter_le _ _
theorem frB_pos {L : List Bool} (h : fstB L < L.length) : 0 < frB L := by
  have h1 := frB_set L (fstB L) true h
  rw [fstB_at h] at h1
  simp at h1
  omega
theorem frB_zero {L : List Bool} (h : ¬ fstB L < L.length) : frB L = 0 := by
  unfold frB
  rw [List.length_eq_zero_iff, List.filter_eq_nil_iff]
  intro b hb
  obtain ⟨q, hq, rfl⟩ := List.getElem_of_mem hb
  have := fstB_before (L := L) (q := q) (by have := fstB_le L; omega)
  rw [List.getD_eq_getElem?_getD, List.getElem?_eq_getElem hq] at this
  simpa using this
def takeB (L : List Bool) : List Bool × Int × Int := if fstB L < L.length then (L.set (fstB L) true, (fstB L : Nat), 0) else (L, 0, 31)
def holdB (L : List Bool) (i : Int) : List Bool × Int := if i < 0 ∨ (L.length : Int) ≤ i then (L, 30) else if L.getD i.toNat false = true then (L, 41) else (L.set i.toNat true, 0)
def giveB (L : List Bool) (i : Int) : List Bool × Int := if i < 0 ∨ (L.length : Int) ≤ i then (L, 30) else if L.getD i.toNat false = true then (L.set i.toNat false, 0) else (L, 40)
def tkB (L : List Bool) : Nat → List Bool × List Int
  | 0 => (L, [])
  | k + 1 => ((takeB (tkB L k).1).1, (tkB L k).2 ++ [(takeB (tkB L k).1).2.1])
def someB (L : List Bool) (k : Int) : List Bool × List Int × Int := if k < 0 then (L, [], 2) else if (frB L : Int) < k then (L, [], 31) else ((tkB L k.toNat).1, (tkB L k.toNat).2, 0)
theorem takeB_len (L : List Bool) : (takeB L).1.length = L.length := by unfold takeB; split <;> simp
theorem holdB_len (L : List Bool) (i : Int) : (holdB L i).1.length = L.length := by unfold holdB; split; rfl; split <;> simp
theorem giveB_len (L : List Bool) (i : Int) : (giveB L i).1.length = L.length := by unfold giveB; split; rfl; split <;> simp
theorem tkB_len (L : List Bool) : ∀ k, (tkB L k).1.length = L.length ∧ (tkB L k).2.length = k
  | 0 => ⟨rfl, rfl⟩
  | k + 1 => by
    obtain ⟨h1, h2⟩ := tkB_len L k
    simp only [tkB]
    exact ⟨by rw [takeB_len, h1], by rw [List.length_append, h2]; rfl⟩
theorem someB_len (L : List Bool) (k : Int) : (someB L k).1.length = L.length := by unfold someB; split; rfl; split; rfl; exact (tkB_len L _).1
def intR (l : List Int) : List (List AV) := l.map fun n => [.int .i64 n]
theorem intR_snoc (l : List Int) (n : Int) : intR (l ++ [n]) = intR l ++ [[.int .i64 n]] := by simp [intR]
theorem rtake_c (L : List Bool) (hL : L.length ≤ 65536) : ACalls Tryd.prog 13 [.ptr 0 0] [rfC L.length, rfB L] (fun r hs => r = .tup [.int .i64 (takeB L).2.1, .int .i64 (takeB L).2.2] ∧ hs = [rfC L.length, rfB (takeB L).1]) := by
  refine acalls_weak (acalls_of (fn := Tryd.f13) (A := a13) Tryd.func13 ok_13 en_13 ?_)
  dsimp only [a13, rfC, rfB]
  (refine eval_sound 2000 _ _ _ ?_; simp (maxSteps := 1000000) only [ptrL, lenV, Bool.not_true, Bool.not_false, lookR, valOf, asGrow, jump, findA, restA, and, Nat.reduceAdd, Nat.reduceSub, Nat.reduceMul, Int.reduceToNat, eval, nf, nfO, opN, appTo, rowsV, getL, setL, getO, setO, snocO, lenO, putL, ev, evs, ifEq, killV, killL, kill1, kill1L, kill, kills, killO, killOs, bin, binI, binS, binB, eq1, eqB, lit, sameK, kn, unI, mxA, mnA, mkAgg, fits, partN, partA, resN, retV, allVal, isVal, allCell, isCell, okVal, okCell, cellsOf, fillN, rowsN, cellsN, bnd, lohi, offAt, overL, segL, leave, NodeOK, List.cons_append, List.nil_append, List.append_nil, catA, anys, lenA])
  refine aw_loopU (α := Nat) (fun k => k ≤ L.length ∧ ∀ q, q < k → L.getD q false = true) (fun k => [(4, .int .i64 (k : Nat))]) (fun k => []) (fun k => L.length - k) (0) (⟨Nat.zero_le _, fun q h => by omega⟩) ?_ fun k hk => ?_
  · (simp only [wrC, wrOs, keepT, memN, setsL, setsO, setL, setO, snocO, List.cons_append, List.nil_append, List.append_nil, Nat.reduceAdd, Nat.zero_add, Wk, mtc, mtcS, mtcSL, mtc0, mtc0L, mtcL, mtcO, mtcOs, cutM, takeE, stA, rl, renV, renL, ren1, ren1L, ren, rens, renO, Nat.blt, lenO, getO, setO, setL, anys, rfC, rfB]; simp [rfC, rfB])
  obtain ⟨hk0, hk1⟩ := hk
  (simp only [wrC, wrOs, keepT, memN, setsL, setsO, setL, setO, snocO, List.cons_append, List.nil_append, List.append_nil, Nat.reduceAdd, Nat.zero_add, rfC, rfB]; (refine eval_sound 2000 _ _ _ ?_; simp (maxSteps := 1000000) only [ptrL, lenV, Bool.not_true, Bool.not_false, lookR, valOf, asGrow, jump, findA, restA, and, Nat.reduceAdd, Nat.reduceSub, Nat.reduceMul, Int.reduceToNat, eval, nf, nfO, opN, appTo, rowsV, getL, setL, getO, setO, snocO, lenO, putL, ev, evs, ifEq, killV, killL, kill1, kill1L, kill, kills, killO, killOs, bin, binI, binS, binB, eq1, eqB, lit, sameK, kn, unI, mxA, mnA, mkAgg, fits, partN, partA, resN, retV, allVal, isVal, allCell, isCell, okVal, okCell, cellsOf, fillN, rowsN, cellsN, bnd, lohi, offAt, overL, segL, leave, NodeOK, List.cons_append, List.nil_append, List.append_nil, catA, anys, lenA]))
  simp only [decide_eq_true_eq, decide_eq_false_iff_not]
  refine ⟨fun h1 => ?_, fun h1 => ?_⟩
  · have hk2 : k < L.length := by omega
    have hq := bC_get hk2
    have wk : IntKind.i64.wrap ((k : Int) + 1) = ((k + 1 : Nat) : Int) := by rw [wr64 (by omega) (by omega)]; rfl
    refine ⟨⟨by omega, by omega⟩, _, by rw [show 0 + (k : Int).toNat * 1 = k by omega]; exact hq, ?_⟩
    cases hb : L.getD k false with
    | true =>
      rw [show bA true = .tt from rfl]
      (refine eval_sound 2000 _ _ _ ?_; simp (maxSteps := 1000000) only [ptrL, lenV, Bool.not_true, Bool.not_false, lookR, valOf, asGrow, jump, findA, restA, and, Nat.reduceAdd, Nat.reduceSub, Nat.reduceMul, Int.reduceToNat, eval, nf, nfO, opN, appTo, rowsV, getL, setL, getO, setO, snocO, lenO, putL, ev, evs, ifEq, killV, killL, kill1, kill1L, kill, kills, killO, killOs, bin, binI, binS, binB, eq1, eqB, lit, sameK, kn, unI, mxA, mnA, mkAgg, fits, partN, partA, resN, retV, allVal, isVal, allCell, isCell, okVal, okCell, cellsOf, fillN, rowsN, cellsN, bnd, lohi, offAt, overL, segL, leave, NodeOK, List.cons_append, List.nil_append, List.append_nil, catA, anys, lenA])
      rw [wk]
      refine ⟨k + 1, ⟨by omega, fun q hq => ?_⟩, by omega, ?_⟩
      · by_cases e : q = k
        · rw [e]; exact hb
        · exact hk1 q (by omega)
      (simp only [wrC, wrOs, keepT, memN, setsL, setsO, setL, setO, snocO, List.cons_append, List.nil_append, List.append_nil, Nat.reduceAdd, Nat.zero_add, Wk, mtc, mtcS, mtcSL, mtc0, mtc0L, mtcL, mtcO, mtcOs, cutM, takeE, stA, rl, renV, renL, ren1, ren1L, ren, rens, renO, Nat.blt, lenO, getO, setO, setL, anys, rfC, rfB]; simp [rfC, rfB])
    | false =>
      have hf : fstB L = k := fstB_eq hk2 hb hk1
      have ht : takeB L = (L.set k true, (k : Int), 0) := by unfold takeB; rw [hf, if_pos hk2]
      rw [ht]
      rw [show bA false = .ff from rfl]
      (refine eval_sound 2000 _ _ _ ?_; simp (maxSteps := 1000000) only [ptrL, lenV, Bool.not_true, Bool.not_false, lookR, valOf, asGrow, jump, findA, restA, and, Nat.reduceAdd, Nat.reduceSub, Nat.reduceMul, Int.reduceToNat, eval, nf, nfO, opN, appTo, rowsV, getL, setL, getO, setO, snocO, lenO, putL, ev, evs, ifEq, killV, killL, kill1, kill1L, kill, kills, killO, killOs, bin, binI, binS, binB, eq1, eqB, lit, sameK, kn, unI, mxA, mnA, mkAgg, fits, partN, partA, resN, retV, allVal, isVal, allCell, isCell, okVal, okCell, cellsOf, fillN, rowsN, cellsN, bnd, lohi, offAt, overL, segL, leave, NodeOK, List.cons_append, List.nil_append, List.append_nil, catA, anys, lenA])
      have ho : over (bC L) (0 + (k : Int).toNat * 1) [.tt] = bC (L.set k true) := by rw [show 0 + (k : Int).toNat * 1 = k by omega]; exact bC_set true hk2
      rw [ho]
      refine ⟨⟨by omega, by omega⟩, by unfold bC; rw [List.length_map]; omega, ?_⟩
      ((repeat (with_reducible refine And.intro ?_ ?_; focus (simp; done))); refine ⟨[], rfl, _, _, ?_, ?_, rfl, rfl⟩ <;> simp [Wk, mtc, mtcS, mtcSL, mtc0, mtc0L, mtcL, mtcO, mtcOs, cutM, takeE, stA, rl, renV, renL, ren1, ren1L, ren, rens, renO, Nat.blt, lenO, getO, setO, setL, anys, okS, endM, endH, idxN, takeE, pickE, catO, rl, renV, renL, ren1, ren1L, ren, rens, renO, Nat.blt, lenO, getO, setO, setL, anys, rfC, rfB])
  · have hf : fstB L = L.length := fstB_none fun q hq => hk1 q (by omega)
    have ht : takeB L = (L, 0, 31) := by unfold takeB; rw [if_neg (by omega)]
    rw [ht]
    ((repeat (with_reducible refine And.intro ?_ ?_; focus (simp; done))); refine ⟨[], rfl, _, _, ?_, ?_, rfl, rfl⟩ <;> simp [Wk, mtc, mtcS, mtcSL, mtc0, mtc0L, mtcL, mtcO, mtcOs, cutM, takeE, stA, rl, renV, renL, ren1, ren1L, ren, rens, renO, Nat.blt, lenO, getO, setO, setL, anys, okS, endM, endH, idxN, takeE, pickE, catO, rl, renV, renL, ren1, ren1L, ren, rens, renO, Nat.blt, lenO, getO, setO, setL, anys, rfC, rfB])
theorem rhold_c (L : List Bool) (i : Int) : ACalls Tryd.prog 18 [.ptr 0 0, .int .i64 i] [rfC L.length, rfB L] (fun r hs => r = .int .i64 (holdB L i).2 ∧ hs = [rfC L.length, rfB (holdB L i).1]) := by
  refine acalls_weak (acalls_of (fn := Tryd.f18) (A := a18) Tryd.func18 ok_18 en_18 ?_)
  dsimp only [a18, rfC, rfB]
  (refine eval_sound 2000 _ _ _ ?_; simp (maxSteps := 1000000) only [ptrL, lenV, Bool.not_true, Bool.not_false, lookR, valOf, asGrow, jump, findA, restA, and, Nat.reduceAdd, Nat.reduceSub, Nat.reduceMul, Int.reduceToNat, eval, nf, nfO, opN, appTo, rowsV, getL, setL, getO, setO, snocO, lenO, putL, ev, evs, ifEq, killV, killL, kill1, kill1L, kill, kills, killO, killOs, bin, binI, binS, binB, eq1, eqB, lit, sameK, kn, unI, mxA, mnA, mkAgg, fits, partN, partA, resN, retV, allVal, isVal, allCell, isCell, okVal, okCell, cellsOf, fillN, rowsN, cellsN, bnd, lohi, offAt, overL, segL, leave, NodeOK, List.cons_append, List.nil_append, List.append_nil, catA, anys, lenA])
  simp only [decide_eq_true_eq, decide_eq_false_iff_not]
  refine ⟨fun h1 => ?_, fun h1 => ⟨fun h2 => ?_, fun h2 => ?_⟩⟩
  · have e : holdB L i = (L, 30) := by unfold holdB; rw [if_pos (Or.inl h1)]
    rw [e]
    ((repeat (with_reducible refine And.intro ?_ ?_; focus (simp; done))); refine ⟨[], rfl, _, _, ?_, ?_, rfl, rfl⟩ <;> simp [Wk, mtc, mtcS, mtcSL, mtc0, mtc0L, mtcL, mtcO, mtcOs, cutM, takeE, stA, rl, renV, renL, ren1, ren1L, ren, rens, renO, Nat.blt, lenO, getO, setO, setL, anys, okS, endM, endH, idxN, takeE, pickE, catO, rl, renV, renL, ren1, ren1L, ren, rens, renO, Nat.blt, lenO, getO, setO, setL, anys, rfC, rfB])
  · have e : holdB L i = (L, 30) := by unfold holdB; rw [if_pos (Or.inr (by omega))]
    rw [e]
    ((repeat (with_reducible refine And.intro ?_ ?_; focus (simp; done))); refine ⟨[], rfl, _, _, ?_, ?_, rfl, rfl⟩ <;> simp [Wk, mtc, mtcS, mtcSL, mtc0, mtc0L, mtcL, mtcO, mtcOs, cutM, takeE, stA, rl, renV, renL, ren1, ren1L, ren, rens, renO, Nat.blt, lenO, getO, setO, setL, anys, okS, endM, endH, idxN, takeE, pickE, catO, rl, renV, renL, ren1, ren1L, ren, rens, renO, Nat.blt, lenO, getO, setO, setL, anys, rfC, rfB])
  · obtain ⟨j, rfl⟩ : ∃ j : Nat, i = j := ⟨i.toNat, by omega⟩
    have hj : j < L.length := by omega
    have hq := bC_get hj
    have e : holdB L j = if L.getD j false = true then (L, 41) else (L.set j true, 0) := by unfold holdB; rw [if_neg (by omega), Int.toNat_natCast]
    rw [e]
    refine ⟨⟨by omega, by omega⟩, _, by rw [show 0 + (j : Int).toNat * 1 = j by omega]; exact hq, ?_⟩
    cases hb : L.getD j false with
    | true =>
      rw [show bA true = .tt from rfl, if_pos rfl]
      (refine eval_sound 2000 _ _ _ ?_; simp (maxSteps := 1000000) only [ptrL, lenV, Bool.not_true, Bool.not_false, lookR, valOf, asGrow, jump, findA, restA, and, Nat.reduceAdd, Nat.reduceSub, Nat.reduceMul, Int.reduceToNat, eval, nf, nfO, opN, appTo, rowsV, getL, setL, getO, setO, snocO, lenO, putL, ev, evs, ifEq, killV, killL, kill1, kill1L, kill, kills, killO, killOs, bin, binI, binS, binB, eq1, eqB, lit, sameK, kn, unI, mxA, mnA, mkAgg, fits, partN, partA, resN, retV, allVal, isVal, allCell, isCell, okVal, okCell, cellsOf, fillN, rowsN, cellsN, bnd, lohi, offAt, overL, segL, leave, NodeOK, List.cons_append, List.nil_append, List.append_nil, catA, anys, lenA])
      ((repeat (with_reducible refine And.intro ?_ ?_; focus (simp; done))); refine ⟨[], rfl, _, _, ?_, ?_, rfl, rfl⟩ <;> simp [Wk, mtc, mtcS, mtcSL, mtc0, mtc0L, mtcL, mtcO, mtcOs, cutM, takeE, stA, rl, renV, renL, ren1, ren1L, ren, rens, renO, Nat.blt, lenO, getO, setO, setL, anys, okS, endM, endH, idxN, takeE, pickE, catO, rl, renV, renL, ren1, ren1L, ren, rens, renO, Nat.blt, lenO, getO, setO, setL, anys, rfC, rfB])
    | false =>
      rw [show bA false = .ff from rfl, if_neg (by simp)]
      (refine eval_sound 2000 _ _ _ ?_; simp (maxSteps := 1000000) only [ptrL, lenV, Bool.not_true, Bool.not_false, lookR, valOf, asGrow, jump, findA, restA, and, Nat.reduceAdd, Nat.reduceSub, Nat.reduceMul, Int.reduceToNat, eval, nf, nfO, opN, appTo, rowsV, getL, setL, getO, setO, snocO, lenO, putL, ev, evs, ifEq, killV, killL, kill1, kill1L, kill, kills, killO, killOs, bin, binI, binS, binB, eq1, eqB, lit, sameK, kn, unI, mxA, mnA, mkAgg, fits, partN, partA, resN, retV, allVal, isVal, allCell, isCell, okVal, okCell, cellsOf, fillN, rowsN, cellsN, bnd, lohi, offAt, overL, segL, leave, NodeOK, List.cons_append, List.nil_append, List.append_nil, catA, anys, lenA])
      have ho : over (bC L) (0 + (j : Int).toNat * 1) [.tt] = bC (L.set j true) := by rw [show 0 + (j : Int).toNat * 1 = j by omega]; exact bC_set true hj
      rw [ho]
      refine ⟨⟨by omega, by omega⟩, by unfold bC; rw [List.length_map]; omega, ?_⟩
      ((repeat (with_reducible refine And.intro ?_ ?_; focus (simp; done))); refine ⟨[], rfl, _, _, ?_, ?_, rfl, rfl⟩ <;> simp [Wk, mtc, mtcS, mtcSL, mtc0, mtc0L, mtcL, mtcO, mtcOs, cutM, takeE, stA, rl, renV, renL, ren1, ren1L, ren, rens, renO, Nat.blt, lenO, getO, setO, setL, anys, okS, endM, endH, idxN, takeE, pickE, catO, rl, renV, renL, ren1, ren1L, ren, rens, renO, Nat.blt, lenO, getO, setO, setL, anys, rfC, rfB])
theorem rgive_c (L : List Bool) (i : Int) : ACalls Tryd.prog 19 [.ptr 0 0, .int .i64 i] [rfC L.length, rfB L] (fun r hs => r = .int .i64 (giveB L i).2 ∧ hs = [rfC L.length, rfB (giveB L i).1]) := by
  refine acalls_weak (acalls_of (fn := Tryd.f19) (A := a19) Tryd.func19 ok_19 en_19 ?_)
  dsimp only [a19, rfC, rfB]
  (refine eval_sound 2000 _ _ _ ?_; simp (maxSteps := 1000000) only [ptrL, lenV, Bool.not_true, Bool.not_false, lookR, valOf, asGrow, jump, findA, restA, and, Nat.reduceAdd, Nat.reduceSub, Nat.reduceMul, Int.reduceToNat, eval, nf, nfO, opN, appTo, rowsV, getL, setL, getO, setO, snocO, lenO, putL, ev, evs, ifEq, killV, killL, kill1, kill1L, kill, kills, killO, killOs, bin, binI, binS, binB, eq1, eqB, lit, sameK, kn, unI, mxA, mnA, mkAgg, fits, partN, partA, resN, retV, allVal, isVal, allCell, isCell, okVal, okCell, cellsOf, fillN, rowsN, cellsN, bnd, lohi, offAt, overL, segL, leave, NodeOK, List.cons_append, List.nil_append, List.append_nil, catA, anys, lenA])
  simp only [decide_eq_true_eq, decide_eq_false_iff_not]
  refine ⟨fun h1 => ?_, fun h1 => ⟨fun h2 => ?_, fun h2 => ?_⟩⟩
  · have e : giveB L i = (L, 30) := by unfold giveB; rw [if_pos (Or.inl h1)]
    rw [e]
    ((repeat (with_reducible refine And.intro ?_ ?_; focus (simp; done))); refine ⟨[], rfl, _, _, ?_, ?_, rfl, rfl⟩ <;> simp [Wk, mtc, mtcS, mtcSL, mtc0, mtc0L, mtcL, mtcO, mtcOs, cutM, takeE, stA, rl, renV, renL, ren1, ren1L, ren, rens, renO, Nat.blt, lenO, getO, setO, setL, anys, okS, endM, endH, idxN, takeE, pickE, catO, rl, renV, renL, ren1, ren1L, ren, rens, renO, Nat.blt, lenO, getO, setO, setL, anys, rfC, rfB])
  · have e : giveB L i = (L, 30) := by unfold giveB; rw [if_pos (Or.inr (by omega))]
    rw [e]
    ((repeat (with_reducible refine And.intro ?_ ?_; focus (simp; done))); refine ⟨[], rfl, _, _, ?_, ?_, rfl, rfl⟩ <;> simp [Wk, mtc, mtcS, mtcSL, mtc0, mtc0L, mtcL, mtcO, mtcOs, cutM, takeE, stA, rl, renV, renL, ren1, ren1L, ren, rens, renO, Nat.blt, lenO, getO, setO, setL, anys, okS, endM, endH, idxN, takeE, pickE, catO, rl, renV, renL, ren1, ren1L, ren, rens, renO, Nat.blt, lenO, getO, setO, setL, anys, rfC, rfB])
  · obtain ⟨j, rfl⟩ : ∃ j : Nat, i = j := ⟨i.toNat, by omega⟩
    have hj : j < L.length := by omega
    have hq := bC_get hj
    have e : giveB L j = if L.getD j false = true then (L.set j false, 0) else (L, 40) := by unfold giveB; rw [if_neg (by omega), Int.toNat_natCast]
    rw [e]
    refine ⟨⟨by omega, by omega⟩, _, by rw [show 0 + (j : Int).toNat * 1 = j by omega]; exact hq, ?_⟩
    cases hb : L.getD j false with
    | true =>
      rw [show bA true = .tt from rfl, if_pos rfl]
      (refine eval_sound 2000 _ _ _ ?_; simp (maxSteps := 1000000) only [ptrL, lenV, Bool.not_true, Bool.not_false, lookR, valOf, asGrow, jump, findA, restA, and, Nat.reduceAdd, Nat.reduceSub, Nat.reduceMul, Int.reduceToNat, eval, nf, nfO, opN, appTo, rowsV, getL, setL, getO, setO, snocO, lenO, putL, ev, evs, ifEq, killV, killL, kill1, kill1L, kill, kills, killO, killOs, bin, binI, binS, binB, eq1, eqB, lit, sameK, kn, unI, mxA, mnA, mkAgg, fits, partN, partA, resN, retV, allVal, isVal, allCell, isCell, okVal, okCell, cellsOf, fillN, rowsN, cellsN, bnd, lohi, offAt, overL, segL, leave, NodeOK, List.cons_append, List.nil_append, List.append_nil, catA, anys, lenA])
      have ho : over (bC L) (0 + (j : Int).toNat * 1) [.ff] = bC (L.set j false) := by rw [show 0 + (j : Int).toNat * 1 = j by omega]; exact bC_set false hj
      rw [ho]
      refine ⟨⟨by omega, by omega⟩, by unfold bC; rw [List.length_map]; omega, ?_⟩
      ((repeat (with_reducible refine And.intro ?_ ?_; focus (simp; done))); refine ⟨[], rfl, _, _, ?_, ?_, rfl, rfl⟩ <;> simp [Wk, mtc, mtcS, mtcSL, mtc0, mtc0L, mtcL, mtcO, mtcOs, cutM, takeE, stA, rl, renV, renL, ren1, ren1L, ren, rens, renO, Nat.blt, lenO, getO, setO, setL, anys, okS, endM, endH, idxN, takeE, pickE, catO, rl, renV, renL, ren1, ren1L, ren, rens, renO, Nat.blt, lenO, getO, setO, setL, anys, rfC, rfB])
    | false =>
      rw [show bA false = .ff from rfl, if_neg (by simp)]
      (refine eval_sound 2000 _ _ _ ?_; simp (maxSteps := 1000000) only [ptrL, lenV, Bool.not_true, Bool.not_false, lookR, valOf, asGrow, jump, findA, restA, and, Nat.reduceAdd, Nat.reduceSub, Nat.reduceMul, Int.reduceToNat, eval, nf, nfO, opN, appTo, rowsV, getL, setL, getO, setO, snocO, lenO, putL, ev, evs, ifEq, killV, killL, kill1, kill1L, kill, kills, killO, killOs, bin, binI, binS, binB, eq1, eqB, lit, sameK, kn, unI, mxA, mnA, mkAgg, fits, partN, partA, resN, retV, allVal, isVal, allCell, isCell, okVal, okCell, cellsOf, fillN, rowsN, cellsN, bnd, lohi, offAt, overL, segL, leave, NodeOK, List.cons_append, List.nil_append, List.append_nil, catA, anys, lenA])
      ((repeat (with_reducible refine And.intro ?_ ?_; focus (simp; done))); refine ⟨[], rfl, _, _, ?_, ?_, rfl, rfl⟩ <;> simp [Wk, mtc, mtcS, mtcSL, mtc0, mtc0L, mtcL, mtcO, mtcOs, cutM, takeE, stA, rl, renV, renL, ren1, ren1L, ren, rens, renO, Nat.blt, lenO, getO, setO, setL, anys, okS, endM, endH, idxN, takeE, pickE, catO, rl, renV, renL, ren1, ren1L, ren, rens, renO, Nat.blt, lenO, getO, setO, setL, anys, rfC, rfB])
theorem bC_zero (n : Nat) : (List.replicate n [AV.ff]).flatten = bC (List.replicate n false) := by
  unfold bC
  rw [List.map_replicate]
  induction n with
  | zero => rfl
  | succ n ih => rw [List.replicate_succ, List.flatten_cons, ih]; rfl
theorem rnew_c (n : Nat) (h1 : 1 ≤ n) (h2 : n ≤ 65536) : ACalls Tryd.prog 12 [.int .i64 n] [] (fun r hs => r = .tup [.ptr 1 0, .tt] ∧ hs = [rfB (List.replicate n false), .cells 60 [.sl 0 0 n n]]) := by
  refine acalls_weak (acalls_of (fn := Tryd.f12) (A := a12) Tryd.func12 ok_12 en_12 ?_)
  dsimp only [a12, rfC, rfB]
  (refine eval_sound 2000 _ _ _ ?_; simp (maxSteps := 1000000) only [ptrL, lenV, Bool.not_true, Bool.not_false, lookR, valOf, asGrow, jump, findA, restA, and, Nat.reduceAdd, Nat.reduceSub, Nat.reduceMul, Int.reduceToNat, eval, nf, nfO, opN, appTo, rowsV, getL, setL, getO, setO, snocO, lenO, putL, ev, evs, ifEq, killV, killL, kill1, kill1L, kill, kills, killO, killOs, bin, binI, binS, binB, eq1, eqB, lit, sameK, kn, unI, mxA, mnA, mkAgg, fits, partN, partA, resN, retV, allVal, isVal, allCell, isCell, okVal, okCell, cellsOf, fillN, rowsN, cellsN, bnd, lohi, offAt, overL, segL, leave, NodeOK, List.cons_append, List.nil_append, List.append_nil, catA, anys, lenA])
  simp only [decide_eq_true_eq, decide_eq_false_iff_not]
  refine ⟨fun h => by omega, fun _ => ⟨fun h => by omega, fun _ => ?_⟩⟩
  refine ⟨⟨by omega, by omega⟩, ?_⟩
  simp only [Int.toNat_natCast]
  rw [bC_zero]
  refine ⟨[0, 1], rfl, _, _, ?_, ?_, rfl, rfl⟩ <;> simp [Wk, mtc, mtcS, mtcSL, mtc0, mtc0L, mtcL, mtcO, mtcOs, cutM, takeE, stA, rl, renV, renL, ren1, ren1L, ren, rens, renO, Nat.blt, lenO, getO, setO, setL, anys, okS, endM, endH, idxN, takeE, pickE, catO, rl, renV, renL, ren1, ren1L, ren, rens, renO, Nat.blt, lenO, getO, setO, setL, anys, rfB]
theorem rnew_n (n : Int) (h : n < 1 ∨ 65536 < n) : ACalls Tryd.prog 12 [.int .i64 n] [] (fun r hs => r = .tup [.nilp, .ff] ∧ hs = []) := by
  refine acalls_weak (acalls_of (fn := Tryd.f12) (A := a12) Tryd.func12 ok_12 en_12 ?_)
  dsimp only [a12, rfC, rfB]
  (refine eval_sound 2000 _ _ _ ?_; simp (maxSteps := 1000000) only [ptrL, lenV, Bool.not_true, Bool.not_false, lookR, valOf, asGrow, jump, findA, restA, and, Nat.reduceAdd, Nat.reduceSub, Nat.reduceMul, Int.reduceToNat, eval, nf, nfO, opN, appTo, rowsV, getL, setL, getO, setO, snocO, lenO, putL, ev, evs, ifEq, killV, killL, kill1, kill1L, kill, kills, killO, killOs, bin, binI, binS, binB, eq1, eqB, lit, sameK, kn, unI, mxA, mnA, mkAgg, fits, partN, partA, resN, retV, allVal, isVal, allCell, isCell, okVal, okCell, cellsOf, fillN, rowsN, cellsN, bnd, lohi, offAt, overL, segL, leave, NodeOK, List.cons_append, List.nil_append, List.append_nil, catA, anys, lenA])
  simp only [decide_eq_true_eq, decide_eq_false_iff_not]
  refine ⟨fun h => ?_, fun _ => ⟨fun h => ?_, fun _ => by omega⟩⟩
  · ((repeat (with_reducible refine And.intro ?_ ?_; focus (simp; done))); refine ⟨[], rfl, _, _, ?_, ?_, rfl, rfl⟩ <;> simp [Wk, mtc, mtcS, mtcSL, mtc0, mtc0L, mtcL, mtcO, mtcOs, cutM, takeE, stA, rl, renV, renL, ren1, ren1L, ren, rens, renO, Nat.blt, lenO, getO, setO, setL, anys, okS, endM, endH, idxN, takeE, pickE, catO, rl, renV, renL, ren1, ren1L, ren, rens, renO, Nat.blt, lenO, getO, setO, setL, anys, rfC, rfB])
  · ((repeat (with_reducible refine And.intro ?_ ?_; focus (simp; done))); refine ⟨[], rfl, _, _, ?_, ?_, rfl, rfl⟩ <;> simp [Wk, mtc, mtcS, mtcSL, mtc0, mtc0L, mtcL, mtcO, mtcOs, cutM, takeE, stA, rl, renV, renL, ren1, ren1L, ren, rens, renO, Nat.blt, lenO, getO, setO, setL, anys, okS, endM, endH, idxN, takeE, pickE, catO, rl, renV, renL, ren1, ren1L, ren, rens, renO, Nat.blt, lenO, getO, setO, setL, anys, rfC, rfB])
theorem new_n (n : Int) (h : n < 1 ∨ 65536 < n) : ACalls Tryd.prog 7 [.int .i64 n] [] (fun r hs => r = .nilp ∧ hs = []) := by
  refine acalls_weak (acalls_of (fn := Tryd.f7) (A := a7) Tryd.func7 ok_7 en_7 ?_)
  dsimp only [a7, rfC, rfB]
  (refine eval_sound 2000 _ _ _ ?_; simp (maxSteps := 1000000) only [ptrL, lenV, Bool.not_true, Bool.not_false, lookR, valOf, asGrow, jump, findA, restA, and, Nat.reduceAdd, Nat.reduceSub, Nat.reduceMul, Int.reduceToNat, eval, nf, nfO, opN, appTo, rowsV, getL, setL, getO, setO, snocO, lenO, putL, ev, evs, ifEq, killV, killL, kill1, kill1L, kill, kills, killO, killOs, bin, binI, binS, binB, eq1, eqB, lit, sameK, kn, unI, mxA, mnA, mkAgg, fits, partN, partA, resN, retV, allVal, isVal, allCell, isCell, okVal, okCell, cellsOf, fillN, rowsN, cellsN, bnd, lohi, offAt, overL, segL, leave, NodeOK, List.cons_append, List.nil_append, List.append_nil, catA, anys, lenA])
  simp only [decide_eq_true_eq, decide_eq_false_iff_not]
  refine ⟨fun h => ?_, fun _ => ⟨fun h => ?_, fun _ => by omega⟩⟩
  · ((repeat (with_reducible refine And.intro ?_ ?_; focus (simp; done))); refine ⟨[], rfl, _, _, ?_, ?_, rfl, rfl⟩ <;> simp [Wk, mtc, mtcS, mtcSL, mtc0, mtc0L, mtcL, mtcO, mtcOs, cutM, takeE, stA, rl, renV, renL, ren1, ren1L, ren, rens, renO, Nat.blt, lenO, getO, setO, setL, anys, okS, endM, endH, idxN, takeE, pickE, catO, rl, renV, renL, ren1, ren1L, ren, rens, renO, Nat.blt, lenO, getO, setO, setL, anys, rfC, rfB])
  · ((repeat (with_reducible refine And.intro ?_ ?_; focus (simp; done))); refine ⟨[], rfl, _, _, ?_, ?_, rfl, rfl⟩ <;> simp [Wk, mtc, mtcS, mtcSL, mtc0, mtc0L, mtcL, mtcO, mtcOs, cutM, takeE, stA, rl, renV, renL, ren1, ren1L, ren, rens, renO, Nat.blt, lenO, getO, setO, setL, anys, okS, endM, endH, idxN, takeE, pickE, catO, rl, renV, renL, ren1, ren1L, ren, rens, renO, Nat.blt, lenO, getO, setO, setL, anys, rfC, rfB])
end Go.Proofs.YtikogdkjmnpfcaaDoor.S
