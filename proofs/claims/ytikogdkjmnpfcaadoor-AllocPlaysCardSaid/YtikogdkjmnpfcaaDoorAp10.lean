/- Contracts of alloc, told by a row of whether each place is taken. -/
import Derived.Test.YtikogdkjmnpfcaaDoorAp9
namespace Go.Proofs.YtikogdkjmnpfcaaDoor.S
open Go.Lib
set_option linter.all false
set_option maxRecDepth 100000
set_option maxHeartbeats 2000000
structure RelW (N M : Nat) (W : List Nat) (L : List Bool) : Prop where
  ok : WOKs M W
  len : L.length = N
  has : ∀ p, p < N → hasW W p = L.getD p false
  out : ∀ p, N ≤ p → p < M * 256 → hasW W p = true
theorem RelW.turn {N M : Nat} {W : List Nat} {L : List Bool} (h : RelW N M W L) (hn : N ≤ M * 256) {p : Nat} (hp : p < N) {b : Bool} (hb : L.getD p false = !b) : RelW N M (xorW W p) (L.set p b) := by
  have hl := h.ok.len
  have h1 := h.len
  have hx : ∀ q, hasW (xorW W p) q = (if q = p then !hasW W q else hasW W q) := fun q => xorW_has (by omega)
  refine ⟨xorW_ok h.ok (by omega), by rw [List.length_set]; exact h1, fun q hq => ?_, fun q h2 h3 => by rw [hx, if_neg (by omega)]; exact h.out q h2 h3⟩
  rw [hx, List.getD_eq_getElem?_getD, List.getElem?_set]
  by_cases e : q = p
  · subst e
    rw [if_pos rfl, if_pos rfl, if_pos (by omega), h.has q hq, hb]
    simp
  · rw [if_neg e, if_neg (fun e2 => e e2.symm), h.has q hq, List.getD_eq_getElem?_getD]
theorem RelW.atH {N M : Nat} {W : List Nat} {L : List Bool} (h : RelW N M W L) (i : Int) : atH N W i = hasB L i := by
  unfold S.atH hasB
  rw [h.len]
  by_cases h1 : 0 ≤ i
  · by_cases h2 : i < N
    · rw [h.has i.toNat (by omega)]
    · rw [decide_eq_false h2]; simp
  · rw [decide_eq_false h1]; simp
theorem RelW.fr {N M : Nat} {W : List Nat} {L : List Bool} (h : RelW N M W L) : frB L ≤ N := by rw [← h.len]; exact frB_le L
theorem acalls_im {P : Program} {f : Nat} {args : List AV} {hs0 : List AObj} {p q : AV → List AObj → Prop} (hc : ACalls P f args hs0 p) (h : ∀ r hs, p r hs → q r hs) : ACalls P f args hs0 q := by
  refine ⟨hc.1, fun gs Pr w vs g1 g2 => (hc.2 gs Pr w vs g1 g2).mono fun e w' he => ?_⟩
  obtain ⟨v, r, hs, gs', Pr', e1, e2, he⟩ := he
  exact ⟨v, r, hs, gs', Pr', e1, h _ _ e2, he⟩
theorem ptake_c (M c N : Nat) (W : List Nat) (L : List Bool) (hM : M ≤ 1000) (hn : N ≤ M * 256) (h : RelW N M W L) : ACalls Tryd.prog 9 [.ptr 0 0] [alC M c N (frB L : Nat), alW W]
    (fun r hs => ∃ V, RelW N M V (takeB L).1 ∧ r = .tup [.int .i64 (takeB L).2.1, .int .i64 (takeB L).2.2] ∧ hs = [alC M c N (frB (takeB L).1 : Nat), alW V]) := by
  have hl := h.len
  have hfr := h.fr
  by_cases hf : fstB L < L.length
  · have h1 := frB_pos hf
    have h3 := frB_set L (fstB L) true hf
    rw [fstB_at hf] at h3
    simp at h3
    have ht : takeB L = (L.set (fstB L) true, ((fstB L : Nat) : Int), 0) := by unfold takeB; rw [if_pos hf]
    have hc := take_c M c N ((frB L : Nat) : Int) W hM hn (by omega) h.ok h.out ⟨fstB L, by omega, by rw [h.has _ (by omega)]; exact fstB_at hf⟩
    refine acalls_im hc fun r hs hp => ?_
    obtain ⟨p, p1, p2, p3, e2, e3⟩ := hp
    have hp : fstB L = p := fstB_eq (by omega) (by rw [← h.has p p1]; exact p2) fun q hq => by rw [← h.has q (by omega)]; exact p3 q hq
    refine ⟨xorW W p, ?_, ?_, ?_⟩
    · rw [ht, hp]; exact h.turn hn p1 (by rw [← h.has p p1, p2]; rfl)
    · rw [ht, hp]; exact e2
    · rw [ht, e3, show ((frB (L.set (fstB L) true) : Nat) : Int) = (frB L : Int) - 1 by omega]
  · have h1 := frB_zero hf
    have ht : takeB L = (L, 0, 31) := by unfold takeB; rw [if_neg hf]
    have hc := take0_c M c N W
    rw [ht]
    simp only [h1]
    refine acalls_im hc fun r hs hp => ?_
    obtain ⟨e2, e3⟩ := hp
    exact ⟨W, h, e2, e3⟩
theorem phold_c (M c N : Nat) (W : List Nat) (L : List Bool) (i : Int) (hM : M ≤ 1000) (hn : N ≤ M * 256) (h : RelW N M W L) : ACalls Tryd.prog 17 [.ptr 0 0, .int .i64 i] [alC M c N (frB L : Nat), alW W]
    (fun r hs => ∃ V, RelW N M V (holdB L i).1 ∧ r = .int .i64 (holdB L i).2 ∧ hs = [alC M c N (frB (holdB L i).1 : Nat), alW V]) := by
  have hl := h.len
  have hfr := h.fr
  have hat := h.atH i
  refine acalls_im (hold_c M c N ((frB L : Nat) : Int) W i hM (by omega) (by omega) h.ok) fun r hs hp => ?_
  obtain ⟨rfl, rfl⟩ := hp
  by_cases h1 : i < 0 ∨ (N : Int) ≤ i
  · have e1 : turnW N ((frB L : Nat) : Int) W i true 41 = (W, ((frB L : Nat) : Int), 30) := by unfold turnW; rw [if_pos h1]
    have e2 : holdB L i = (L, 30) := by unfold holdB; rw [if_pos (by rw [hl]; exact h1)]
    rw [e1, e2]
    exact ⟨W, h, rfl, rfl⟩
  · obtain ⟨j, rfl⟩ : ∃ j : Nat, i = j := ⟨i.toNat, by omega⟩
    have hj : j < N := by omega
    have hb : hasB L j = L.getD j false := by unfold hasB; rw [decide_eq_true (p := (0 : Int) ≤ j) (by omega), decide_eq_true (p := (j : Int) < L.length) (by omega), Int.toNat_natCast]; rfl
    cases hv : L.getD j false with
    | true =>
      have e1 : turnW N ((frB L : Nat) : Int) W j true 41 = (W, ((frB L : Nat) : Int), 41) := by unfold turnW; rw [if_neg h1, if_pos (by rw [hat, hb]; exact hv)]
      have e2 : holdB L j = (L, 41) := by unfold holdB; rw [if_neg (by rw [hl]; exact h1), Int.toNat_natCast, if_pos hv]
      rw [e1, e2]
      exact ⟨W, h, rfl, rfl⟩
    | false =>
      have e1 : turnW N ((frB L : Nat) : Int) W j true 41 = (xorW W j, ((frB L : Nat) : Int) - 1, 0) := by unfold turnW; rw [if_neg h1, if_neg (by rw [hat, hb, hv]; simp), Int.toNat_natCast]; rfl
      have e2 : holdB L j = (L.set j true, 0) := by unfold holdB; rw [if_neg (by rw [hl]; exact h1), Int.toNat_natCast, if_neg (by rw [hv]; simp)]
      have h3 := frB_set L j true (by omega)
      rw [hv] at h3
      simp at h3
      rw [e1, e2]
      exact ⟨_, h.turn hn hj (by rw [hv]; rfl), rfl, by rw [show ((frB (L.set j true) : Nat) : Int) = (frB L : Int) - 1 by omega]⟩
theorem pgive_c (M c N : Nat) (W : List Nat) (L : List Bool) (i : Int) (hM : M ≤ 1000) (hn : N ≤ M * 256) (h : RelW N M W L) : ACalls Tryd.prog 8 [.ptr 0 0, .int .i64 i] [alC M c N (frB L : Nat), alW W]
    (fun r hs => ∃ V, RelW N M V (giveB L i).1 ∧ r = .int .i64 (giveB L i).2 ∧ hs = [alC M c N (frB (giveB L i).1 : Nat), alW V]) := by
  have hl := h.len
  have hfr := h.fr
  have hat := h.atH i
  refine acalls_im (give_c M c N ((frB L : Nat) : Int) W i hM (by omega) (by omega) h.ok) fun r hs hp => ?_
  obtain ⟨rfl, rfl⟩ := hp
  by_cases h1 : i < 0 ∨ (N : Int) ≤ i
  · have e1 : turnW N ((frB L : Nat) : Int) W i false 40 = (W, ((frB L : Nat) : Int), 30) := by unfold turnW; rw [if_pos h1]
    have e2 : giveB L i = (L, 30) := by unfold giveB; rw [if_pos (by rw [hl]; exact h1)]
    rw [e1, e2]
    exact ⟨W, h, rfl, rfl⟩
  · obtain ⟨j, rfl⟩ : ∃ j : Nat, i = j := ⟨i.toNat, by omega⟩
    have hj : j < N := by omega
    have hb : hasB L j = L.getD j false := by unfold hasB; rw [decide_eq_true (p := (0 : Int) ≤ j) (by omega), decide_eq_true (p := (j : Int) < L.length) (by omega), Int.toNat_natCast]; rfl
    cases hv : L.getD j false with
    | false =>
      have e1 : turnW N ((frB L : Nat) : Int) W j false 40 = (W, ((frB L : Nat) : Int), 40) := by unfold turnW; rw [if_neg h1, if_pos (by rw [hat, hb]; exact hv)]
      have e2 : giveB L j = (L, 40) := by unfold giveB; rw [if_neg (by rw [hl]; exact h1), Int.toNat_natCast, if_neg (by rw [hv]; simp)]
      rw [e1, e2]
      exact ⟨W, h, rfl, rfl⟩
    | true =>
      have e1 : turnW N ((frB L : Nat) : Int) W j false 40 = (xorW W j, ((frB L : Nat) : Int) + 1, 0) := by unfold turnW; rw [if_neg h1, if_neg (by rw [hat, hb, hv]; simp), Int.toNat_natCast]; rfl
      have e2 : giveB L j = (L.set j false, 0) := by unfold giveB; rw [if_neg (by rw [hl]; exact h1), Int.toNat_natCast, if_pos hv]
      have h3 := frB_set L j false (by omega)
      rw [hv] at h3
      simp at h3
      rw [e1, e2]
      exact ⟨_, h.turn hn hj (by rw [hv]; rfl), rfl, by rw [show ((frB (L.set j false) : Nat) : Int) = (frB L : Int) + 1 by omega]⟩
theorem ints_c (l : List Int) (hl : l.length ≤ 9223372036854775807) : ACalls Tryd.prog 16 [.ro 1 (intR l), .ro 1 (intR l)] [] (fun r hs => r = .tt ∧ hs = []) := by
  have hlen : (intR l).length = l.length := List.length_map _
  refine acalls_weak (acalls_of (fn := Tryd.f16) (A := a16) Tryd.func16 ok_16 en_16 ?_)
  dsimp only [a16, alC]
  (refine eval_sound 2000 _ _ _ ?_; simp (maxSteps := 1000000) only [ptrL, lenV, Bool.not_true, Bool.not_false, lookR, valOf, asGrow, jump, findA, restA, and, Nat.reduceAdd, Nat.reduceSub, Nat.reduceMul, Int.reduceToNat, eval, nf, nfO, opN, appTo, rowsV, getL, setL, getO, setO, snocO, lenO, putL, ev, evs, ifEq, killV, killL, kill1, kill1L, kill, kills, killO, killOs, bin, binI, binS, binB, eq1, eqB, lit, sameK, kn, unI, mxA, mnA, mkAgg, fits, partN, partA, resN, retV, allVal, isVal, allCell, isCell, okVal, okCell, cellsOf, fillN, rowsN, cellsN, bnd, lohi, offAt, overL, segL, leave, NodeOK, List.cons_append, List.nil_append, List.append_nil, catA, anys, lenA])
  refine ⟨fun h => by simp at h, fun _ => ?_⟩
  refine aw_loopU (α := Nat) (fun k => k ≤ l.length) (fun k => [(13, .int .i64 (k : Nat))]) (fun k => []) (fun k => l.length - k) (0) (Nat.zero_le _) ?_ fun k hk => ?_
  · (simp only [wrC, wrOs, keepT, memN, setsL, setsO, setL, setO, snocO, List.cons_append, List.nil_append, List.append_nil, Nat.reduceAdd, Nat.zero_add, Wk, mtc, mtcS, mtcSL, mtc0, mtc0L, mtcL, mtcO, mtcOs, cutM, takeE, stA, rl, renV, renL, ren1, ren1L, ren, rens, renO, Nat.blt, lenO, getO, setO, setL, anys, alC]; simp [alC])
  (simp only [wrC, wrOs, keepT, memN, setsL, setsO, setL, setO, snocO, List.cons_append, List.nil_append, List.append_nil, Nat.reduceAdd, Nat.zero_add, alC]; (refine eval_sound 2000 _ _ _ ?_; simp (maxSteps := 1000000) only [ptrL, lenV, Bool.not_true, Bool.not_false, lookR, valOf, asGrow, jump, findA, restA, and, Nat.reduceAdd, Nat.reduceSub, Nat.reduceMul, Int.reduceToNat, eval, nf, nfO, opN, appTo, rowsV, getL, setL, getO, setO, snocO, lenO, putL, ev, evs, ifEq, killV, killL, kill1, kill1L, kill, kills, killO, killOs, bin, binI, binS, binB, eq1, eqB, lit, sameK, kn, unI, mxA, mnA, mkAgg, fits, partN, partA, resN, retV, allVal, isVal, allCell, isCell, okVal, okCell, cellsOf, fillN, rowsN, cellsN, bnd, lohi, offAt, overL, segL, leave, NodeOK, List.cons_append, List.nil_append, List.append_nil, catA, anys, lenA]))
  simp only [decide_eq_true_eq, decide_eq_false_iff_not, hlen]
  refine ⟨fun h1 => ?_, fun h1 => ?_⟩
  · have hk2 : k < l.length := by omega
    obtain ⟨n, hn⟩ : ∃ n, l[k]? = some n := ⟨_, List.getElem?_eq_getElem hk2⟩
    have hq : (intR l)[k]? = some [.int .i64 n] := by unfold intR; rw [List.getElem?_map, hn]; rfl
    have wk : IntKind.i64.wrap ((k : Int) + 1) = ((k + 1 : Nat) : Int) := by rw [wr64 (by omega) (by omega)]; rfl
    refine aw_dregA (show Tryd.prog.follows .mixedOrders = true by kernel_rfl) 0 [(2, ⟨.rp [.int .i64 n] 0, [], [], []⟩), (6, ⟨.rp [.int .i64 n] 0, [], [], []⟩), (8, ⟨.ff, [], [], []⟩)] ?_ ?_ ?_
    · kernel_rfl
    · (simp only [tkO, dpO, tkN, AllOps, OpOK, mkR, autoV, autoR, labV, lkD, vOf, preT, preO, setTs, preV, wrt, memN, usesO, usesT, opT, optT, opsT, ptsT, setHs, objF, updD, newO, lkO, lkF, keysO, keysF, visN, deads, getL, setL, getO, setO, lenO, lenA, anys, setDs, setWr, setFr, endO, catD, List.getD_cons_zero, List.getD_cons_succ, List.getElem?_cons_zero, List.getElem?_cons_succ, List.cons_append, List.nil_append, List.append_nil, Nat.reduceAdd, Nat.reduceSub, ptrL, lenV, Bool.not_true, Bool.not_false, lookR, valOf, asGrow, jump, findA, restA, and, Nat.reduceAdd, Nat.reduceSub, Nat.reduceMul, Int.reduceToNat, eval, nf, nfO, opN, appTo, rowsV, getL, setL, getO, setO, snocO, lenO, putL, ev, evs, ifEq, killV, killL, kill1, kill1L, kill, kills, killO, killOs, bin, binI, binS, binB, eq1, eqB, lit, sameK, kn, unI, mxA, mnA, mkAgg, fits, partN, partA, resN, retV, allVal, isVal, allCell, isCell, okVal, okCell, cellsOf, fillN, rowsN, cellsN, bnd, lohi, offAt, overL, segL, leave, NodeOK, List.cons_append, List.nil_append, List.append_nil, catA, anys, lenA]; and_intros) <;> (first | exact trivial | ((refine eval_sound 2000 _ _ _ ?_; simp (maxSteps := 1000000) only [ptrL, lenV, Bool.not_true, Bool.not_false, lookR, valOf, asGrow, jump, findA, restA, and, Nat.reduceAdd, Nat.reduceSub, Nat.reduceMul, Int.reduceToNat, eval, nf, nfO, opN, appTo, rowsV, getL, setL, getO, setO, snocO, lenO, putL, ev, evs, ifEq, killV, killL, kill1, kill1L, kill, kills, killO, killOs, bin, binI, binS, binB, eq1, eqB, lit, sameK, kn, unI, mxA, mnA, mkAgg, fits, partN, partA, resN, retV, allVal, isVal, allCell, isCell, okVal, okCell, cellsOf, fillN, rowsN, cellsN, bnd, lohi, offAt, overL, segL, leave, NodeOK, List.cons_append, List.nil_append, List.append_nil, catA, anys, lenA]); try simp only [JR, dstOK, wrOK, frOK, rdOK, getL, getO]; try simp only [JR, dstOK, wrOK, frOK, rdOK, sig, sigF, isGrowB, mtc, mtcS, mtcSL, mtc0, mtc0L, mtcO, mtcL, memN, Nat.blt, rl, renV, renL, ren1, ren1L, ren, rens, renO, Nat.blt, lenO, getO, setO, setL, anys]; try simp))
      all_goals
        refine ⟨by omega, _, by rw [Int.toNat_natCast]; exact hq, ?_⟩
        (refine eval_sound 2000 _ _ _ ?_; simp (maxSteps := 1000000) only [ptrL, lenV, Bool.not_true, Bool.not_false, lookR, valOf, asGrow, jump, findA, restA, and, Nat.reduceAdd, Nat.reduceSub, Nat.reduceMul, Int.reduceToNat, eval, nf, nfO, opN, appTo, rowsV, getL, setL, getO, setO, snocO, lenO, putL, ev, evs, ifEq, killV, killL, kill1, kill1L, kill, kills, killO, killOs, bin, binI, binS, binB, eq1, eqB, lit, sameK, kn, unI, mxA, mnA, mkAgg, fits, partN, partA, resN, retV, allVal, isVal, allCell, isCell, okVal, okCell, cellsOf, fillN, rowsN, cellsN, bnd, lohi, offAt, overL, segL, leave, NodeOK, List.cons_append, List.nil_append, List.append_nil, catA, anys, lenA])
        ((try simp only [JR, dstOK, wrOK, frOK, rdOK, getL, getO]); (try simp only [JR, dstOK, wrOK, frOK, rdOK, sig, sigF, isGrowB, mtc, mtcS, mtcSL, mtc0, mtc0L, mtcO, mtcL, memN, Nat.blt, rl, renV, renL, ren1, ren1L, ren, rens, renO, Nat.blt, lenO, getO, setO, setL, anys, alC]); try simp)
    · (simp only [tkO, dpO, tkN, AllOps, OpOK, mkR, autoV, autoR, labV, lkD, vOf, preT, preO, setTs, preV, wrt, memN, usesO, usesT, opT, optT, opsT, ptsT, setHs, objF, updD, newO, lkO, lkF, keysO, keysF, visN, deads, getL, setL, getO, setO, lenO, lenA, anys, setDs, setWr, setFr, endO, catD, List.getD_cons_zero, List.getD_cons_succ, List.getElem?_cons_zero, List.getElem?_cons_succ, List.cons_append, List.nil_append, List.append_nil, Nat.reduceAdd, Nat.reduceSub, ptrL, lenV, Bool.not_true, Bool.not_false, lookR, valOf, asGrow, jump, findA, restA, and, Nat.reduceAdd, Nat.reduceSub, Nat.reduceMul, Int.reduceToNat, eval, nf, nfO, opN, appTo, rowsV, getL, setL, getO, setO, snocO, lenO, putL, ev, evs, ifEq, killV, killL, kill1, kill1L, kill, kills, killO, killOs, bin, binI, binS, binB, eq1, eqB, lit, sameK, kn, unI, mxA, mnA, mkAgg, fits, partN, partA, resN, retV, allVal, isVal, allCell, isCell, okVal, okCell, cellsOf, fillN, rowsN, cellsN, bnd, lohi, offAt, overL, segL, leave, NodeOK, List.cons_append, List.nil_append, List.append_nil, catA, anys, lenA]; (refine eval_sound 2000 _ _ _ ?_; simp (maxSteps := 1000000) only [ptrL, lenV, Bool.not_true, Bool.not_false, lookR, valOf, asGrow, jump, findA, restA, and, Nat.reduceAdd, Nat.reduceSub, Nat.reduceMul, Int.reduceToNat, eval, nf, nfO, opN, appTo, rowsV, getL, setL, getO, setO, snocO, lenO, putL, ev, evs, ifEq, killV, killL, kill1, kill1L, kill, kills, killO, killOs, bin, binI, binS, binB, eq1, eqB, lit, sameK, kn, unI, mxA, mnA, mkAgg, fits, partN, partA, resN, retV, allVal, isVal, allCell, isCell, okVal, okCell, cellsOf, fillN, rowsN, cellsN, bnd, lohi, offAt, overL, segL, leave, NodeOK, List.cons_append, List.nil_append, List.append_nil, catA, anys, lenA]))
      rw [wk]
      refine ⟨k + 1, by omega, by omega, ?_⟩
      (simp only [wrC, wrOs, keepT, memN, setsL, setsO, setL, setO, snocO, List.cons_append, List.nil_append, List.append_nil, Nat.reduceAdd, Nat.zero_add, Wk, mtc, mtcS, mtcSL, mtc0, mtc0L, mtcL, mtcO, mtcOs, cutM, takeE, stA, rl, renV, renL, ren1, ren1L, ren, rens, renO, Nat.blt, lenO, getO, setO, setL, anys, alC]; simp [alC])
  · ((repeat (with_reducible refine And.intro ?_ ?_; focus (simp; done))); refine ⟨[], rfl, _, _, ?_, ?_, rfl, rfl⟩ <;> simp [Wk, mtc, mtcS, mtcSL, mtc0, mtc0L, mtcL, mtcO, mtcOs, cutM, takeE, stA, rl, renV, renL, ren1, ren1L, ren, rens, renO, Nat.blt, lenO, getO, setO, setL, anys, okS, endM, endH, idxN, takeE, pickE, catO, rl, renV, renL, ren1, ren1L, ren, rens, renO, Nat.blt, lenO, getO, setO, setL, anys, alC])
theorem rsome0 (L : List Bool) (hL : L.length ≤ 65536) (c : Int) : ACalls Tryd.prog 15 [.ptr 0 0, .int .i64 c] [rfC L.length, rfB L] (fun r hs => (r = .tup [.nils, .int .i64 (someB L c).2.2] ∧ hs = [rfC L.length, rfB (someB L c).1] ∧ (someB L c).2.1 = []) ∨ (r = .tup [.own 2, .int .i64 (someB L c).2.2] ∧ hs = [rfC L.length, rfB (someB L c).1, .grow 3 1 (intR (someB L c).2.1)])) := by
  have hfr := rfree_c L hL
  have hle := frB_le L
  have hfrE : ∀ f : Nat, f = frB L → ACalls Tryd.prog 21 [.ptr 0 0] [rfC L.length, rfB L] (fun r hs => r = .int .i64 (f : Nat) ∧ hs = [rfC L.length, rfB L]) := fun f e => by rw [e]; exact hfr
  obtain ⟨f, hf⟩ : ∃ f, f = frB L := ⟨_, rfl⟩
  have hfr := hfrE f hf
  refine acalls_weak (acalls_of (fn := Tryd.f15) (A := a15) Tryd.func15 ok_15 en_15 ?_)
  dsimp only [a15, rfC, rfB]
  (refine eval_sound 2000 _ _ _ ?_; simp (maxSteps := 1000000) only [ptrL, lenV, Bool.not_true, Bool.not_false, lookR, valOf, asGrow, jump, findA, restA, and, Nat.reduceAdd, Nat.reduceSub, Nat.reduceMul, Int.reduceToNat, eval, nf, nfO, opN, appTo, rowsV, getL, setL, getO, setO, snocO, lenO, putL, ev, evs, ifEq, killV, killL, kill1, kill1L, kill, kills, killO, killOs, bin, binI, binS, binB, eq1, eqB, lit, sameK, kn, unI, mxA, mnA, mkAgg, fits, partN, partA, resN, retV, allVal, isVal, allCell, isCell, okVal, okCell, cellsOf, fillN, rowsN, cellsN, bnd, lohi, offAt, overL, segL, leave, NodeOK, List.cons_append, List.nil_append, List.append_nil, catA, anys, lenA])
  simp only [decide_eq_true_eq, decide_eq_false_iff_not]
  refine ⟨fun h1 => ?_, fun h1 => ?_⟩
  · have e : someB L c = (L, [], 2) := by unfold someB; rw [if_pos h1]
    rw [e]
    refine ⟨[], rfl, _, _, ?_, ?_, .inl ⟨rfl, rfl, rfl⟩⟩ <;> simp [Wk, mtc, mtcS, mtcSL, mtc0, mtc0L, mtcL, mtcO, mtcOs, cutM, takeE, stA, rl, renV, renL, ren1, ren1L, ren, rens, renO, Nat.blt, lenO, getO, setO, setL, anys, okS, endM, endH, idxN, takeE, pickE, catO, rl, renV, renL, ren1, ren1L, ren, rens, renO, Nat.blt, lenO, getO, setO, setL, anys, rfC, rfB]
  ((repeat (with_reducible refine And.intro ?_ ?_; focus (simp; done))); refine aw_call (hfr) [0, 1] rfl (by simp [upM, nthN, matchO, rens, ren, ren1, ren1L, renL, renV, renO, rl, lenO, getO, Nat.blt, mtc, mtcS, mtcSL, mtc0, mtc0L, rfC, rfB]) rfl (by simp [upM, nthN, matchO, rens, ren, ren1, ren1L, renL, renV, renO, rl, lenO, getO, Nat.blt, mtc, mtcS, mtcSL, mtc0, mtc0L, rfC, rfB]) rfl (fun r hs hp hl => ?_); obtain ⟨rfl, rfl⟩ := hp; simp only [snocO, upM, nthN, putAll, snocAll, killsA, killOsA, grows, putL, rl, renV, renL, ren1, ren1L, ren, rens, renO, Nat.blt, lenO, getO, setO, setL, anys, rfC, rfB]; (refine eval_sound 2000 _ _ _ ?_; simp (maxSteps := 1000000) only [ptrL, lenV, Bool.not_true, Bool.not_false, lookR, valOf, asGrow, jump, findA, restA, and, Nat.reduceAdd, Nat.reduceSub, Nat.reduceMul, Int.reduceToNat, eval, nf, nfO, opN, appTo, rowsV, getL, setL, getO, setO, snocO, lenO, putL, ev, evs, ifEq, killV, killL, kill1, kill1L, kill, kills, killO, killOs, bin, binI, binS, binB, eq1, eqB, lit, sameK, kn, unI, mxA, mnA, mkAgg, fits, partN, partA, resN, retV, allVal, isVal, allCell, isCell, okVal, okCell, cellsOf, fillN, rowsN, cellsN, bnd, lohi, offAt, overL, segL, leave, NodeOK, List.cons_append, List.nil_append, List.append_nil, catA, anys, lenA]))
  simp only [decide_eq_true_eq, decide_eq_false_iff_not]
  refine ⟨fun h2 => ?_, fun h2 => ?_⟩
  · have e : someB L c = (L, [], 31) := by unfold someB; rw [if_neg h1, if_pos (by omega)]
    rw [e]
    refine ⟨[], rfl, _, _, ?_, ?_, .inl ⟨rfl, rfl, rfl⟩⟩ <;> simp [Wk, mtc, mtcS, mtcSL, mtc0, mtc0L, mtcL, mtcO, mtcOs, cutM, takeE, stA, rl, renV, renL, ren1, ren1L, ren, rens, renO, Nat.blt, lenO, getO, setO, setL, anys, okS, endM, endH, idxN, takeE, pickE, catO, rl, renV, renL, ren1, ren1L, ren, rens, renO, Nat.blt, lenO, getO, setO, setL, anys, rfC, rfB]
  obtain ⟨n, rfl⟩ : ∃ n : Nat, c = n := ⟨c.toNat, by omega⟩
  have e : someB L n = ((tkB L n).1, (tkB L n).2, 0) := by unfold someB; rw [if_neg h1, if_neg (by omega), Int.toNat_natCast]
  rw [e]
  refine aw_trans (trans_nil 6 3 1 (by simp) rfl) ?_
  simp only [lenO, snocO, setL]
  (refine eval_sound 2000 _ _ _ ?_; simp (maxSteps := 1000000) only [ptrL, lenV, Bool.not_true, Bool.not_false, lookR, valOf, asGrow, jump, findA, restA, and, Nat.reduceAdd, Nat.reduceSub, Nat.reduceMul, Int.reduceToNat, eval, nf, nfO, opN, appTo, rowsV, getL, setL, getO, setO, snocO, lenO, putL, ev, evs, ifEq, killV, killL, kill1, kill1L, kill, kills, killO, killOs, bin, binI, binS, binB, eq1, eqB, lit, sameK, kn, unI, mxA, mnA, mkAgg, fits, partN, partA, resN, retV, allVal, isVal, allCell, isCell, okVal, okCell, cellsOf, fillN, rowsN, cellsN, bnd, lohi, offAt, overL, segL, leave, NodeOK, List.cons_append, List.nil_append, List.append_nil, catA, anys, lenA])
  refine aw_loopU (α := Nat) (fun k => k ≤ n) (fun k => [(6, .own 2)]) (fun k => [(1, .arr 4 (bC (tkB L k).1)), (2, .grow 3 1 (intR (tkB L k).2))]) (fun k => n - k) (0) (Nat.zero_le _) ?_ fun k hk => ?_
  · (simp only [wrC, wrOs, keepT, memN, setsL, setsO, setL, setO, snocO, List.cons_append, List.nil_append, List.append_nil, Nat.reduceAdd, Nat.zero_add, Wk, mtc, mtcS, mtcSL, mtc0, mtc0L, mtcL, mtcO, mtcOs, cutM, takeE, stA, rl, renV, renL, ren1, ren1L, ren, rens, renO, Nat.blt, lenO, getO, setO, setL, anys, rfC, rfB, tkB, intR]; simp [rfC, rfB, tkB, intR])
  obtain ⟨t1, t2⟩ := tkB_len L k
  have hlen : (intR (tkB L k).2).length = k := by unfold intR; rw [List.length_map, t2]
  (simp only [wrC, wrOs, keepT, memN, setsL, setsO, setL, setO, snocO, List.cons_append, List.nil_append, List.append_nil, Nat.reduceAdd, Nat.zero_add, rfC, rfB]; (refine eval_sound 2000 _ _ _ ?_; simp (maxSteps := 1000000) only [ptrL, lenV, Bool.not_true, Bool.not_false, lookR, valOf, asGrow, jump, findA, restA, and, Nat.reduceAdd, Nat.reduceSub, Nat.reduceMul, Int.reduceToNat, eval, nf, nfO, opN, appTo, rowsV, getL, setL, getO, setO, snocO, lenO, putL, ev, evs, ifEq, killV, killL, kill1, kill1L, kill, kills, killO, killOs, bin, binI, binS, binB, eq1, eqB, lit, sameK, kn, unI, mxA, mnA, mkAgg, fits, partN, partA, resN, retV, allVal, isVal, allCell, isCell, okVal, okCell, cellsOf, fillN, rowsN, cellsN, bnd, lohi, offAt, overL, segL, leave, NodeOK, List.cons_append, List.nil_append, List.append_nil, catA, anys, lenA]))
  simp only [decide_eq_true_eq, decide_eq_false_iff_not, hlen]
  refine ⟨fun h3 => ?_, fun h3 => ?_⟩
  · have ht := rtake_c (tkB L k).1 (by rw [t1]; exact hL)
    have hs1 : tkB L (k + 1) = ((takeB (tkB L k).1).1, (tkB L k).2 ++ [(takeB (tkB L k).1).2.1]) := rfl
    rw [t1] at ht
    generalize takeB (tkB L k).1 = X at *
    ((repeat (with_reducible refine And.intro ?_ ?_; focus (simp; done))); refine aw_call (ht) [0, 1] rfl (by simp [upM, nthN, matchO, rens, ren, ren1, ren1L, renL, renV, renO, rl, lenO, getO, Nat.blt, mtc, mtcS, mtcSL, mtc0, mtc0L, rfC, rfB]) rfl (by simp [upM, nthN, matchO, rens, ren, ren1, ren1L, renL, renV, renO, rl, lenO, getO, Nat.blt, mtc, mtcS, mtcSL, mtc0, mtc0L, rfC, rfB]) rfl (fun r hs hp hl => ?_); obtain ⟨rfl, rfl⟩ := hp; simp only [snocO, upM, nthN, putAll, snocAll, killsA, killOsA, grows, putL, rl, renV, renL, ren1, ren1L, ren, rens, renO, Nat.blt, lenO, getO, setO, setL, anys, rfC, rfB]; (refine eval_sound 2000 _ _ _ ?_; simp (maxSteps := 1000000) only [ptrL, lenV, Bool.not_true, Bool.not_false, lookR, valOf, asGrow, jump, findA, restA, and, Nat.reduceAdd, Nat.reduceSub, Nat.reduceMul, Int.reduceToNat, eval, nf, nfO, opN, appTo, rowsV, getL, setL, getO, setO, snocO, lenO, putL, ev, evs, ifEq, killV, killL, kill1, kill1L, kill, kills, killO, killOs, bin, binI, binS, binB, eq1, eqB, lit, sameK, kn, unI, mxA, mnA, mkAgg, fits, partN, partA, resN, retV, allVal, isVal, allCell, isCell, okVal, okCell, cellsOf, fillN, rowsN, cellsN, bnd, lohi, offAt, overL, segL, leave, NodeOK, List.cons_append, List.nil_append, List.append_nil, catA, anys, lenA]))
    (repeat (with_reducible refine And.intro ?_ ?_; focus (simp; done)))
    refine ⟨by simp [hlen]; omega, k + 1, by omega, by omega, ?_⟩
    rw [hs1, intR_snoc]
    (simp only [wrC, wrOs, keepT, memN, setsL, setsO, setL, setO, snocO, List.cons_append, List.nil_append, List.append_nil, Nat.reduceAdd, Nat.zero_add, Wk, mtc, mtcS, mtcSL, mtc0, mtc0L, mtcL, mtcO, mtcOs, cutM, takeE, stA, rl, renV, renL, ren1, ren1L, ren, rens, renO, Nat.blt, lenO, getO, setO, setL, anys, rfC, rfB]; simp [rfC, rfB])
  · obtain rfl : k = n := by omega
    refine ⟨[2], rfl, _, _, ?_, ?_, .inr ⟨rfl, rfl⟩⟩ <;> simp [Wk, mtc, mtcS, mtcSL, mtc0, mtc0L, mtcL, mtcO, mtcOs, cutM, takeE, stA, rl, renV, renL, ren1, ren1L, ren, rens, renO, Nat.blt, lenO, getO, setO, setL, anys, okS, endM, endH, idxN, takeE, pickE, catO, rl, renV, renL, ren1, ren1L, ren, rens, renO, Nat.blt, lenO, getO, setO, setL, anys, rfC, rfB]
theorem rsome_c (L : List Bool) (hL : L.length ≤ 65536) (c : Int) : ACalls Tryd.prog 15 [.ptr 0 0, .int .i64 c] [rfC L.length, rfB L] (fun r hs => r = .tup [.ro 1 (intR (someB L c).2.1), .int .i64 (someB L c).2.2] ∧ hs = [rfC L.length, rfB (someB L c).1]) := by
  refine acalls_tr (rsome0 L hL c) fun r hs h => ?_
  rcases h with ⟨rfl, rfl, h3⟩ | ⟨rfl, rfl⟩
  · rw [h3]
    exact ⟨_, _, _, _, _, trans_id, by simp [Wk, mtc, mtcS, mtcSL, mtc0, mtc0L, mtcL, mtcO, mtcOs, cutM, takeE, stA, rl, renV, renL, ren1, ren1L, ren, rens, renO, Nat.blt, lenO, getO, setO, setL, anys, rfC, rfB, intR], rfl, rfl⟩
  · exact ⟨_, _, _, _, _, trans_frz 2 _ _ _ rfl, by simp [snocO, mapA, frz, frz1, frzV, mapO, frzO, ifEq, setO, getO, getL, setL, Wk, mtc, mtcS, mtcSL, mtc0, mtc0L, mtcL, mtcO, mtcOs, cutM, takeE, stA, rl, renV, renL, ren1, ren1L, ren, rens, renO, Nat.blt, lenO, getO, setO, setL, anys, frz, frz1, frzV, frzO, rfC, rfB], rfl, rfl⟩
theorem psome0 (M c N : Nat) (W : List Nat) (L : List Bool) (k : Int) (hM : M ≤ 1000) (hn : N ≤ M * 256) (h : RelW N M W L) : ACalls Tryd.prog 14 [.ptr 0 0, .int .i64 k] [alC M c N (frB L : Nat), alW W]
    (fun r hs => ∃ V, RelW N M V (someB L k).1 ∧ ((r = .tup [.nils, .int .i64 (someB L k).2.2] ∧ hs = [alC M c N (frB (someB L k).1 : Nat), alW V] ∧ (someB L k).2.1 = []) ∨ (r = .tup [.own 2, .int .i64 (someB L k).2.2] ∧ hs = [alC M c N (frB (someB L k).1 : Nat), alW V, .grow 3 1 (intR (someB L k).2.1)]))) := by
  have hle := h.fr
  have hfE : ∃ f : Nat, f = frB L := ⟨_, rfl⟩
  obtain ⟨f, hf⟩ := hfE
  refine acalls_weak (acalls_of (fn := Tryd.f14) (A := a14) Tryd.func14 ok_14 en_14 ?_)
  dsimp only [a14, alC, alW]
  (refine eval_sound 2000 _ _ _ ?_; simp (maxSteps := 1000000) only [ptrL, lenV, Bool.not_true, Bool.not_false, lookR, valOf, asGrow, jump, findA, restA, and, Nat.reduceAdd, Nat.reduceSub, Nat.reduceMul, Int.reduceToNat, eval, nf, nfO, opN, appTo, rowsV, getL, setL, getO, setO, snocO, lenO, putL, ev, evs, ifEq, killV, killL, kill1, kill1L, kill, kills, killO, killOs, bin, binI, binS, binB, eq1, eqB, lit, sameK, kn, unI, mxA, mnA, mkAgg, fits, partN, partA, resN, retV, allVal, isVal, allCell, isCell, okVal, okCell, cellsOf, fillN, rowsN, cellsN, bnd, lohi, offAt, overL, segL, leave, NodeOK, List.cons_append, List.nil_append, List.append_nil, catA, anys, lenA])
  simp only [decide_eq_true_eq, decide_eq_false_iff_not]
  refine ⟨fun h1 => ?_, fun h1 => ⟨fun h2 => ?_, fun h2 => ?_⟩⟩
  · have e : someB L k = (L, [], 2) := by unfold someB; rw [if_pos h1]
    rw [e]
    refine ⟨[], rfl, _, _, ?_, ?_, W, h, .inl ⟨rfl, rfl, rfl⟩⟩ <;> simp [Wk, mtc, mtcS, mtcSL, mtc0, mtc0L, mtcL, mtcO, mtcOs, cutM, takeE, stA, rl, renV, renL, ren1, ren1L, ren, rens, renO, Nat.blt, lenO, getO, setO, setL, anys, okS, endM, endH, idxN, takeE, pickE, catO, rl, renV, renL, ren1, ren1L, ren, rens, renO, Nat.blt, lenO, getO, setO, setL, anys, alC, alW]
  · have e : someB L k = (L, [], 31) := by unfold someB; rw [if_neg h1, if_pos (by omega)]
    rw [e]
    refine ⟨[], rfl, _, _, ?_, ?_, W, h, .inl ⟨rfl, rfl, rfl⟩⟩ <;> simp [Wk, mtc, mtcS, mtcSL, mtc0, mtc0L, mtcL, mtcO, mtcOs, cutM, takeE, stA, rl, renV, renL, ren1, ren1L, ren, rens, renO, Nat.blt, lenO, getO, setO, setL, anys, okS, endM, endH, idxN, takeE, pickE, catO, rl, renV, renL, ren1, ren1L, ren, rens, renO, Nat.blt, lenO, getO, setO, setL, anys, alC, alW]
  obtain ⟨n, rfl⟩ : ∃ n : Nat, k = n := ⟨k.toNat, by omega⟩
  have e : someB L n = ((tkB L n).1, (tkB L n).2, 0) := by unfold someB; rw [if_neg h1, if_neg (by omega), Int.toNat_natCast]
  rw [e]
  refine ⟨⟨by omega, by omega, by omega⟩, ?_⟩
  refine aw_loopU (α := Nat × List Nat) (fun s => s.1 ≤ n ∧ RelW N M s.2 (tkB L s.1).1) (fun s => [(25, .int .i64 (s.1 : Nat)), (6, .own 2)]) (fun s => [(0, .cells 52 [.sl 1 0 M c, .int .i64 N, .int .i64 (frB (tkB L s.1).1 : Nat)]), (1, .arr 63 (wA s.2)), (2, .grow 3 1 (intR (tkB L s.1).2))]) (fun s => n - s.1) ((0, W)) (⟨Nat.zero_le _, h⟩) ?_ fun s hs => ?_
  · (simp only [wrC, wrOs, keepT, memN, setsL, setsO, setL, setO, snocO, List.cons_append, List.nil_append, List.append_nil, Nat.reduceAdd, Nat.zero_add, Wk, mtc, mtcS, mtcSL, mtc0, mtc0L, mtcL, mtcO, mtcOs, cutM, takeE, stA, rl, renV, renL, ren1, ren1L, ren, rens, renO, Nat.blt, lenO, getO, setO, setL, anys, alC, alW, tkB, intR]; simp [alC, alW, tkB, intR])
  obtain ⟨j, V⟩ := s
  obtain ⟨s1, s2⟩ := hs
  simp only [] at s1 s2
  obtain ⟨t1, t2⟩ := tkB_len L j
  have hlen : (intR (tkB L j).2).length = j := by unfold intR; rw [List.length_map, t2]
  (simp only [wrC, wrOs, keepT, memN, setsL, setsO, setL, setO, snocO, List.cons_append, List.nil_append, List.append_nil, Nat.reduceAdd, Nat.zero_add, alC, alW]; (refine eval_sound 2000 _ _ _ ?_; simp (maxSteps := 1000000) only [ptrL, lenV, Bool.not_true, Bool.not_false, lookR, valOf, asGrow, jump, findA, restA, and, Nat.reduceAdd, Nat.reduceSub, Nat.reduceMul, Int.reduceToNat, eval, nf, nfO, opN, appTo, rowsV, getL, setL, getO, setO, snocO, lenO, putL, ev, evs, ifEq, killV, killL, kill1, kill1L, kill, kills, killO, killOs, bin, binI, binS, binB, eq1, eqB, lit, sameK, kn, unI, mxA, mnA, mkAgg, fits, partN, partA, resN, retV, allVal, isVal, allCell, isCell, okVal, okCell, cellsOf, fillN, rowsN, cellsN, bnd, lohi, offAt, overL, segL, leave, NodeOK, List.cons_append, List.nil_append, List.append_nil, catA, anys, lenA]))
  simp only [decide_eq_true_eq, decide_eq_false_iff_not]
  refine ⟨fun h3 => ?_, fun h3 => ?_⟩
  · have ht := ptake_c M c N V (tkB L j).1 hM hn s2
    have hs1 : tkB L (j + 1) = ((takeB (tkB L j).1).1, (tkB L j).2 ++ [(takeB (tkB L j).1).2.1]) := rfl
    have wk : IntKind.i64.wrap ((j : Int) + 1) = ((j + 1 : Nat) : Int) := by rw [wr64 (by omega) (by omega)]; rfl
    generalize takeB (tkB L j).1 = X at *
    ((repeat (with_reducible refine And.intro ?_ ?_; focus (simp; done))); refine aw_call (ht) [0, 1] rfl (by simp [upM, nthN, matchO, rens, ren, ren1, ren1L, renL, renV, renO, rl, lenO, getO, Nat.blt, mtc, mtcS, mtcSL, mtc0, mtc0L, alC, alW]) rfl (by simp [upM, nthN, matchO, rens, ren, ren1, ren1L, renL, renV, renO, rl, lenO, getO, Nat.blt, mtc, mtcS, mtcSL, mtc0, mtc0L, alC, alW]) rfl (fun r hs hp hl => ?_); obtain ⟨V2, v1, rfl, rfl⟩ := hp; simp only [snocO, upM, nthN, putAll, snocAll, killsA, killOsA, grows, putL, rl, renV, renL, ren1, ren1L, ren, rens, renO, Nat.blt, lenO, getO, setO, setL, anys, alC, alW]; (refine eval_sound 2000 _ _ _ ?_; simp (maxSteps := 1000000) only [ptrL, lenV, Bool.not_true, Bool.not_false, lookR, valOf, asGrow, jump, findA, restA, and, Nat.reduceAdd, Nat.reduceSub, Nat.reduceMul, Int.reduceToNat, eval, nf, nfO, opN, appTo, rowsV, getL, setL, getO, setO, snocO, lenO, putL, ev, evs, ifEq, killV, killL, kill1, kill1L, kill, kills, killO, killOs, bin, binI, binS, binB, eq1, eqB, lit, sameK, kn, unI, mxA, mnA, mkAgg, fits, partN, partA, resN, retV, allVal, isVal, allCell, isCell, okVal, okCell, cellsOf, fillN, rowsN, cellsN, bnd, lohi, offAt, overL, segL, leave, NodeOK, List.cons_append, List.nil_append, List.append_nil, catA, anys, lenA]))
    (repeat (with_reducible refine And.intro ?_ ?_; focus (simp; done)))
    rw [wk]
    refine ⟨by simp [hlen]; omega, (j + 1, V2), ⟨by simp only []; omega, by simp only []; rw [hs1]; exact v1⟩, by simp only []; omega, ?_⟩
    simp only []
    rw [hs1, intR_snoc]
    (simp only [wrC, wrOs, keepT, memN, setsL, setsO, setL, setO, snocO, List.cons_append, List.nil_append, List.append_nil, Nat.reduceAdd, Nat.zero_add, Wk, mtc, mtcS, mtcSL, mtc0, mtc0L, mtcL, mtcO, mtcOs, cutM, takeE, stA, rl, renV, renL, ren1, ren1L, ren, rens, renO, Nat.blt, lenO, getO, setO, setL, anys, alC, alW]; simp [alC, alW])
  · obtain rfl : j = n := by omega
    refine ⟨[2], rfl, _, _, ?_, ?_, V, s2, .inr ⟨rfl, rfl⟩⟩ <;> simp [Wk, mtc, mtcS, mtcSL, mtc0, mtc0L, mtcL, mtcO, mtcOs, cutM, takeE, stA, rl, renV, renL, ren1, ren1L, ren, rens, renO, Nat.blt, lenO, getO, setO, setL, anys, okS, endM, endH, idxN, takeE, pickE, catO, rl, renV, renL, ren1, ren1L, ren, rens, renO, Nat.blt, lenO, getO, setO, setL, anys, alC, alW]
theorem psome_c (M c N : Nat) (W : List Nat) (L : List Bool) (k : Int) (hM : M ≤ 1000) (hn : N ≤ M * 256) (h : RelW N M W L) : ACalls Tryd.prog 14 [.ptr 0 0, .int .i64 k] [alC M c N (frB L : Nat), alW W]
    (fun r hs => ∃ V, RelW N M V (someB L k).1 ∧ r = .tup [.ro 1 (intR (someB L k).2.1), .int .i64 (someB L k).2.2] ∧ hs = [alC M c N (frB (someB L k).1 : Nat), alW V]) := by
  refine acalls_tr (psome0 M c N W L k hM hn h) fun r hs h => ?_
  obtain ⟨V, v1, h⟩ := h
  rcases h with ⟨rfl, rfl, h3⟩ | ⟨rfl, rfl⟩
  · rw [h3]
    exact ⟨_, _, _, _, _, trans_id, by simp [Wk, mtc, mtcS, mtcSL, mtc0, mtc0L, mtcL, mtcO, mtcOs, cutM, takeE, stA, rl, renV, renL, ren1, ren1L, ren, rens, renO, Nat.blt, lenO, getO, setO, setL, anys, alC, alW, intR], V, v1, rfl, rfl⟩
  · exact ⟨_, _, _, _, _, trans_frz 2 _ _ _ rfl, by simp [snocO, mapA, frz, frz1, frzV, mapO, frzO, ifEq, setO, getO, getL, setL, Wk, mtc, mtcS, mtcSL, mtc0, mtc0L, mtcL, mtcO, mtcOs, cutM, takeE, stA, rl, renV, renL, ren1, ren1L, ren, rens, renO, Nat.blt, lenO, getO, setO, setL, anys, frz, frz1, frzV, frzO, alC, alW], V, v1, rfl, rfl⟩
theorem wA_app (A B : List Nat) : wA (A ++ B) = wA A ++ wA B := List.map_append
theorem wA_any (n : Nat) : wA (List.replicate n 18446744073709551616) = List.replicate n .any := by
  unfold wA
  rw [List.map_replicate]
  congr 1
theorem rows_flat (l : List AV) (k : Nat) : ∀ M, M * k ≤ l.length → ((List.range M).map fun i => seg l (0 + i * k) k).flatten = l.take (M * k)
  | 0, _ => by simp
  | M + 1, h => by
    rw [Nat.add_mul] at h
    rw [List.range_succ, List.map_append, List.flatten_append, rows_flat l k M (by omega), Nat.add_mul, Nat.one_mul, List.take_add]
    simp [seg]
theorem sclone_c (M c : Nat) (W : List Nat) (hM : 1 ≤ M) (hM2 : M ≤ 1000) (hc : M ≤ c) (hW : WOKs M W) : ACalls Tryd.prog 27 [.sl 0 0 M c] [alW W] (fun r hs => r = .own 1 ∧ hs = [alW W, .grow 63 4 ((List.range M).map fun i => seg (wA W) (0 + i * 4) 4)]) := by
  have hl := hW.len
  refine acalls_weak (acalls_of (fn := Tryd.f27) (A := a27) Tryd.func27 ok_27 en_27 ?_)
  dsimp only [a27, alC, alW]
  (refine eval_sound 2000 _ _ _ ?_; simp (maxSteps := 1000000) only [ptrL, lenV, Bool.not_true, Bool.not_false, lookR, valOf, asGrow, jump, findA, restA, and, Nat.reduceAdd, Nat.reduceSub, Nat.reduceMul, Int.reduceToNat, eval, nf, nfO, opN, appTo, rowsV, getL, setL, getO, setO, snocO, lenO, putL, ev, evs, ifEq, killV, killL, kill1, kill1L, kill, kills, killO, killOs, bin, binI, binS, binB, eq1, eqB, lit, sameK, kn, unI, mxA, mnA, mkAgg, fits, partN, partA, resN, retV, allVal, isVal, allCell, isCell, okVal, okCell, cellsOf, fillN, rowsN, cellsN, bnd, lohi, offAt, overL, segL, leave, NodeOK, List.cons_append, List.nil_append, List.append_nil, catA, anys, lenA])
  have hlw : (wA W).length = W.length := List.length_map _
  refine ⟨⟨by omega, hc⟩, by simp; omega, ?_⟩
  refine ⟨[1], rfl, _, _, ?_, ?_, rfl, rfl⟩ <;> simp [Wk, mtc, mtcS, mtcSL, mtc0, mtc0L, mtcL, mtcO, mtcOs, cutM, takeE, stA, rl, renV, renL, ren1, ren1L, ren, rens, renO, Nat.blt, lenO, getO, setO, setL, anys, okS, endM, endH, idxN, takeE, pickE, catO, rl, renV, renL, ren1, ren1L, ren, rens, renO, Nat.blt, lenO, getO, setO, setL, anys, alW]
def cpW (M c : Nat) (W : List Nat) : List Nat := W.take (M * 4) ++ List.replicate (c * 4 - M * 4) 18446744073709551616
theorem cpW_getD {M c j : Nat} {W : List Nat} (hj : j < M * 4) (hl : M * 4 ≤ W.length) : (cpW M c W).getD j 0 = W.getD j 0 := by
  unfold cpW
  rw [List.getD_eq_getElem?_getD, List.getD_eq_getElem?_getD, List.getElem?_append_left (by rw [List.length_take]; omega), List.getElem?_take_of_lt hj]
theorem cpW_rel {N M c : Nat} {W : List Nat} {L : List Bool} (h : RelW N M W L) (hn : N ≤ M * 256) : RelW N M (cpW M c W) L := by
  have hl := h.ok.len
  have hh : ∀ p, p < M * 256 → hasW (cpW M c W) p = hasW W p := fun p hp => by unfold hasW; rw [cpW_getD (by omega) hl]
  refine ⟨⟨?_, fun j hj => ?_⟩, h.len, fun p hp => by rw [hh p (by omega)]; exact h.has p hp, fun p h1 h2 => by rw [hh p h2]; exact h.out p h1 h2⟩
  · unfold cpW; rw [List.length_append, List.length_take]; omega
  · rw [cpW_getD hj hl]; exact h.ok.lt j hj
theorem clone_c (M c : Nat) (n f : Int) (W : List Nat) (hM : 1 ≤ M) (hM2 : M ≤ 1000) (hc : M ≤ c) (hW : WOKs M W) : ACalls Tryd.prog 20 [.ptr 0 0] [alC M c n f, alW W] (fun r hs => ∃ d, M ≤ d ∧ r = .ptr 3 0 ∧ hs = [alC M c n f, alW W, alW (cpW M d W), .cells 52 [.sl 2 0 M d, .int .i64 n, .int .i64 f]]) := by
  have hl := hW.len
  have hlw : (wA W).length = W.length := List.length_map _
  have hcl := sclone_c M c W hM hM2 hc hW
  have hfl := rows_flat (wA W) 4 M (by omega)
  have hlen : ((List.range M).map fun i => seg (wA W) (0 + i * 4) 4).length = M := by simp
  generalize ((List.range M).map fun i => seg (wA W) (0 + i * 4) 4) = R at *
  refine acalls_weak (acalls_of (fn := Tryd.f20) (A := a20) Tryd.func20 ok_20 en_20 ?_)
  dsimp only [a20, alC, alW]
  (refine eval_sound 2000 _ _ _ ?_; simp (maxSteps := 1000000) only [ptrL, lenV, Bool.not_true, Bool.not_false, lookR, valOf, asGrow, jump, findA, restA, and, Nat.reduceAdd, Nat.reduceSub, Nat.reduceMul, Int.reduceToNat, eval, nf, nfO, opN, appTo, rowsV, getL, setL, getO, setO, snocO, lenO, putL, ev, evs, ifEq, killV, killL, kill1, kill1L, kill, kills, killO, killOs, bin, binI, binS, binB, eq1, eqB, lit, sameK, kn, unI, mxA, mnA, mkAgg, fits, partN, partA, resN, retV, allVal, isVal, allCell, isCell, okVal, okCell, cellsOf, fillN, rowsN, cellsN, bnd, lohi, offAt, overL, segL, leave, NodeOK, List.cons_append, List.nil_append, List.append_nil, catA, anys, lenA])
  refine aw_dregA (show Tryd.prog.follows .mixedOrders = true by kernel_rfl) 4 [(4, ⟨.own 2, [], [(2, 4, .grow 63 4 R)], [1]⟩), (14, ⟨.ptr 3 0, [], [(3, 4, .cells 52 [.own 2, .int .i64 n, .int .i64 f])], []⟩)] ?_ ?_ ?_
  · kernel_rfl
  · (simp only [tkO, dpO, tkN, AllOps, OpOK, mkR, autoV, autoR, labV, lkD, vOf, preT, preO, setTs, preV, wrt, memN, usesO, usesT, opT, optT, opsT, ptsT, setHs, objF, updD, newO, lkO, lkF, keysO, keysF, visN, deads, getL, setL, getO, setO, lenO, lenA, anys, setDs, setWr, setFr, endO, catD, List.getD_cons_zero, List.getD_cons_succ, List.getElem?_cons_zero, List.getElem?_cons_succ, List.cons_append, List.nil_append, List.append_nil, Nat.reduceAdd, Nat.reduceSub, ptrL, lenV, Bool.not_true, Bool.not_false, lookR, valOf, asGrow, jump, findA, restA, and, Nat.reduceAdd, Nat.reduceSub, Nat.reduceMul, Int.reduceToNat, eval, nf, nfO, opN, appTo, rowsV, getL, setL, getO, setO, snocO, lenO, putL, ev, evs, ifEq, killV, killL, kill1, kill1L, kill, kills, killO, killOs, bin, binI, binS, binB, eq1, eqB, lit, sameK, kn, unI, mxA, mnA, mkAgg, fits, partN, partA, resN, retV, allVal, isVal, allCell, isCell, okVal, okCell, cellsOf, fillN, rowsN, cellsN, bnd, lohi, offAt, overL, segL, leave, NodeOK, List.cons_append, List.nil_append, List.append_nil, catA, anys, lenA]; and_intros) <;> (first | exact trivial | ((refine eval_sound 2000 _ _ _ ?_; simp (maxSteps := 1000000) only [ptrL, lenV, Bool.not_true, Bool.not_false, lookR, valOf, asGrow, jump, findA, restA, and, Nat.reduceAdd, Nat.reduceSub, Nat.reduceMul, Int.reduceToNat, eval, nf, nfO, opN, appTo, rowsV, getL, setL, getO, setO, snocO, lenO, putL, ev, evs, ifEq, killV, killL, kill1, kill1L, kill, kills, killO, killOs, bin, binI, binS, binB, eq1, eqB, lit, sameK, kn, unI, mxA, mnA, mkAgg, fits, partN, partA, resN, retV, allVal, isVal, allCell, isCell, okVal, okCell, cellsOf, fillN, rowsN, cellsN, bnd, lohi, offAt, overL, segL, leave, NodeOK, List.cons_append, List.nil_append, List.append_nil, catA, anys, lenA]); try simp only [JR, dstOK, wrOK, frOK, rdOK, getL, getO]; try simp only [JR, dstOK, wrOK, frOK, rdOK, sig, sigF, isGrowB, mtc, mtcS, mtcSL, mtc0, mtc0L, mtcO, mtcL, memN, Nat.blt, rl, renV, renL, ren1, ren1L, ren, rens, renO, Nat.blt, lenO, getO, setO, setL, anys]; try simp))
    (refine aw_call (hcl) [1] rfl (by simp [upM, nthN, matchO, rens, ren, ren1, ren1L, renL, renV, renO, rl, lenO, getO, Nat.blt, mtc, mtcS, mtcSL, mtc0, mtc0L, alC, alW]) rfl (by simp [upM, nthN, matchO, rens, ren, ren1, ren1L, renL, renV, renO, rl, lenO, getO, Nat.blt, mtc, mtcS, mtcSL, mtc0, mtc0L, alC, alW]) rfl (fun r hs hp hl => ?_); obtain ⟨rfl, rfl⟩ := hp; simp only [snocO, upM, nthN, putAll, snocAll, killsA, killOsA, grows, putL, rl, renV, renL, ren1, ren1L, ren, rens, renO, Nat.blt, lenO, getO, setO, setL, anys, alC, alW]; (refine eval_sound 2000 _ _ _ ?_; simp (maxSteps := 1000000) only [ptrL, lenV, Bool.not_true, Bool.not_false, lookR, valOf, asGrow, jump, findA, restA, and, Nat.reduceAdd, Nat.reduceSub, Nat.reduceMul, Int.reduceToNat, eval, nf, nfO, opN, appTo, rowsV, getL, setL, getO, setO, snocO, lenO, putL, ev, evs, ifEq, killV, killL, kill1, kill1L, kill, kills, killO, killOs, bin, binI, binS, binB, eq1, eqB, lit, sameK, kn, unI, mxA, mnA, mkAgg, fits, partN, partA, resN, retV, allVal, isVal, allCell, isCell, okVal, okCell, cellsOf, fillN, rowsN, cellsN, bnd, lohi, offAt, overL, segL, leave, NodeOK, List.cons_append, List.nil_append, List.append_nil, catA, anys, lenA]); (try simp only [JR, dstOK, wrOK, frOK, rdOK, getL, getO]); (try simp only [JR, dstOK, wrOK, frOK, rdOK, sig, sigF, isGrowB, mtc, mtcS, mtcSL, mtc0, mtc0L, mtcO, mtcL, memN, Nat.blt, rl, renV, renL, ren1, ren1L, ren, rens, renO, Nat.blt, lenO, getO, setO, setL, anys, alC, alW]); try simp)
  · simp only [tkO, dpO, tkN, AllOps, OpOK, mkR, autoV, autoR, labV, lkD, vOf, preT, preO, setTs, preV, wrt, memN, usesO, usesT, opT, optT, opsT, ptsT, setHs, objF, updD, newO, lkO, lkF, keysO, keysF, visN, deads, getL, setL, getO, setO, lenO, lenA, anys, setDs, setWr, setFr, endO, catD, List.getD_cons_zero, List.getD_cons_succ, List.getElem?_cons_zero, List.getElem?_cons_succ, List.cons_append, List.nil_append, List.append_nil, Nat.reduceAdd, Nat.reduceSub, ptrL, lenV, Bool.not_true, Bool.not_false, lookR, valOf, asGrow, jump, findA, restA, and, Nat.reduceAdd, Nat.reduceSub, Nat.reduceMul, Int.reduceToNat, eval, nf, nfO, opN, appTo, rowsV, getL, setL, getO, setO, snocO, lenO, putL, ev, evs, ifEq, killV, killL, kill1, kill1L, kill, kills, killO, killOs, bin, binI, binS, binB, eq1, eqB, lit, sameK, kn, unI, mxA, mnA, mkAgg, fits, partN, partA, resN, retV, allVal, isVal, allCell, isCell, okVal, okCell, cellsOf, fillN, rowsN, cellsN, bnd, lohi, offAt, overL, segL, leave, NodeOK, List.cons_append, List.nil_append, List.append_nil, catA, anys, lenA]
    refine aw_sl 2 _ 4 R rfl (by omega) fun d hd => ?_
    have hw : R.flatten ++ List.replicate (d * 4 - R.length * 4) AV.any = wA (cpW M d W) := by
      unfold cpW
      rw [wA_app, wA_any, hfl, hlen]
      congr 1
      unfold wA
      rw [List.map_take]
    rw [hw, hlen]
    rw [hlen] at hd
    simp only [snocO, mapA, frz, frz1, frzV, mapO, frzO, ifEq, setO, getO, getL, setL]
    (refine eval_sound 2000 _ _ _ ?_; simp (maxSteps := 1000000) only [ptrL, lenV, Bool.not_true, Bool.not_false, lookR, valOf, asGrow, jump, findA, restA, and, Nat.reduceAdd, Nat.reduceSub, Nat.reduceMul, Int.reduceToNat, eval, nf, nfO, opN, appTo, rowsV, getL, setL, getO, setO, snocO, lenO, putL, ev, evs, ifEq, killV, killL, kill1, kill1L, kill, kills, killO, killOs, bin, binI, binS, binB, eq1, eqB, lit, sameK, kn, unI, mxA, mnA, mkAgg, fits, partN, partA, resN, retV, allVal, isVal, allCell, isCell, okVal, okCell, cellsOf, fillN, rowsN, cellsN, bnd, lohi, offAt, overL, segL, leave, NodeOK, List.cons_append, List.nil_append, List.append_nil, catA, anys, lenA])
    refine ⟨[2, 3], rfl, _, _, ?_, ?_, d, hd, rfl, rfl⟩ <;> simp [Wk, mtc, mtcS, mtcSL, mtc0, mtc0L, mtcL, mtcO, mtcOs, cutM, takeE, stA, rl, renV, renL, ren1, ren1L, ren, rens, renO, Nat.blt, lenO, getO, setO, setL, anys, okS, endM, endH, idxN, takeE, pickE, catO, rl, renV, renL, ren1, ren1L, ren, rens, renO, Nat.blt, lenO, getO, setO, setL, anys, alC, alW]
end Go.Proofs.YtikogdkjmnpfcaaDoor.S
