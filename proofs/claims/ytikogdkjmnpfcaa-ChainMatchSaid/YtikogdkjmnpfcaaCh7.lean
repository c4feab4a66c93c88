/- Contracts of chains: pieces are taken. -/
import Derived.Test.YtikogdkjmnpfcaaCh6
namespace Go.Proofs.Ytikogdkjmnpfcaa.S
set_option linter.all false
set_option maxRecDepth 100000
structure Tk where
  n : Int
  ok : Bool
  c : Ch
  deriving DecidableEq
def takeC (c : Ch) (prev term : Int) (l : List It) : Tk :=
  if lastC c < prev then ⟨0, false, c⟩
  else if c.b ≤ prev ∧ ((termC c prev).2 = false ∨ (termC c prev).1 ≠ term) then ⟨0, false, c⟩
  else if forkN c prev l 0 < l.length then
    (if joinE c.o (c.l.take (prev + forkN c prev l 0 - c.b).toNat) (l.drop (forkN c prev l 0)) = 0
      then ⟨max (prev + l.length) c.b, true, ⟨c.b, c.o, c.l.take (prev + forkN c prev l 0 - c.b).toNat ++ l.drop (forkN c prev l 0)⟩⟩ else ⟨0, false, c⟩)
  else ⟨max (prev + l.length) c.b, true, c⟩
theorem forkN_ok (c : Ch) (prev : Int) : ∀ (l : List It) (k : Nat), forkN c prev l k ≤ k + l.length ∧ (forkN c prev l k < k + l.length → c.b < prev + 1 + (forkN c prev l k : Nat)) ∧ (prev + k ≤ lastC c → prev + (forkN c prev l k : Nat) ≤ lastC c)
  | [], k => ⟨by simp [forkN], by simp [forkN], by simp [forkN]⟩
  | x :: l, k => by
    rw [forkN_cons]
    split
    · rename_i h
      obtain ⟨h1, h2, h3⟩ := forkN_ok c prev l (k + 1)
      refine ⟨by rw [List.length_cons]; omega, by rw [List.length_cons]; intro h; exact h2 (by omega), fun h4 => h3 ?_⟩
      have hl : c.b ≤ lastC c := by unfold lastC; omega
      rcases h with h | h
      · push_cast; omega
      · cases hg : getC c (prev + 1 + k) with
        | none => rw [hg] at h; cases h
        | some y =>
          unfold getC at hg
          split at hg
          · cases hg
          · push_cast; omega
    · rename_i h
      refine ⟨by omega, fun _ => ?_, fun h => h⟩
      simp at h
      omega
theorem take_c (c : Ch) (h : ChOK c) (prev term : Int) (hp : U64 prev) (l : List It) (hln : l.length ≤ 1000) : ACalls Try.prog 27 [.ptr 0 0, .int .u64 prev, .int .u64 term, .ro 3 (l.map itR)] [chO c]
    (fun r hs => r = .tup [.int .u64 (takeC c prev term l).n, .bool (takeC c prev term l).ok] ∧ hs = [chO (takeC c prev term l).c]) := by
  have h1 := h.b; have h2 := h.n; have h6 := h.m
  have hp' := hp
  unfold U64 at hp
  refine acalls_weak (acalls_of (fn := Try.f27) (A := a27) Try.func27 ok_27 en_27 ?_)
  dsimp only [a27, chO]
  (refine eval_sound 2000 _ _ _ ?_; simp (maxSteps := 1000000) only [jump, findA, restA, and, Nat.reduceAdd, Nat.reduceSub, Nat.reduceMul, eval, nf, nfO, opN, appTo, rowsV, getL, setL, getO, setO, snocO, lenO, putL, ev, evs, ifEq, killV, killL, kill1, kill1L, kill, kills, killO, killOs, bin, binI, binS, binB, eq1, eqB, lit, sameK, kn, unI, mxA, mnA, mkAgg, fits, partN, partA, resN, retV, allVal, isVal, allCell, isCell, okVal, okCell, cellsOf, fillN, rowsN, cellsN, bnd, lohi, offAt, overL, segL, leave, NodeOK, List.cons_append, List.nil_append, List.append_nil, catA, anys, lenA])
  ((repeat (with_reducible refine And.intro ?_ ?_; focus (simp; done))); refine aw_call (term_c c h prev hp') [0] rfl (by simp [upM, nthN, matchO, rens, ren, ren1, ren1L, renL, renV, renO, rl, lenO, getO, Nat.blt, mtc, mtc0, mtc0L, chO]) rfl (by simp [upM, nthN, matchO, rens, ren, ren1, ren1L, renL, renV, renO, rl, lenO, getO, Nat.blt, mtc, mtc0, mtc0L, chO]) rfl (fun r hs hp hl => ?_); obtain ⟨rfl, rfl⟩ := hp; simp only [snocO, upM, nthN, putAll, snocAll, killsA, killOsA, grows, putL, rl, renV, renL, ren1, ren1L, ren, rens, renO, Nat.blt, lenO, getO, setO, setL, anys, chO]; (refine eval_sound 2000 _ _ _ ?_; simp (maxSteps := 1000000) only [jump, findA, restA, and, Nat.reduceAdd, Nat.reduceSub, Nat.reduceMul, eval, nf, nfO, opN, appTo, rowsV, getL, setL, getO, setO, snocO, lenO, putL, ev, evs, ifEq, killV, killL, kill1, kill1L, kill, kills, killO, killOs, bin, binI, binS, binB, eq1, eqB, lit, sameK, kn, unI, mxA, mnA, mkAgg, fits, partN, partA, resN, retV, allVal, isVal, allCell, isCell, okVal, okCell, cellsOf, fillN, rowsN, cellsN, bnd, lohi, offAt, overL, segL, leave, NodeOK, List.cons_append, List.nil_append, List.append_nil, catA, anys, lenA]))
  refine ⟨by simp, by simp, ?_⟩
  ((repeat (with_reducible refine And.intro ?_ ?_; focus (simp; done))); refine aw_call (last_c c h) [0] rfl (by simp [upM, nthN, matchO, rens, ren, ren1, ren1L, renL, renV, renO, rl, lenO, getO, Nat.blt, mtc, mtc0, mtc0L, chO]) rfl (by simp [upM, nthN, matchO, rens, ren, ren1, ren1L, renL, renV, renO, rl, lenO, getO, Nat.blt, mtc, mtc0, mtc0L, chO]) rfl (fun r hs hp hl => ?_); obtain ⟨rfl, rfl⟩ := hp; simp only [snocO, upM, nthN, putAll, snocAll, killsA, killOsA, grows, putL, rl, renV, renL, ren1, ren1L, ren, rens, renO, Nat.blt, lenO, getO, setO, setL, anys, chO]; (refine eval_sound 2000 _ _ _ ?_; simp (maxSteps := 1000000) only [jump, findA, restA, and, Nat.reduceAdd, Nat.reduceSub, Nat.reduceMul, eval, nf, nfO, opN, appTo, rowsV, getL, setL, getO, setO, snocO, lenO, putL, ev, evs, ifEq, killV, killL, kill1, kill1L, kill, kills, killO, killOs, bin, binI, binS, binB, eq1, eqB, lit, sameK, kn, unI, mxA, mnA, mkAgg, fits, partN, partA, resN, retV, allVal, isVal, allCell, isCell, okVal, okCell, cellsOf, fillN, rowsN, cellsN, bnd, lohi, offAt, overL, segL, leave, NodeOK, List.cons_append, List.nil_append, List.append_nil, catA, anys, lenA]))
  simp only [decide_eq_true_eq, decide_eq_false_iff_not]
  refine ⟨fun h3 => ?_, fun h3 => ?_⟩
  · have e : takeC c prev term l = ⟨0, false, c⟩ := by unfold takeC; rw [if_pos (by omega)]
    rw [e]
    ((repeat (with_reducible refine And.intro ?_ ?_; focus (simp; done))); refine ⟨[], rfl, _, _, ?_, ?_, rfl, rfl⟩ <;> simp [Wk, mtc, mtc0, mtc0L, mtcL, mtcO, mtcOs, cutM, takeE, stA, rl, renV, renL, ren1, ren1L, ren, rens, renO, Nat.blt, lenO, getO, setO, setL, anys, okS, endM, endH, idxN, takeE, pickE, catO, rl, renV, renL, ren1, ren1L, ren, rens, renO, Nat.blt, lenO, getO, setO, setL, anys, chO])
  have hfin : ∀ (_ : c.b ≤ prev → (termC c prev).2 = true ∧ (termC c prev).1 = term), takeC c prev term l = (if forkN c prev l 0 < l.length then
    (if joinE c.o (c.l.take (prev + forkN c prev l 0 - c.b).toNat) (l.drop (forkN c prev l 0)) = 0
      then ⟨max (prev + l.length) c.b, true, ⟨c.b, c.o, c.l.take (prev + forkN c prev l 0 - c.b).toNat ++ l.drop (forkN c prev l 0)⟩⟩ else ⟨0, false, c⟩)
    else ⟨max (prev + l.length) c.b, true, c⟩) := by
    intro hq
    unfold takeC
    rw [if_neg (by omega), if_neg]
    intro hh
    obtain ⟨q1, q2⟩ := hq hh.1
    rcases hh.2 with q | q
    · rw [q1] at q; cases q
    · exact q q2
  have hbad : ∀ (_ : c.b ≤ prev) (_ : (termC c prev).2 = false ∨ (termC c prev).1 ≠ term), takeC c prev term l = ⟨0, false, c⟩ := by
    intro q1 q2
    unfold takeC
    rw [if_neg (by omega), if_pos ⟨q1, q2⟩]
  refine ⟨fun h4 => ⟨fun h5 => ?_, fun h5 => ⟨fun h6 => ?_, fun h6 => ?_⟩⟩, fun h4 => ?_⟩
  · rw [hbad (by omega) (.inl (by simpa using h5))]
    ((repeat (with_reducible refine And.intro ?_ ?_; focus (simp; done))); refine ⟨[], rfl, _, _, ?_, ?_, rfl, rfl⟩ <;> simp [Wk, mtc, mtc0, mtc0L, mtcL, mtcO, mtcOs, cutM, takeE, stA, rl, renV, renL, ren1, ren1L, ren, rens, renO, Nat.blt, lenO, getO, setO, setL, anys, okS, endM, endH, idxN, takeE, pickE, catO, rl, renV, renL, ren1, ren1L, ren, rens, renO, Nat.blt, lenO, getO, setO, setL, anys, chO])
  · rw [hbad (by omega) (.inr (by simpa using h6))]
    ((repeat (with_reducible refine And.intro ?_ ?_; focus (simp; done))); refine ⟨[], rfl, _, _, ?_, ?_, rfl, rfl⟩ <;> simp [Wk, mtc, mtc0, mtc0L, mtcL, mtcO, mtcOs, cutM, takeE, stA, rl, renV, renL, ren1, ren1L, ren, rens, renO, Nat.blt, lenO, getO, setO, setL, anys, okS, endM, endH, idxN, takeE, pickE, catO, rl, renV, renL, ren1, ren1L, ren, rens, renO, Nat.blt, lenO, getO, setO, setL, anys, chO])
  · ((repeat (with_reducible refine And.intro ?_ ?_; focus (simp; done))); refine aw_call (fork_c c h prev ⟨hp.1, by omega⟩ l hln) [0] rfl (by simp [upM, nthN, matchO, rens, ren, ren1, ren1L, renL, renV, renO, rl, lenO, getO, Nat.blt, mtc, mtc0, mtc0L, chO]) rfl (by simp [upM, nthN, matchO, rens, ren, ren1, ren1L, renL, renV, renO, rl, lenO, getO, Nat.blt, mtc, mtc0, mtc0L, chO]) rfl (fun r hs hp hl => ?_); obtain ⟨rfl, rfl⟩ := hp; simp only [snocO, upM, nthN, putAll, snocAll, killsA, killOsA, grows, putL, rl, renV, renL, ren1, ren1L, ren, rens, renO, Nat.blt, lenO, getO, setO, setL, anys, chO]; (refine eval_sound 2000 _ _ _ ?_; simp (maxSteps := 1000000) only [jump, findA, restA, and, Nat.reduceAdd, Nat.reduceSub, Nat.reduceMul, eval, nf, nfO, opN, appTo, rowsV, getL, setL, getO, setO, snocO, lenO, putL, ev, evs, ifEq, killV, killL, kill1, kill1L, kill, kills, killO, killOs, bin, binI, binS, binB, eq1, eqB, lit, sameK, kn, unI, mxA, mnA, mkAgg, fits, partN, partA, resN, retV, allVal, isVal, allCell, isCell, okVal, okCell, cellsOf, fillN, rowsN, cellsN, bnd, lohi, offAt, overL, segL, leave, NodeOK, List.cons_append, List.nil_append, List.append_nil, catA, anys, lenA]))
    have hF := hfin (fun _ => ⟨by simpa using h5, by simpa using h6⟩)
    rw [hF]
    obtain ⟨f1, f2, f3⟩ := forkN_ok c prev l 0
    generalize forkN c prev l 0 = m at *
    simp only [List.length_map, Nat.zero_add] at f1 f2 f3 ⊢
    have hlast : prev + (m : Int) ≤ c.b + c.l.length := by unfold lastC at f3 h3; have := f3 (by simp; omega); omega
    simp only [decide_eq_true_eq, decide_eq_false_iff_not]
    have wl : IntKind.u64.wrap (l.length : Int) = l.length := wru (by omega) (by omega)
    have wl2 : IntKind.u64.wrap (prev + (l.length : Int)) = prev + l.length := by unfold lastC at h3; exact wru (by omega) (by omega)
    have wm : (if c.b > prev + (l.length : Int) then c.b else prev + (l.length : Int)) = max (prev + (l.length : Int)) c.b := by rw [Int.max_def]; split <;> split <;> omega
    refine ⟨fun h7 => ?_, fun h7 => ?_⟩
    · have hml : m < l.length := by omega
      have hcb := f2 hml
      rw [if_pos hml]
      have w1 : IntKind.u64.wrap (m : Int) = m := wru (by omega) (by omega)
      have w2 : IntKind.u64.wrap (prev + (m : Int)) = prev + m := wru (by omega) (by omega)
      have w3 : IntKind.u64.wrap (prev + (m : Int) - c.b) = prev + m - c.b := wru (by omega) (by omega)
      have ht := joined_c c.o (c.l.take (prev + (m : Int) - c.b).toNat) (l.drop m) (by rw [List.length_take]; omega) (by rw [List.length_drop]; omega)
      refine aw_dregA (show Try.prog.follows .mixedOrders = true by kernel_rfl) 1 [(16, ⟨.int .u64 (prev + (m : Int) - c.b), [], [], []⟩), (17, ⟨.ro 3 ((c.l.take (prev + (m : Int) - c.b).toNat).map itR), [], [], []⟩), (20, ⟨.ro 3 ((l.drop m).map itR), [], [], []⟩), (21, ⟨.tup [.ro 3 ((joinL c.o (c.l.take (prev + (m : Int) - c.b).toNat) (l.drop m)).map itR), .int .i64 (joinE c.o (c.l.take (prev + (m : Int) - c.b).toNat) (l.drop m))], [], [], []⟩)] ?_ ?_ ?_
      · kernel_rfl
      · (simp only [AllOps, OpOK, mkR, autoV, autoR, labV, lkD, vOf, preT, preO, setTs, preV, wrt, memN, usesO, usesT, opT, optT, opsT, ptsT, setHs, objF, updD, newO, lkO, lkF, keysO, keysF, visN, deads, getL, setL, getO, setO, lenO, lenA, anys, setDs, setWr, setFr, endO, catD, List.getD_cons_zero, List.getD_cons_succ, List.getElem?_cons_zero, List.getElem?_cons_succ, List.cons_append, List.nil_append, List.append_nil, Nat.reduceAdd, Nat.reduceSub, jump, findA, restA, and, Nat.reduceAdd, Nat.reduceSub, Nat.reduceMul, eval, nf, nfO, opN, appTo, rowsV, getL, setL, getO, setO, snocO, lenO, putL, ev, evs, ifEq, killV, killL, kill1, kill1L, kill, kills, killO, killOs, bin, binI, binS, binB, eq1, eqB, lit, sameK, kn, unI, mxA, mnA, mkAgg, fits, partN, partA, resN, retV, allVal, isVal, allCell, isCell, okVal, okCell, cellsOf, fillN, rowsN, cellsN, bnd, lohi, offAt, overL, segL, leave, NodeOK, List.cons_append, List.nil_append, List.append_nil, catA, anys, lenA]; and_intros) <;> (first | exact trivial | ((refine eval_sound 2000 _ _ _ ?_; simp (maxSteps := 1000000) only [jump, findA, restA, and, Nat.reduceAdd, Nat.reduceSub, Nat.reduceMul, eval, nf, nfO, opN, appTo, rowsV, getL, setL, getO, setO, snocO, lenO, putL, ev, evs, ifEq, killV, killL, kill1, kill1L, kill, kills, killO, killOs, bin, binI, binS, binB, eq1, eqB, lit, sameK, kn, unI, mxA, mnA, mkAgg, fits, partN, partA, resN, retV, allVal, isVal, allCell, isCell, okVal, okCell, cellsOf, fillN, rowsN, cellsN, bnd, lohi, offAt, overL, segL, leave, NodeOK, List.cons_append, List.nil_append, List.append_nil, catA, anys, lenA]); try simp only [JR, dstOK, wrOK, frOK, rdOK, getL, getO]; try simp only [JR, dstOK, wrOK, frOK, rdOK, sig, sigF, isGrowB, mtc, mtc0, mtc0L, mtcO, mtcL, memN, Nat.blt, rl, renV, renL, ren1, ren1L, ren, rens, renO, Nat.blt, lenO, getO, setO, setL, anys]; try simp))
        · rw [w1, w2, w3]
        · omega
        · refine ⟨by omega, ?_⟩
          rw [← List.map_drop, List.take_of_length_le (by simp)]
        · (refine aw_call (ht) [] rfl (by simp [upM, nthN, matchO, rens, ren, ren1, ren1L, renL, renV, renO, rl, lenO, getO, Nat.blt, mtc, mtc0, mtc0L, itA]) rfl (by simp [upM, nthN, matchO, rens, ren, ren1, ren1L, renL, renV, renO, rl, lenO, getO, Nat.blt, mtc, mtc0, mtc0L, itA]) rfl (fun r hs hp hl => ?_); obtain ⟨rfl, rfl⟩ := hp; simp only [snocO, upM, nthN, putAll, snocAll, killsA, killOsA, grows, putL, rl, renV, renL, ren1, ren1L, ren, rens, renO, Nat.blt, lenO, getO, setO, setL, anys, itA]; (refine eval_sound 2000 _ _ _ ?_; simp (maxSteps := 1000000) only [jump, findA, restA, and, Nat.reduceAdd, Nat.reduceSub, Nat.reduceMul, eval, nf, nfO, opN, appTo, rowsV, getL, setL, getO, setO, snocO, lenO, putL, ev, evs, ifEq, killV, killL, kill1, kill1L, kill, kills, killO, killOs, bin, binI, binS, binB, eq1, eqB, lit, sameK, kn, unI, mxA, mnA, mkAgg, fits, partN, partA, resN, retV, allVal, isVal, allCell, isCell, okVal, okCell, cellsOf, fillN, rowsN, cellsN, bnd, lohi, offAt, overL, segL, leave, NodeOK, List.cons_append, List.nil_append, List.append_nil, catA, anys, lenA]); (try simp only [JR, dstOK, wrOK, frOK, rdOK, getL, getO]); (try simp only [JR, dstOK, wrOK, frOK, rdOK, sig, sigF, isGrowB, mtc, mtc0, mtc0L, mtcO, mtcL, memN, Nat.blt, rl, renV, renL, ren1, ren1L, ren, rens, renO, Nat.blt, lenO, getO, setO, setL, anys, itA]); try simp)
      · (simp only [AllOps, OpOK, mkR, autoV, autoR, labV, lkD, vOf, preT, preO, setTs, preV, wrt, memN, usesO, usesT, opT, optT, opsT, ptsT, setHs, objF, updD, newO, lkO, lkF, keysO, keysF, visN, deads, getL, setL, getO, setO, lenO, lenA, anys, setDs, setWr, setFr, endO, catD, List.getD_cons_zero, List.getD_cons_succ, List.getElem?_cons_zero, List.getElem?_cons_succ, List.cons_append, List.nil_append, List.append_nil, Nat.reduceAdd, Nat.reduceSub, jump, findA, restA, and, Nat.reduceAdd, Nat.reduceSub, Nat.reduceMul, eval, nf, nfO, opN, appTo, rowsV, getL, setL, getO, setO, snocO, lenO, putL, ev, evs, ifEq, killV, killL, kill1, kill1L, kill, kills, killO, killOs, bin, binI, binS, binB, eq1, eqB, lit, sameK, kn, unI, mxA, mnA, mkAgg, fits, partN, partA, resN, retV, allVal, isVal, allCell, isCell, okVal, okCell, cellsOf, fillN, rowsN, cellsN, bnd, lohi, offAt, overL, segL, leave, NodeOK, List.cons_append, List.nil_append, List.append_nil, catA, anys, lenA]; (refine eval_sound 2000 _ _ _ ?_; simp (maxSteps := 1000000) only [jump, findA, restA, and, Nat.reduceAdd, Nat.reduceSub, Nat.reduceMul, eval, nf, nfO, opN, appTo, rowsV, getL, setL, getO, setO, snocO, lenO, putL, ev, evs, ifEq, killV, killL, kill1, kill1L, kill, kills, killO, killOs, bin, binI, binS, binB, eq1, eqB, lit, sameK, kn, unI, mxA, mnA, mkAgg, fits, partN, partA, resN, retV, allVal, isVal, allCell, isCell, okVal, okCell, cellsOf, fillN, rowsN, cellsN, bnd, lohi, offAt, overL, segL, leave, NodeOK, List.cons_append, List.nil_append, List.append_nil, catA, anys, lenA]))
        refine ⟨fun h8 => ?_, fun h8 => ?_⟩
        · rw [if_neg (by simpa using h8)]
          ((repeat (with_reducible refine And.intro ?_ ?_; focus (simp; done))); refine ⟨[], rfl, _, _, ?_, ?_, rfl, rfl⟩ <;> simp [Wk, mtc, mtc0, mtc0L, mtcL, mtcO, mtcOs, cutM, takeE, stA, rl, renV, renL, ren1, ren1L, ren, rens, renO, Nat.blt, lenO, getO, setO, setL, anys, okS, endM, endH, idxN, takeE, pickE, catO, rl, renV, renL, ren1, ren1L, ren, rens, renO, Nat.blt, lenO, getO, setO, setL, anys, chO])
        · have h8 : joinE c.o (c.l.take (prev + (m : Int) - c.b).toNat) (l.drop m) = 0 := by simpa using h8
          rw [if_pos h8]
          have hJ : joinL c.o (c.l.take (prev + (m : Int) - c.b).toNat) (l.drop m) = c.l.take (prev + (m : Int) - c.b).toNat ++ l.drop m := by unfold joinL; rw [if_pos h8]
          rw [hJ, List.length_map, wl, wl2, wm]
          ((repeat (with_reducible refine And.intro ?_ ?_; focus (simp; done))); refine ⟨[], rfl, _, _, ?_, ?_, rfl, rfl⟩ <;> simp [Wk, mtc, mtc0, mtc0L, mtcL, mtcO, mtcOs, cutM, takeE, stA, rl, renV, renL, ren1, ren1L, ren, rens, renO, Nat.blt, lenO, getO, setO, setL, anys, okS, endM, endH, idxN, takeE, pickE, catO, rl, renV, renL, ren1, ren1L, ren, rens, renO, Nat.blt, lenO, getO, setO, setL, anys, chO])
    · rw [if_neg (by omega), wl, wl2, wm]
      ((repeat (with_reducible refine And.intro ?_ ?_; focus (simp; done))); refine ⟨[], rfl, _, _, ?_, ?_, rfl, rfl⟩ <;> simp [Wk, mtc, mtc0, mtc0L, mtcL, mtcO, mtcOs, cutM, takeE, stA, rl, renV, renL, ren1, ren1L, ren, rens, renO, Nat.blt, lenO, getO, setO, setL, anys, okS, endM, endH, idxN, takeE, pickE, catO, rl, renV, renL, ren1, ren1L, ren, rens, renO, Nat.blt, lenO, getO, setO, setL, anys, chO])
  · ((repeat (with_reducible refine And.intro ?_ ?_; focus (simp; done))); refine aw_call (fork_c c h prev ⟨hp.1, by omega⟩ l hln) [0] rfl (by simp [upM, nthN, matchO, rens, ren, ren1, ren1L, renL, renV, renO, rl, lenO, getO, Nat.blt, mtc, mtc0, mtc0L, chO]) rfl (by simp [upM, nthN, matchO, rens, ren, ren1, ren1L, renL, renV, renO, rl, lenO, getO, Nat.blt, mtc, mtc0, mtc0L, chO]) rfl (fun r hs hp hl => ?_); obtain ⟨rfl, rfl⟩ := hp; simp only [snocO, upM, nthN, putAll, snocAll, killsA, killOsA, grows, putL, rl, renV, renL, ren1, ren1L, ren, rens, renO, Nat.blt, lenO, getO, setO, setL, anys, chO]; (refine eval_sound 2000 _ _ _ ?_; simp (maxSteps := 1000000) only [jump, findA, restA, and, Nat.reduceAdd, Nat.reduceSub, Nat.reduceMul, eval, nf, nfO, opN, appTo, rowsV, getL, setL, getO, setO, snocO, lenO, putL, ev, evs, ifEq, killV, killL, kill1, kill1L, kill, kills, killO, killOs, bin, binI, binS, binB, eq1, eqB, lit, sameK, kn, unI, mxA, mnA, mkAgg, fits, partN, partA, resN, retV, allVal, isVal, allCell, isCell, okVal, okCell, cellsOf, fillN, rowsN, cellsN, bnd, lohi, offAt, overL, segL, leave, NodeOK, List.cons_append, List.nil_append, List.append_nil, catA, anys, lenA]))
    have hF := hfin (fun q => by omega)
    rw [hF]
    obtain ⟨f1, f2, f3⟩ := forkN_ok c prev l 0
    generalize forkN c prev l 0 = m at *
    simp only [List.length_map, Nat.zero_add] at f1 f2 f3 ⊢
    have hlast : prev + (m : Int) ≤ c.b + c.l.length := by unfold lastC at f3 h3; have := f3 (by simp; omega); omega
    simp only [decide_eq_true_eq, decide_eq_false_iff_not]
    have wl : IntKind.u64.wrap (l.length : Int) = l.length := wru (by omega) (by omega)
    have wl2 : IntKind.u64.wrap (prev + (l.length : Int)) = prev + l.length := by unfold lastC at h3; exact wru (by omega) (by omega)
    have wm : (if c.b > prev + (l.length : Int) then c.b else prev + (l.length : Int)) = max (prev + (l.length : Int)) c.b := by rw [Int.max_def]; split <;> split <;> omega
    refine ⟨fun h7 => ?_, fun h7 => ?_⟩
    · have hml : m < l.length := by omega
      have hcb := f2 hml
      rw [if_pos hml]
      have w1 : IntKind.u64.wrap (m : Int) = m := wru (by omega) (by omega)
      have w2 : IntKind.u64.wrap (prev + (m : Int)) = prev + m := wru (by omega) (by omega)
      have w3 : IntKind.u64.wrap (prev + (m : Int) - c.b) = prev + m - c.b := wru (by omega) (by omega)
      have ht := joined_c c.o (c.l.take (prev + (m : Int) - c.b).toNat) (l.drop m) (by rw [List.length_take]; omega) (by rw [List.length_drop]; omega)
      refine aw_dregA (show Try.prog.follows .mixedOrders = true by kernel_rfl) 1 [(16, ⟨.int .u64 (prev + (m : Int) - c.b), [], [], []⟩), (17, ⟨.ro 3 ((c.l.take (prev + (m : Int) - c.b).toNat).map itR), [], [], []⟩), (20, ⟨.ro 3 ((l.drop m).map itR), [], [], []⟩), (21, ⟨.tup [.ro 3 ((joinL c.o (c.l.take (prev + (m : Int) - c.b).toNat) (l.drop m)).map itR), .int .i64 (joinE c.o (c.l.take (prev + (m : Int) - c.b).toNat) (l.drop m))], [], [], []⟩)] ?_ ?_ ?_
      · kernel_rfl
      · (simp only [AllOps, OpOK, mkR, autoV, autoR, labV, lkD, vOf, preT, preO, setTs, preV, wrt, memN, usesO, usesT, opT, optT, opsT, ptsT, setHs, objF, updD, newO, lkO, lkF, keysO, keysF, visN, deads, getL, setL, getO, setO, lenO, lenA, anys, setDs, setWr, setFr, endO, catD, List.getD_cons_zero, List.getD_cons_succ, List.getElem?_cons_zero, List.getElem?_cons_succ, List.cons_append, List.nil_append, List.append_nil, Nat.reduceAdd, Nat.reduceSub, jump, findA, restA, and, Nat.reduceAdd, Nat.reduceSub, Nat.reduceMul, eval, nf, nfO, opN, appTo, rowsV, getL, setL, getO, setO, snocO, lenO, putL, ev, evs, ifEq, killV, killL, kill1, kill1L, kill, kills, killO, killOs, bin, binI, binS, binB, eq1, eqB, lit, sameK, kn, unI, mxA, mnA, mkAgg, fits, partN, partA, resN, retV, allVal, isVal, allCell, isCell, okVal, okCell, cellsOf, fillN, rowsN, cellsN, bnd, lohi, offAt, overL, segL, leave, NodeOK, List.cons_append, List.nil_append, List.append_nil, catA, anys, lenA]; and_intros) <;> (first | exact trivial | ((refine eval_sound 2000 _ _ _ ?_; simp (maxSteps := 1000000) only [jump, findA, restA, and, Nat.reduceAdd, Nat.reduceSub, Nat.reduceMul, eval, nf, nfO, opN, appTo, rowsV, getL, setL, getO, setO, snocO, lenO, putL, ev, evs, ifEq, killV, killL, kill1, kill1L, kill, kills, killO, killOs, bin, binI, binS, binB, eq1, eqB, lit, sameK, kn, unI, mxA, mnA, mkAgg, fits, partN, partA, resN, retV, allVal, isVal, allCell, isCell, okVal, okCell, cellsOf, fillN, rowsN, cellsN, bnd, lohi, offAt, overL, segL, leave, NodeOK, List.cons_append, List.nil_append, List.append_nil, catA, anys, lenA]); try simp only [JR, dstOK, wrOK, frOK, rdOK, getL, getO]; try simp only [JR, dstOK, wrOK, frOK, rdOK, sig, sigF, isGrowB, mtc, mtc0, mtc0L, mtcO, mtcL, memN, Nat.blt, rl, renV, renL, ren1, ren1L, ren, rens, renO, Nat.blt, lenO, getO, setO, setL, anys]; try simp))
        · rw [w1, w2, w3]
        · omega
        · refine ⟨by omega, ?_⟩
          rw [← List.map_drop, List.take_of_length_le (by simp)]
        · (refine aw_call (ht) [] rfl (by simp [upM, nthN, matchO, rens, ren, ren1, ren1L, renL, renV, renO, rl, lenO, getO, Nat.blt, mtc, mtc0, mtc0L, itA]) rfl (by simp [upM, nthN, matchO, rens, ren, ren1, ren1L, renL, renV, renO, rl, lenO, getO, Nat.blt, mtc, mtc0, mtc0L, itA]) rfl (fun r hs hp hl => ?_); obtain ⟨rfl, rfl⟩ := hp; simp only [snocO, upM, nthN, putAll, snocAll, killsA, killOsA, grows, putL, rl, renV, renL, ren1, ren1L, ren, rens, renO, Nat.blt, lenO, getO, setO, setL, anys, itA]; (refine eval_sound 2000 _ _ _ ?_; simp (maxSteps := 1000000) only [jump, findA, restA, and, Nat.reduceAdd, Nat.reduceSub, Nat.reduceMul, eval, nf, nfO, opN, appTo, rowsV, getL, setL, getO, setO, snocO, lenO, putL, ev, evs, ifEq, killV, killL, kill1, kill1L, kill, kills, killO, killOs, bin, binI, binS, binB, eq1, eqB, lit, sameK, kn, unI, mxA, mnA, mkAgg, fits, partN, partA, resN, retV, allVal, isVal, allCell, isCell, okVal, okCell, cellsOf, fillN, rowsN, cellsN, bnd, lohi, offAt, overL, segL, leave, NodeOK, List.cons_append, List.nil_append, List.append_nil, catA, anys, lenA]); (try simp only [JR, dstOK, wrOK, frOK, rdOK, getL, getO]); (try simp only [JR, dstOK, wrOK, frOK, rdOK, sig, sigF, isGrowB, mtc, mtc0, mtc0L, mtcO, mtcL, memN, Nat.blt, rl, renV, renL, ren1, ren1L, ren, rens, renO, Nat.blt, lenO, getO, setO, setL, anys, itA]); try simp)
      · (simp only [AllOps, OpOK, mkR, autoV, autoR, labV, lkD, vOf, preT, preO, setTs, preV, wrt, memN, usesO, usesT, opT, optT, opsT, ptsT, setHs, objF, updD, newO, lkO, lkF, keysO, keysF, visN, deads, getL, setL, getO, setO, lenO, lenA, anys, setDs, setWr, setFr, endO, catD, List.getD_cons_zero, List.getD_cons_succ, List.getElem?_cons_zero, List.getElem?_cons_succ, List.cons_append, List.nil_append, List.append_nil, Nat.reduceAdd, Nat.reduceSub, jump, findA, restA, and, Nat.reduceAdd, Nat.reduceSub, Nat.reduceMul, eval, nf, nfO, opN, appTo, rowsV, getL, setL, getO, setO, snocO, lenO, putL, ev, evs, ifEq, killV, killL, kill1, kill1L, kill, kills, killO, killOs, bin, binI, binS, binB, eq1, eqB, lit, sameK, kn, unI, mxA, mnA, mkAgg, fits, partN, partA, resN, retV, allVal, isVal, allCell, isCell, okVal, okCell, cellsOf, fillN, rowsN, cellsN, bnd, lohi, offAt, overL, segL, leave, NodeOK, List.cons_append, List.nil_append, List.append_nil, catA, anys, lenA]; (refine eval_sound 2000 _ _ _ ?_; simp (maxSteps := 1000000) only [jump, findA, restA, and, Nat.reduceAdd, Nat.reduceSub, Nat.reduceMul, eval, nf, nfO, opN, appTo, rowsV, getL, setL, getO, setO, snocO, lenO, putL, ev, evs, ifEq, killV, killL, kill1, kill1L, kill, kills, killO, killOs, bin, binI, binS, binB, eq1, eqB, lit, sameK, kn, unI, mxA, mnA, mkAgg, fits, partN, partA, resN, retV, allVal, isVal, allCell, isCell, okVal, okCell, cellsOf, fillN, rowsN, cellsN, bnd, lohi, offAt, overL, segL, leave, NodeOK, List.cons_append, List.nil_append, List.append_nil, catA, anys, lenA]))
        refine ⟨fun h8 => ?_, fun h8 => ?_⟩
        · rw [if_neg (by simpa using h8)]
          ((repeat (with_reducible refine And.intro ?_ ?_; focus (simp; done))); refine ⟨[], rfl, _, _, ?_, ?_, rfl, rfl⟩ <;> simp [Wk, mtc, mtc0, mtc0L, mtcL, mtcO, mtcOs, cutM, takeE, stA, rl, renV, renL, ren1, ren1L, ren, rens, renO, Nat.blt, lenO, getO, setO, setL, anys, okS, endM, endH, idxN, takeE, pickE, catO, rl, renV, renL, ren1, ren1L, ren, rens, renO, Nat.blt, lenO, getO, setO, setL, anys, chO])
        · have h8 : joinE c.o (c.l.take (prev + (m : Int) - c.b).toNat) (l.drop m) = 0 := by simpa using h8
          rw [if_pos h8]
          have hJ : joinL c.o (c.l.take (prev + (m : Int) - c.b).toNat) (l.drop m) = c.l.take (prev + (m : Int) - c.b).toNat ++ l.drop m := by unfold joinL; rw [if_pos h8]
          rw [hJ, List.length_map, wl, wl2, wm]
          ((repeat (with_reducible refine And.intro ?_ ?_; focus (simp; done))); refine ⟨[], rfl, _, _, ?_, ?_, rfl, rfl⟩ <;> simp [Wk, mtc, mtc0, mtc0L, mtcL, mtcO, mtcOs, cutM, takeE, stA, rl, renV, renL, ren1, ren1L, ren, rens, renO, Nat.blt, lenO, getO, setO, setL, anys, okS, endM, endH, idxN, takeE, pickE, catO, rl, renV, renL, ren1, ren1L, ren, rens, renO, Nat.blt, lenO, getO, setO, setL, anys, chO])
    · rw [if_neg (by omega), wl, wl2, wm]
      ((repeat (with_reducible refine And.intro ?_ ?_; focus (simp; done))); refine ⟨[], rfl, _, _, ?_, ?_, rfl, rfl⟩ <;> simp [Wk, mtc, mtc0, mtc0L, mtcL, mtcO, mtcOs, cutM, takeE, stA, rl, renV, renL, ren1, ren1L, ren, rens, renO, Nat.blt, lenO, getO, setO, setL, anys, okS, endM, endH, idxN, takeE, pickE, catO, rl, renV, renL, ren1, ren1L, ren, rens, renO, Nat.blt, lenO, getO, setO, setL, anys, chO])
end Go.Proofs.Ytikogdkjmnpfcaa.S
