/- MergeWhole returns true. -/
import Derived.Test.YtejflbmpokdhgaaMg9
namespace Go.Proofs.Ytejflbmpokdhgaa.S
set_option linter.all false
set_option maxRecDepth 100000
set_option maxHeartbeats 2000000
theorem whole_facts {L : List En} (hok : ∀ o ∈ L, EnOK o) {base term n : Int} (hb : 0 ≤ base ∧ base ≤ 4611686018427387904) :
    ∃ E : Nat → En, (mrgL L base term n).length = many L base ∧ many L base ≤ 192 ∧
      (∀ i, i < many L base → (mrgL L base term n)[i]? = some (E i) ∧ (E i).i = base + 1 + i ∧ (E i).t = term ∧ (E i).s = base + many L base + 1 ∧ (((E i).b.length : Nat) : Int) = max (min n i) 0 ∧ (E i).b.length ≤ i ∧ EnOK (E i)) ∧
      (∀ i k, i < many L base → k < (E i).b.length → tellsL (E i) (E (i - 1 - k)) = true) ∧
      (0 < many L base → ∃ o ∈ L, o.i = base + many L base ∧ alikeL o (E (many L base - 1)) = true) := by
  have hM := many_le L base
  refine ⟨fun i => mrgE L base term n (many L base) (mrgT L base term n (many L base) i) i, mrgT_len _ _ _ _ _ _, hM, fun i hi => ⟨mrgT_get hi, mrgE_i _ _, mrgE_t _ _, mrgE_s _ _, ?_, ?_, mrgE_ok hok hb (by omega)⟩, fun i k hi hk => ?_, fun h => ?_⟩
  · rw [mrgE_b, row_len, mrgT_len]
  · have := rowL_len (mrgT L base term n (many L base) i) n
    rw [mrgT_len] at this
    rw [mrgE_b]; exact this
  · simp only [mrgE_b] at hk
    exact (mrg_tells hk).2
  · obtain ⟨o, ho⟩ := many_best h
    obtain ⟨h1, h2⟩ := best_mem ho
    refine ⟨o, h1, h2, mrgE_best ?_⟩
    rw [← ho]
    congr 1
    omega
theorem whole_ (base term n : Int) (hb : U64 base) (all : List (List En)) (hn : all.length ≤ 9223372036854775807) (hm : ∀ l ∈ all, l.length ≤ 9223372036854775807) (hok : AllOK all) : ACalls Try.prog 6 [.int .u64 base, .int .u64 term, .int .i64 n, .ro 1 (listsR all)] [] (fun r hs => r = .bool true ∧ hs = []) := by
  have hlive := lives_c
  refine acalls_weak (acalls_of (fn := Try.f6) (A := a6) Try.func6 ok_6 en_6 ?_)
  dsimp only [a6, enA]
  (refine eval_sound 2000 _ _ _ ?_; simp (maxSteps := 1000000) only [Bool.not_true, Bool.not_false, lookR, valOf, asGrow, jump, findA, restA, and, Nat.reduceAdd, Nat.reduceSub, Nat.reduceMul, Int.reduceToNat, eval, nf, nfO, opN, appTo, rowsV, getL, setL, getO, setO, snocO, lenO, putL, ev, evs, ifEq, killV, killL, kill1, kill1L, kill, kills, killO, killOs, bin, binI, binS, binB, eq1, eqB, lit, sameK, kn, unI, mxA, mnA, mkAgg, fits, partN, partA, resN, retV, allVal, isVal, allCell, isCell, okVal, okCell, cellsOf, fillN, rowsN, cellsN, bnd, lohi, offAt, overL, segL, leave, NodeOK, List.cons_append, List.nil_append, List.append_nil, catA, anys, lenA])
  ((repeat (with_reducible refine And.intro ?_ ?_; focus (simp; done))); refine aw_call (light23_c base all hn hm) [] rfl (by simp [upM, nthN, matchO, rens, ren, ren1, ren1L, renL, renV, renO, rl, lenO, getO, Nat.blt, mtc, mtcS, mtcSL, mtc0, mtc0L, enA]) rfl (by simp [upM, nthN, matchO, rens, ren, ren1, ren1L, renL, renV, renO, rl, lenO, getO, Nat.blt, mtc, mtcS, mtcSL, mtc0, mtc0L, enA]) rfl (fun r hs hp hl => ?_); obtain ⟨rfl, rfl⟩ := hp; simp only [snocO, upM, nthN, putAll, snocAll, killsA, killOsA, grows, putL, rl, renV, renL, ren1, ren1L, ren, rens, renO, Nat.blt, lenO, getO, setO, setL, anys, enA]; (refine eval_sound 2000 _ _ _ ?_; simp (maxSteps := 1000000) only [Bool.not_true, Bool.not_false, lookR, valOf, asGrow, jump, findA, restA, and, Nat.reduceAdd, Nat.reduceSub, Nat.reduceMul, Int.reduceToNat, eval, nf, nfO, opN, appTo, rowsV, getL, setL, getO, setO, snocO, lenO, putL, ev, evs, ifEq, killV, killL, kill1, kill1L, kill, kills, killO, killOs, bin, binI, binS, binB, eq1, eqB, lit, sameK, kn, unI, mxA, mnA, mkAgg, fits, partN, partA, resN, retV, allVal, isVal, allCell, isCell, okVal, okCell, cellsOf, fillN, rowsN, cellsN, bnd, lohi, offAt, overL, segL, leave, NodeOK, List.cons_append, List.nil_append, List.append_nil, catA, anys, lenA]))
  refine ⟨fun h1 => ?_, fun h1 => ?_⟩
  · ((repeat (with_reducible refine And.intro ?_ ?_; focus (simp; done))); refine aw_call (lives_c) [] rfl (by simp [upM, nthN, matchO, rens, ren, ren1, ren1L, renL, renV, renO, rl, lenO, getO, Nat.blt, mtc, mtcS, mtcSL, mtc0, mtc0L]) rfl (by simp [upM, nthN, matchO, rens, ren, ren1, ren1L, renL, renV, renO, rl, lenO, getO, Nat.blt, mtc, mtcS, mtcSL, mtc0, mtc0L]) rfl (fun r hs hp hl => ?_); obtain ⟨rfl, rfl⟩ := hp; simp only [snocO, upM, nthN, putAll, snocAll, killsA, killOsA, grows, putL, rl, renV, renL, ren1, ren1L, ren, rens, renO, Nat.blt, lenO, getO, setO, setL, anys]; (refine eval_sound 2000 _ _ _ ?_; simp (maxSteps := 1000000) only [Bool.not_true, Bool.not_false, lookR, valOf, asGrow, jump, findA, restA, and, Nat.reduceAdd, Nat.reduceSub, Nat.reduceMul, Int.reduceToNat, eval, nf, nfO, opN, appTo, rowsV, getL, setL, getO, setO, snocO, lenO, putL, ev, evs, ifEq, killV, killL, kill1, kill1L, kill, kills, killO, killOs, bin, binI, binS, binB, eq1, eqB, lit, sameK, kn, unI, mxA, mnA, mkAgg, fits, partN, partA, resN, retV, allVal, isVal, allCell, isCell, okVal, okCell, cellsOf, fillN, rowsN, cellsN, bnd, lohi, offAt, overL, segL, leave, NodeOK, List.cons_append, List.nil_append, List.append_nil, catA, anys, lenA]))
    ((repeat (with_reducible refine And.intro ?_ ?_; focus (simp; done))); refine ⟨[], rfl, _, _, ?_, ?_, rfl, rfl⟩ <;> simp [Wk, mtc, mtcS, mtcSL, mtc0, mtc0L, mtcL, mtcO, mtcOs, cutM, takeE, stA, rl, renV, renL, ren1, ren1L, ren, rens, renO, Nat.blt, lenO, getO, setO, setL, anys, okS, endM, endH, idxN, takeE, pickE, catO, rl, renV, renL, ren1, ren1L, ren, rens, renO, Nat.blt, lenO, getO, setO, setL, anys, enA])
  have hlit : lit23 base all = true := by simpa using h1
  obtain ⟨hf, hb2, _, _⟩ := few_lit hlit hok
  have hb3 : 0 ≤ base ∧ base ≤ 4611686018427387904 := ⟨hb.1, hb2⟩
  have hfn := hf.n
  obtain ⟨E, hlen, hM, hE, hT, hO⟩ := whole_facts (L := all.flatten) hok (base := base) (term := term) (n := n) hb3
  ((repeat (with_reducible refine And.intro ?_ ?_; focus (simp; done))); refine aw_call (merge_c all hf base term n hb3) [] rfl (by simp [upM, nthN, matchO, rens, ren, ren1, ren1L, renL, renV, renO, rl, lenO, getO, Nat.blt, mtc, mtcS, mtcSL, mtc0, mtc0L, enA]) rfl (by simp [upM, nthN, matchO, rens, ren, ren1, ren1L, renL, renV, renO, rl, lenO, getO, Nat.blt, mtc, mtcS, mtcSL, mtc0, mtc0L, enA]) rfl (fun r hs hp hl => ?_); obtain ⟨rfl, rfl⟩ := hp; simp only [snocO, upM, nthN, putAll, snocAll, killsA, killOsA, grows, putL, rl, renV, renL, ren1, ren1L, ren, rens, renO, Nat.blt, lenO, getO, setO, setL, anys, enA]; (refine eval_sound 2000 _ _ _ ?_; simp (maxSteps := 1000000) only [Bool.not_true, Bool.not_false, lookR, valOf, asGrow, jump, findA, restA, and, Nat.reduceAdd, Nat.reduceSub, Nat.reduceMul, Int.reduceToNat, eval, nf, nfO, opN, appTo, rowsV, getL, setL, getO, setO, snocO, lenO, putL, ev, evs, ifEq, killV, killL, kill1, kill1L, kill, kills, killO, killOs, bin, binI, binS, binB, eq1, eqB, lit, sameK, kn, unI, mxA, mnA, mkAgg, fits, partN, partA, resN, retV, allVal, isVal, allCell, isCell, okVal, okCell, cellsOf, fillN, rowsN, cellsN, bnd, lohi, offAt, overL, segL, leave, NodeOK, List.cons_append, List.nil_append, List.append_nil, catA, anys, lenA]))
  generalize mrgL all.flatten base term n = l at *
  generalize many all.flatten base = M at *
  have hlen2 : (listsR all).length = all.length := by simp [listsR]
  simp only [List.length_map, hlen]
  refine aw_loopU (α := Nat) (fun i => i ≤ M) (fun i => [(8, .ff), (30, .int .i64 i)]) (fun i => []) (fun i => M - i) (0) (Nat.zero_le _) ?_ fun i hi => ?_
  · (simp only [wrC, wrOs, keepT, memN, setsL, setsO, setL, setO, snocO, List.cons_append, List.nil_append, List.append_nil, Nat.reduceAdd, Nat.zero_add, Wk, mtc, mtcS, mtcSL, mtc0, mtc0L, mtcL, mtcO, mtcOs, cutM, takeE, stA, rl, renV, renL, ren1, ren1L, ren, rens, renO, Nat.blt, lenO, getO, setO, setL, anys, enA]; simp [enA])
  (simp only [wrC, wrOs, keepT, memN, setsL, setsO, setL, setO, snocO, List.cons_append, List.nil_append, List.append_nil, Nat.reduceAdd, Nat.zero_add, enA]; (refine eval_sound 2000 _ _ _ ?_; simp (maxSteps := 1000000) only [Bool.not_true, Bool.not_false, lookR, valOf, asGrow, jump, findA, restA, and, Nat.reduceAdd, Nat.reduceSub, Nat.reduceMul, Int.reduceToNat, eval, nf, nfO, opN, appTo, rowsV, getL, setL, getO, setO, snocO, lenO, putL, ev, evs, ifEq, killV, killL, kill1, kill1L, kill, kills, killO, killOs, bin, binI, binS, binB, eq1, eqB, lit, sameK, kn, unI, mxA, mnA, mkAgg, fits, partN, partA, resN, retV, allVal, isVal, allCell, isCell, okVal, okCell, cellsOf, fillN, rowsN, cellsN, bnd, lohi, offAt, overL, segL, leave, NodeOK, List.cons_append, List.nil_append, List.append_nil, catA, anys, lenA]))
  simp only [decide_eq_true_eq, decide_eq_false_iff_not, List.length_map, hlen]
  refine ⟨fun h2 => ?_, fun h2 => ?_⟩
  · have hi2 : i < M := by omega
    obtain ⟨g1, g2, g3, g4, g5, g6, g7⟩ := hE i hi2
    have hti := fun k hk => hT i k hi2 hk
    refine ⟨by omega, enR (E i), by rw [List.getElem?_map, Int.toNat_natCast, g1]; rfl, ?_⟩
    simp only [enR]
    generalize hei : E i = e at *
    (refine eval_sound 2000 _ _ _ ?_; simp (maxSteps := 1000000) only [Bool.not_true, Bool.not_false, lookR, valOf, asGrow, jump, findA, restA, and, Nat.reduceAdd, Nat.reduceSub, Nat.reduceMul, Int.reduceToNat, eval, nf, nfO, opN, appTo, rowsV, getL, setL, getO, setO, snocO, lenO, putL, ev, evs, ifEq, killV, killL, kill1, kill1L, kill, kills, killO, killOs, bin, binI, binS, binB, eq1, eqB, lit, sameK, kn, unI, mxA, mnA, mkAgg, fits, partN, partA, resN, retV, allVal, isVal, allCell, isCell, okVal, okCell, cellsOf, fillN, rowsN, cellsN, bnd, lohi, offAt, overL, segL, leave, NodeOK, List.cons_append, List.nil_append, List.append_nil, catA, anys, lenA])
    (repeat (with_reducible refine And.intro ?_ ?_; focus (simp; done)))
    have w1 : IntKind.u64.wrap (IntKind.u64.wrap (base + 1) + IntKind.u64.wrap i) = base + 1 + i := by rw [wru (n := base + 1) (by omega) (by omega), wru (n := (i : Int)) (by omega) (by omega), wru (by omega) (by omega)]
    have w2 : IntKind.u64.wrap (IntKind.u64.wrap (base + 1) + IntKind.u64.wrap M) = base + M + 1 := by rw [wru (n := base + 1) (by omega) (by omega), wru (n := (M : Int)) (by omega) (by omega), wru (by omega) (by omega)]; omega
    simp only [List.length_map, hlen]
    have w3 : (((e.b.length : Nat) : Int) != if (0 : Int) > if (i : Int) < n then (i : Int) else n then 0 else if (i : Int) < n then (i : Int) else n) = false := by
      have : (if (0 : Int) > if (i : Int) < n then (i : Int) else n then 0 else if (i : Int) < n then (i : Int) else n) = max (min n i) 0 := by
        by_cases q : (i : Int) < n
        · rw [if_pos q, if_neg (by omega)]; omega
        · rw [if_neg q]
          by_cases q2 : (0 : Int) > n
          · rw [if_pos q2]; omega
          · rw [if_neg q2]; omega
      rw [this, g5]; simp
    have w4 : (e.i != base + 1 + (i : Int)) = false := by rw [g2]; simp
    have w5 : (e.t != term) = false := by rw [g3]; simp
    have w6 : (e.s != base + (M : Int) + 1) = false := by rw [g4]; simp
    rw [w1, w2]
    refine ⟨fun h => ?_, fun _ => ⟨fun h => ?_, fun _ => ⟨fun h => ?_, fun _ => ⟨fun h => ?_, fun _ => ?_⟩⟩⟩⟩
    · rw [w4] at h; cases h
    · rw [w5] at h; cases h
    · rw [w6] at h; cases h
    · rw [w3] at h; cases h
    refine aw_loopU (α := Nat) (fun k => k ≤ e.b.length) (fun k => [(8, .ff), (73, .int .i64 k)]) (fun k => []) (fun k => e.b.length - k) (0) (Nat.zero_le _) ?_ fun k hk => ?_
    · (simp only [wrC, wrOs, keepT, memN, setsL, setsO, setL, setO, snocO, List.cons_append, List.nil_append, List.append_nil, Nat.reduceAdd, Nat.zero_add, Wk, mtc, mtcS, mtcSL, mtc0, mtc0L, mtcL, mtcO, mtcOs, cutM, takeE, stA, rl, renV, renL, ren1, ren1L, ren, rens, renO, Nat.blt, lenO, getO, setO, setL, anys, enA]; simp [enA])
    (simp only [wrC, wrOs, keepT, memN, setsL, setsO, setL, setO, snocO, List.cons_append, List.nil_append, List.append_nil, Nat.reduceAdd, Nat.zero_add, enA]; (refine eval_sound 2000 _ _ _ ?_; simp (maxSteps := 1000000) only [Bool.not_true, Bool.not_false, lookR, valOf, asGrow, jump, findA, restA, and, Nat.reduceAdd, Nat.reduceSub, Nat.reduceMul, Int.reduceToNat, eval, nf, nfO, opN, appTo, rowsV, getL, setL, getO, setO, snocO, lenO, putL, ev, evs, ifEq, killV, killL, kill1, kill1L, kill, kills, killO, killOs, bin, binI, binS, binB, eq1, eqB, lit, sameK, kn, unI, mxA, mnA, mkAgg, fits, partN, partA, resN, retV, allVal, isVal, allCell, isCell, okVal, okCell, cellsOf, fillN, rowsN, cellsN, bnd, lohi, offAt, overL, segL, leave, NodeOK, List.cons_append, List.nil_append, List.append_nil, catA, anys, lenA]))
    simp only [decide_eq_true_eq, decide_eq_false_iff_not, List.length_map]
    refine ⟨fun h3 => ?_, fun h3 => ?_⟩
    · have hk2 : k < e.b.length := by omega
      have hi3 : i - 1 - k < M := by omega
      obtain ⟨q1, _, _, _, _, q6, q7⟩ := hE (i - 1 - k) hi3
      have ht := hti k hk2
      generalize hey : E (i - 1 - k) = y at *
      have w7 : IntKind.i64.wrap (IntKind.i64.wrap ((i : Int) - 1) - k) = ((i - 1 - k : Nat) : Int) := by rw [wr64 (n := (i : Int) - 1) (by omega) (by omega), wr64 (by omega) (by omega)]; omega
      have hc := tells_c e y g7 q7
      rw [ht] at hc
      refine aw_dregA (show Try.prog.follows .mixedOrders = true by kernel_rfl) 1 [(5, ⟨.int .i64 ((i - 1 - k : Nat) : Int), [], [], []⟩), (6, ⟨.rp [.int .u64 y.i, .int .u64 y.t, .int .u64 y.s, .int .i64 y.k, .int .u64 y.l.c, .int .u64 y.l.r, .int .u32 y.l.f, .int .u32 y.l.n, .str y.d, .ro 4 (y.b.map lkR)] 0, [], [], []⟩), (8, ⟨.tt, [], [], []⟩)] ?_ ?_ ?_
      · kernel_rfl
      · (simp only [tkO, dpO, tkN, AllOps, OpOK, mkR, autoV, autoR, labV, lkD, vOf, preT, preO, setTs, preV, wrt, memN, usesO, usesT, opT, optT, opsT, ptsT, setHs, objF, updD, newO, lkO, lkF, keysO, keysF, visN, deads, getL, setL, getO, setO, lenO, lenA, anys, setDs, setWr, setFr, endO, catD, List.getD_cons_zero, List.getD_cons_succ, List.getElem?_cons_zero, List.getElem?_cons_succ, List.cons_append, List.nil_append, List.append_nil, Nat.reduceAdd, Nat.reduceSub, Bool.not_true, Bool.not_false, lookR, valOf, asGrow, jump, findA, restA, and, Nat.reduceAdd, Nat.reduceSub, Nat.reduceMul, Int.reduceToNat, eval, nf, nfO, opN, appTo, rowsV, getL, setL, getO, setO, snocO, lenO, putL, ev, evs, ifEq, killV, killL, kill1, kill1L, kill, kills, killO, killOs, bin, binI, binS, binB, eq1, eqB, lit, sameK, kn, unI, mxA, mnA, mkAgg, fits, partN, partA, resN, retV, allVal, isVal, allCell, isCell, okVal, okCell, cellsOf, fillN, rowsN, cellsN, bnd, lohi, offAt, overL, segL, leave, NodeOK, List.cons_append, List.nil_append, List.append_nil, catA, anys, lenA]; and_intros) <;> (first | exact trivial | ((refine eval_sound 2000 _ _ _ ?_; simp (maxSteps := 1000000) only [Bool.not_true, Bool.not_false, lookR, valOf, asGrow, jump, findA, restA, and, Nat.reduceAdd, Nat.reduceSub, Nat.reduceMul, Int.reduceToNat, eval, nf, nfO, opN, appTo, rowsV, getL, setL, getO, setO, snocO, lenO, putL, ev, evs, ifEq, killV, killL, kill1, kill1L, kill, kills, killO, killOs, bin, binI, binS, binB, eq1, eqB, lit, sameK, kn, unI, mxA, mnA, mkAgg, fits, partN, partA, resN, retV, allVal, isVal, allCell, isCell, okVal, okCell, cellsOf, fillN, rowsN, cellsN, bnd, lohi, offAt, overL, segL, leave, NodeOK, List.cons_append, List.nil_append, List.append_nil, catA, anys, lenA]); try simp only [JR, dstOK, wrOK, frOK, rdOK, getL, getO]; try simp only [JR, dstOK, wrOK, frOK, rdOK, sig, sigF, isGrowB, mtc, mtcS, mtcSL, mtc0, mtc0L, mtcO, mtcL, memN, Nat.blt, rl, renV, renL, ren1, ren1L, ren, rens, renO, Nat.blt, lenO, getO, setO, setL, anys]; try simp))
        · exact w7.symm
        · refine ⟨by omega, enR y, by rw [List.getElem?_map, Int.toNat_natCast, q1]; rfl, ?_⟩
          simp only [enR]
          (refine eval_sound 2000 _ _ _ ?_; simp (maxSteps := 1000000) only [Bool.not_true, Bool.not_false, lookR, valOf, asGrow, jump, findA, restA, and, Nat.reduceAdd, Nat.reduceSub, Nat.reduceMul, Int.reduceToNat, eval, nf, nfO, opN, appTo, rowsV, getL, setL, getO, setO, snocO, lenO, putL, ev, evs, ifEq, killV, killL, kill1, kill1L, kill, kills, killO, killOs, bin, binI, binS, binB, eq1, eqB, lit, sameK, kn, unI, mxA, mnA, mkAgg, fits, partN, partA, resN, retV, allVal, isVal, allCell, isCell, okVal, okCell, cellsOf, fillN, rowsN, cellsN, bnd, lohi, offAt, overL, segL, leave, NodeOK, List.cons_append, List.nil_append, List.append_nil, catA, anys, lenA])
          ((try simp only [JR, dstOK, wrOK, frOK, rdOK, getL, getO]); (try simp only [JR, dstOK, wrOK, frOK, rdOK, sig, sigF, isGrowB, mtc, mtcS, mtcSL, mtc0, mtc0L, mtcO, mtcL, memN, Nat.blt, rl, renV, renL, ren1, ren1L, ren, rens, renO, Nat.blt, lenO, getO, setO, setL, anys, enR]); try simp)
        · (refine aw_call (hc) [] rfl (by simp [upM, nthN, matchO, rens, ren, ren1, ren1L, renL, renV, renO, rl, lenO, getO, Nat.blt, mtc, mtcS, mtcSL, mtc0, mtc0L, enA]) rfl (by simp [upM, nthN, matchO, rens, ren, ren1, ren1L, renL, renV, renO, rl, lenO, getO, Nat.blt, mtc, mtcS, mtcSL, mtc0, mtc0L, enA]) rfl (fun r hs hp hl => ?_); obtain ⟨rfl, rfl⟩ := hp; simp only [snocO, upM, nthN, putAll, snocAll, killsA, killOsA, grows, putL, rl, renV, renL, ren1, ren1L, ren, rens, renO, Nat.blt, lenO, getO, setO, setL, anys, enA]; (refine eval_sound 2000 _ _ _ ?_; simp (maxSteps := 1000000) only [Bool.not_true, Bool.not_false, lookR, valOf, asGrow, jump, findA, restA, and, Nat.reduceAdd, Nat.reduceSub, Nat.reduceMul, Int.reduceToNat, eval, nf, nfO, opN, appTo, rowsV, getL, setL, getO, setO, snocO, lenO, putL, ev, evs, ifEq, killV, killL, kill1, kill1L, kill, kills, killO, killOs, bin, binI, binS, binB, eq1, eqB, lit, sameK, kn, unI, mxA, mnA, mkAgg, fits, partN, partA, resN, retV, allVal, isVal, allCell, isCell, okVal, okCell, cellsOf, fillN, rowsN, cellsN, bnd, lohi, offAt, overL, segL, leave, NodeOK, List.cons_append, List.nil_append, List.append_nil, catA, anys, lenA]); (try simp only [JR, dstOK, wrOK, frOK, rdOK, getL, getO]); (try simp only [JR, dstOK, wrOK, frOK, rdOK, sig, sigF, isGrowB, mtc, mtcS, mtcSL, mtc0, mtc0L, mtcO, mtcL, memN, Nat.blt, rl, renV, renL, ren1, ren1L, ren, rens, renO, Nat.blt, lenO, getO, setO, setL, anys, enA]); try simp)
      · (simp only [tkO, dpO, tkN, AllOps, OpOK, mkR, autoV, autoR, labV, lkD, vOf, preT, preO, setTs, preV, wrt, memN, usesO, usesT, opT, optT, opsT, ptsT, setHs, objF, updD, newO, lkO, lkF, keysO, keysF, visN, deads, getL, setL, getO, setO, lenO, lenA, anys, setDs, setWr, setFr, endO, catD, List.getD_cons_zero, List.getD_cons_succ, List.getElem?_cons_zero, List.getElem?_cons_succ, List.cons_append, List.nil_append, List.append_nil, Nat.reduceAdd, Nat.reduceSub, Bool.not_true, Bool.not_false, lookR, valOf, asGrow, jump, findA, restA, and, Nat.reduceAdd, Nat.reduceSub, Nat.reduceMul, Int.reduceToNat, eval, nf, nfO, opN, appTo, rowsV, getL, setL, getO, setO, snocO, lenO, putL, ev, evs, ifEq, killV, killL, kill1, kill1L, kill, kills, killO, killOs, bin, binI, binS, binB, eq1, eqB, lit, sameK, kn, unI, mxA, mnA, mkAgg, fits, partN, partA, resN, retV, allVal, isVal, allCell, isCell, okVal, okCell, cellsOf, fillN, rowsN, cellsN, bnd, lohi, offAt, overL, segL, leave, NodeOK, List.cons_append, List.nil_append, List.append_nil, catA, anys, lenA]; (refine eval_sound 2000 _ _ _ ?_; simp (maxSteps := 1000000) only [Bool.not_true, Bool.not_false, lookR, valOf, asGrow, jump, findA, restA, and, Nat.reduceAdd, Nat.reduceSub, Nat.reduceMul, Int.reduceToNat, eval, nf, nfO, opN, appTo, rowsV, getL, setL, getO, setO, snocO, lenO, putL, ev, evs, ifEq, killV, killL, kill1, kill1L, kill, kills, killO, killOs, bin, binI, binS, binB, eq1, eqB, lit, sameK, kn, unI, mxA, mnA, mkAgg, fits, partN, partA, resN, retV, allVal, isVal, allCell, isCell, okVal, okCell, cellsOf, fillN, rowsN, cellsN, bnd, lohi, offAt, overL, segL, leave, NodeOK, List.cons_append, List.nil_append, List.append_nil, catA, anys, lenA]))
        rw [wr64 (n := (k : Int) + 1) (by omega) (by omega)]
        refine ⟨k + 1, by omega, by omega, ?_⟩
        (simp only [wrC, wrOs, keepT, memN, setsL, setsO, setL, setO, snocO, List.cons_append, List.nil_append, List.append_nil, Nat.reduceAdd, Nat.zero_add, Wk, mtc, mtcS, mtcSL, mtc0, mtc0L, mtcL, mtcO, mtcOs, cutM, takeE, stA, rl, renV, renL, ren1, ren1L, ren, rens, renO, Nat.blt, lenO, getO, setO, setL, anys, enA]; simp [enA])
    · rw [wr64 (n := (i : Int) + 1) (by omega) (by omega)]
      refine ⟨i + 1, by omega, by omega, ?_⟩
      (simp only [wrC, wrOs, keepT, memN, setsL, setsO, setL, setO, snocO, List.cons_append, List.nil_append, List.append_nil, Nat.reduceAdd, Nat.zero_add, Wk, mtc, mtcS, mtcSL, mtc0, mtc0L, mtcL, mtcO, mtcOs, cutM, takeE, stA, rl, renV, renL, ren1, ren1L, ren, rens, renO, Nat.blt, lenO, getO, setO, setL, anys, enA]; simp [enA])
  · refine ⟨fun h3 => ?_, fun h3 => ?_⟩
    · ((repeat (with_reducible refine And.intro ?_ ?_; focus (simp; done))); refine aw_call (hlive) [] rfl (by simp [upM, nthN, matchO, rens, ren, ren1, ren1L, renL, renV, renO, rl, lenO, getO, Nat.blt, mtc, mtcS, mtcSL, mtc0, mtc0L]) rfl (by simp [upM, nthN, matchO, rens, ren, ren1, ren1L, renL, renV, renO, rl, lenO, getO, Nat.blt, mtc, mtcS, mtcSL, mtc0, mtc0L]) rfl (fun r hs hp hl => ?_); obtain ⟨rfl, rfl⟩ := hp; simp only [snocO, upM, nthN, putAll, snocAll, killsA, killOsA, grows, putL, rl, renV, renL, ren1, ren1L, ren, rens, renO, Nat.blt, lenO, getO, setO, setL, anys]; (refine eval_sound 2000 _ _ _ ?_; simp (maxSteps := 1000000) only [Bool.not_true, Bool.not_false, lookR, valOf, asGrow, jump, findA, restA, and, Nat.reduceAdd, Nat.reduceSub, Nat.reduceMul, Int.reduceToNat, eval, nf, nfO, opN, appTo, rowsV, getL, setL, getO, setO, snocO, lenO, putL, ev, evs, ifEq, killV, killL, kill1, kill1L, kill, kills, killO, killOs, bin, binI, binS, binB, eq1, eqB, lit, sameK, kn, unI, mxA, mnA, mkAgg, fits, partN, partA, resN, retV, allVal, isVal, allCell, isCell, okVal, okCell, cellsOf, fillN, rowsN, cellsN, bnd, lohi, offAt, overL, segL, leave, NodeOK, List.cons_append, List.nil_append, List.append_nil, catA, anys, lenA]))
      ((repeat (with_reducible refine And.intro ?_ ?_; focus (simp; done))); refine ⟨[], rfl, _, _, ?_, ?_, rfl, rfl⟩ <;> simp [Wk, mtc, mtcS, mtcSL, mtc0, mtc0L, mtcL, mtcO, mtcOs, cutM, takeE, stA, rl, renV, renL, ren1, ren1L, ren, rens, renO, Nat.blt, lenO, getO, setO, setL, anys, okS, endM, endH, idxN, takeE, pickE, catO, rl, renV, renL, ren1, ren1L, ren, rens, renO, Nat.blt, lenO, getO, setO, setL, anys, enA])
    have hM0 : 0 < M := by simp at h3; omega
    obtain ⟨o, ho1, ho2, ho3⟩ := hO hM0
    obtain ⟨q1, q2, _, _, _, _, _⟩ := hE (M - 1) (by omega)
    generalize hey : E (M - 1) = y at *
    rw [wr64 (n := (M : Int) - 1) (by omega) (by omega)]
    refine ⟨by omega, enR y, by rw [List.getElem?_map, show ((M : Int) - 1).toNat = M - 1 by omega, q1]; rfl, ?_⟩
    simp only [enR]
    (refine eval_sound 2000 _ _ _ ?_; simp (maxSteps := 1000000) only [Bool.not_true, Bool.not_false, lookR, valOf, asGrow, jump, findA, restA, and, Nat.reduceAdd, Nat.reduceSub, Nat.reduceMul, Int.reduceToNat, eval, nf, nfO, opN, appTo, rowsV, getL, setL, getO, setO, snocO, lenO, putL, ev, evs, ifEq, killV, killL, kill1, kill1L, kill, kills, killO, killOs, bin, binI, binS, binB, eq1, eqB, lit, sameK, kn, unI, mxA, mnA, mkAgg, fits, partN, partA, resN, retV, allVal, isVal, allCell, isCell, okVal, okCell, cellsOf, fillN, rowsN, cellsN, bnd, lohi, offAt, overL, segL, leave, NodeOK, List.cons_append, List.nil_append, List.append_nil, catA, anys, lenA])
    (repeat (with_reducible refine And.intro ?_ ?_; focus (simp; done)))
    simp only [hlen2]
    have hyi : y.i = base + M := by omega
    clear hE hT hO h2 hi
    refine aw_loopU (α := Nat) (fun j => j ≤ all.length ∧ ∀ e ∈ (all.take j).flatten, ¬ (e.i = y.i ∧ alikeL e y = true)) (fun j => [(8, .ff), (100, .int .i64 j)]) (fun j => []) (fun j => all.length - j) (0) (⟨Nat.zero_le _, by simp⟩) ?_ fun j hj => ?_
    · (simp only [wrC, wrOs, keepT, memN, setsL, setsO, setL, setO, snocO, List.cons_append, List.nil_append, List.append_nil, Nat.reduceAdd, Nat.zero_add, Wk, mtc, mtcS, mtcSL, mtc0, mtc0L, mtcL, mtcO, mtcOs, cutM, takeE, stA, rl, renV, renL, ren1, ren1L, ren, rens, renO, Nat.blt, lenO, getO, setO, setL, anys, enA]; simp [enA])
    obtain ⟨hj0, hj1⟩ := hj
    (simp only [wrC, wrOs, keepT, memN, setsL, setsO, setL, setO, snocO, List.cons_append, List.nil_append, List.append_nil, Nat.reduceAdd, Nat.zero_add, enA]; (refine eval_sound 2000 _ _ _ ?_; simp (maxSteps := 1000000) only [Bool.not_true, Bool.not_false, lookR, valOf, asGrow, jump, findA, restA, and, Nat.reduceAdd, Nat.reduceSub, Nat.reduceMul, Int.reduceToNat, eval, nf, nfO, opN, appTo, rowsV, getL, setL, getO, setO, snocO, lenO, putL, ev, evs, ifEq, killV, killL, kill1, kill1L, kill, kills, killO, killOs, bin, binI, binS, binB, eq1, eqB, lit, sameK, kn, unI, mxA, mnA, mkAgg, fits, partN, partA, resN, retV, allVal, isVal, allCell, isCell, okVal, okCell, cellsOf, fillN, rowsN, cellsN, bnd, lohi, offAt, overL, segL, leave, NodeOK, List.cons_append, List.nil_append, List.append_nil, catA, anys, lenA]))
    simp only [decide_eq_true_eq, decide_eq_false_iff_not, hlen2]
    refine ⟨fun h4 => ?_, fun h4 => ?_⟩
    · obtain ⟨l3, hl3⟩ : ∃ l, all[j]? = some l := ⟨_, List.getElem?_eq_getElem (show j < all.length by omega)⟩
      obtain ⟨hl4, hl5⟩ := hf.at_ hl3
      have e1 : (all.take (j + 1)).flatten = (all.take j).flatten ++ l3 := by rw [List.take_add_one, hl3]; simp
      refine ⟨by omega, [.ro 10 (l3.map enR)], by unfold listsR; rw [List.getElem?_map, Int.toNat_natCast, hl3]; rfl, ?_⟩
      (refine eval_sound 2000 _ _ _ ?_; simp (maxSteps := 1000000) only [Bool.not_true, Bool.not_false, lookR, valOf, asGrow, jump, findA, restA, and, Nat.reduceAdd, Nat.reduceSub, Nat.reduceMul, Int.reduceToNat, eval, nf, nfO, opN, appTo, rowsV, getL, setL, getO, setO, snocO, lenO, putL, ev, evs, ifEq, killV, killL, kill1, kill1L, kill, kills, killO, killOs, bin, binI, binS, binB, eq1, eqB, lit, sameK, kn, unI, mxA, mnA, mkAgg, fits, partN, partA, resN, retV, allVal, isVal, allCell, isCell, okVal, okCell, cellsOf, fillN, rowsN, cellsN, bnd, lohi, offAt, overL, segL, leave, NodeOK, List.cons_append, List.nil_append, List.append_nil, catA, anys, lenA])
      refine aw_loopU (α := Nat) (fun k => k ≤ l3.length ∧ ∀ e ∈ l3.take k, ¬ (e.i = y.i ∧ alikeL e y = true)) (fun k => [(8, .ff), (106, .int .i64 k)]) (fun k => []) (fun k => l3.length - k) (0) (⟨Nat.zero_le _, by simp⟩) ?_ fun k hk => ?_
      · (simp only [wrC, wrOs, keepT, memN, setsL, setsO, setL, setO, snocO, List.cons_append, List.nil_append, List.append_nil, Nat.reduceAdd, Nat.zero_add, Wk, mtc, mtcS, mtcSL, mtc0, mtc0L, mtcL, mtcO, mtcOs, cutM, takeE, stA, rl, renV, renL, ren1, ren1L, ren, rens, renO, Nat.blt, lenO, getO, setO, setL, anys, enA]; simp [enA])
      obtain ⟨hk0, hk1⟩ := hk
      (simp only [wrC, wrOs, keepT, memN, setsL, setsO, setL, setO, snocO, List.cons_append, List.nil_append, List.append_nil, Nat.reduceAdd, Nat.zero_add, enA]; (refine eval_sound 2000 _ _ _ ?_; simp (maxSteps := 1000000) only [Bool.not_true, Bool.not_false, lookR, valOf, asGrow, jump, findA, restA, and, Nat.reduceAdd, Nat.reduceSub, Nat.reduceMul, Int.reduceToNat, eval, nf, nfO, opN, appTo, rowsV, getL, setL, getO, setO, snocO, lenO, putL, ev, evs, ifEq, killV, killL, kill1, kill1L, kill, kills, killO, killOs, bin, binI, binS, binB, eq1, eqB, lit, sameK, kn, unI, mxA, mnA, mkAgg, fits, partN, partA, resN, retV, allVal, isVal, allCell, isCell, okVal, okCell, cellsOf, fillN, rowsN, cellsN, bnd, lohi, offAt, overL, segL, leave, NodeOK, List.cons_append, List.nil_append, List.append_nil, catA, anys, lenA]))
      simp only [decide_eq_true_eq, decide_eq_false_iff_not, List.length_map]
      refine ⟨fun h5 => ?_, fun h5 => ?_⟩
      · obtain ⟨e, he⟩ : ∃ e, l3[k]? = some e := ⟨_, List.getElem?_eq_getElem (show k < l3.length by omega)⟩
        have e2 : l3.take (k + 1) = l3.take k ++ [e] := by rw [List.take_add_one, he]; rfl
        have w8 : IntKind.i64.wrap ((k : Int) + 1) = ((k + 1 : Nat) : Int) := by rw [wr64 (by omega) (by omega)]; rfl
        have hnext : ¬ (e.i = y.i ∧ alikeL e y = true) → ∀ x ∈ l3.take (k + 1), ¬ (x.i = y.i ∧ alikeL x y = true) := fun h x hx => by
          rw [e2] at hx
          rcases List.mem_append.1 hx with h6 | h6
          · exact hk1 x h6
          · have : x = e := by simpa using h6
            rw [this]; exact h
        refine ⟨by omega, enR e, by rw [List.getElem?_map, Int.toNat_natCast, he]; rfl, ?_⟩
        simp only [enR]
        (refine eval_sound 2000 _ _ _ ?_; simp (maxSteps := 1000000) only [Bool.not_true, Bool.not_false, lookR, valOf, asGrow, jump, findA, restA, and, Nat.reduceAdd, Nat.reduceSub, Nat.reduceMul, Int.reduceToNat, eval, nf, nfO, opN, appTo, rowsV, getL, setL, getO, setO, snocO, lenO, putL, ev, evs, ifEq, killV, killL, kill1, kill1L, kill, kills, killO, killOs, bin, binI, binS, binB, eq1, eqB, lit, sameK, kn, unI, mxA, mnA, mkAgg, fits, partN, partA, resN, retV, allVal, isVal, allCell, isCell, okVal, okCell, cellsOf, fillN, rowsN, cellsN, bnd, lohi, offAt, overL, segL, leave, NodeOK, List.cons_append, List.nil_append, List.append_nil, catA, anys, lenA])
        (repeat (with_reducible refine And.intro ?_ ?_; focus (simp; done)))
        refine ⟨fun h6 => ?_, fun h6 => ?_⟩
        · ((repeat (with_reducible refine And.intro ?_ ?_; focus (simp; done))); refine aw_call (alike_c e y) [] rfl (by simp [upM, nthN, matchO, rens, ren, ren1, ren1L, renL, renV, renO, rl, lenO, getO, Nat.blt, mtc, mtcS, mtcSL, mtc0, mtc0L, enA]) rfl (by simp [upM, nthN, matchO, rens, ren, ren1, ren1L, renL, renV, renO, rl, lenO, getO, Nat.blt, mtc, mtcS, mtcSL, mtc0, mtc0L, enA]) rfl (fun r hs hp hl => ?_); obtain ⟨rfl, rfl⟩ := hp; simp only [snocO, upM, nthN, putAll, snocAll, killsA, killOsA, grows, putL, rl, renV, renL, ren1, ren1L, ren, rens, renO, Nat.blt, lenO, getO, setO, setL, anys, enA]; (refine eval_sound 2000 _ _ _ ?_; simp (maxSteps := 1000000) only [Bool.not_true, Bool.not_false, lookR, valOf, asGrow, jump, findA, restA, and, Nat.reduceAdd, Nat.reduceSub, Nat.reduceMul, Int.reduceToNat, eval, nf, nfO, opN, appTo, rowsV, getL, setL, getO, setO, snocO, lenO, putL, ev, evs, ifEq, killV, killL, kill1, kill1L, kill, kills, killO, killOs, bin, binI, binS, binB, eq1, eqB, lit, sameK, kn, unI, mxA, mnA, mkAgg, fits, partN, partA, resN, retV, allVal, isVal, allCell, isCell, okVal, okCell, cellsOf, fillN, rowsN, cellsN, bnd, lohi, offAt, overL, segL, leave, NodeOK, List.cons_append, List.nil_append, List.append_nil, catA, anys, lenA]))
          refine ⟨fun h7 => ?_, fun h7 => ?_⟩
          · ((repeat (with_reducible refine And.intro ?_ ?_; focus (simp; done))); refine aw_call (hlive) [] rfl (by simp [upM, nthN, matchO, rens, ren, ren1, ren1L, renL, renV, renO, rl, lenO, getO, Nat.blt, mtc, mtcS, mtcSL, mtc0, mtc0L]) rfl (by simp [upM, nthN, matchO, rens, ren, ren1, ren1L, renL, renV, renO, rl, lenO, getO, Nat.blt, mtc, mtcS, mtcSL, mtc0, mtc0L]) rfl (fun r hs hp hl => ?_); obtain ⟨rfl, rfl⟩ := hp; simp only [snocO, upM, nthN, putAll, snocAll, killsA, killOsA, grows, putL, rl, renV, renL, ren1, ren1L, ren, rens, renO, Nat.blt, lenO, getO, setO, setL, anys]; (refine eval_sound 2000 _ _ _ ?_; simp (maxSteps := 1000000) only [Bool.not_true, Bool.not_false, lookR, valOf, asGrow, jump, findA, restA, and, Nat.reduceAdd, Nat.reduceSub, Nat.reduceMul, Int.reduceToNat, eval, nf, nfO, opN, appTo, rowsV, getL, setL, getO, setO, snocO, lenO, putL, ev, evs, ifEq, killV, killL, kill1, kill1L, kill, kills, killO, killOs, bin, binI, binS, binB, eq1, eqB, lit, sameK, kn, unI, mxA, mnA, mkAgg, fits, partN, partA, resN, retV, allVal, isVal, allCell, isCell, okVal, okCell, cellsOf, fillN, rowsN, cellsN, bnd, lohi, offAt, overL, segL, leave, NodeOK, List.cons_append, List.nil_append, List.append_nil, catA, anys, lenA]))
            ((repeat (with_reducible refine And.intro ?_ ?_; focus (simp; done))); refine ⟨[], rfl, _, _, ?_, ?_, rfl, rfl⟩ <;> simp [Wk, mtc, mtcS, mtcSL, mtc0, mtc0L, mtcL, mtcO, mtcOs, cutM, takeE, stA, rl, renV, renL, ren1, ren1L, ren, rens, renO, Nat.blt, lenO, getO, setO, setL, anys, okS, endM, endH, idxN, takeE, pickE, catO, rl, renV, renL, ren1, ren1L, ren, rens, renO, Nat.blt, lenO, getO, setO, setL, anys, enA])
          · rw [w8]
            refine ⟨k + 1, ⟨by omega, hnext (fun h => by rw [h.2] at h7; cases h7)⟩, by omega, ?_⟩
            (simp only [wrC, wrOs, keepT, memN, setsL, setsO, setL, setO, snocO, List.cons_append, List.nil_append, List.append_nil, Nat.reduceAdd, Nat.zero_add, Wk, mtc, mtcS, mtcSL, mtc0, mtc0L, mtcL, mtcO, mtcOs, cutM, takeE, stA, rl, renV, renL, ren1, ren1L, ren, rens, renO, Nat.blt, lenO, getO, setO, setL, anys, enA]; simp [enA])
        · rw [w8]
          refine ⟨k + 1, ⟨by omega, hnext (fun h => by simp at h6; exact h6 h.1)⟩, by omega, ?_⟩
          (simp only [wrC, wrOs, keepT, memN, setsL, setsO, setL, setO, snocO, List.cons_append, List.nil_append, List.append_nil, Nat.reduceAdd, Nat.zero_add, Wk, mtc, mtcS, mtcSL, mtc0, mtc0L, mtcL, mtcO, mtcOs, cutM, takeE, stA, rl, renV, renL, ren1, ren1L, ren, rens, renO, Nat.blt, lenO, getO, setO, setL, anys, enA]; simp [enA])
      · have hk2 : k = l3.length := by omega
        subst hk2
        rw [List.take_length] at hk1
        rw [wr64 (n := (j : Int) + 1) (by omega) (by omega)]
        refine ⟨j + 1, ⟨by omega, fun e he => ?_⟩, by omega, ?_⟩
        · rw [e1] at he
          rcases List.mem_append.1 he with h6 | h6
          · exact hj1 e h6
          · exact hk1 e h6
        · (simp only [wrC, wrOs, keepT, memN, setsL, setsO, setL, setO, snocO, List.cons_append, List.nil_append, List.append_nil, Nat.reduceAdd, Nat.zero_add, Wk, mtc, mtcS, mtcSL, mtc0, mtc0L, mtcL, mtcO, mtcOs, cutM, takeE, stA, rl, renV, renL, ren1, ren1L, ren, rens, renO, Nat.blt, lenO, getO, setO, setL, anys, enA]; simp [enA])
    · have hj2 : j = all.length := by omega
      subst hj2
      rw [List.take_length] at hj1
      exact absurd ⟨by rw [ho2, hyi], ho3⟩ (hj1 o ho1)
end Go.Proofs.Ytejflbmpokdhgaa.S
