/- FrameTorn returns true. -/
import Derived.Test.YtjkmnmpjcdanhaaFm9
import Derived.Test.YtjkmnmpjcdanhaaFm10
import Derived.Test.YtjkmnmpjcdanhaaFmRow
namespace Go.Proofs.Ytjkmnmpjcdanhaa.S
set_option linter.all false
set_option maxRecDepth 100000
set_option maxHeartbeats 2000000
def i64s (l : List Int) : List (List AV) := l.map fun n => [.int .i64 n]
theorem i64s_len (l : List Int) : (i64s l).length = l.length := List.length_map _
theorem i64s_at (l : List Int) (i : Nat) : (i64s l)[i]? = l[i]?.map fun n => [.int .i64 n] := List.getElem?_map
/-- What Make tells of a text that is not long: nothing for the number nought. -/
theorem make_any (n : Nat) (t : List Int) (ht : t.length ≤ 1000) : ∃ S, S ≤ 22 ∧ (makeI n t).1 = frameK (sealI (numI (t.length : Nat) 4 ++ t)) n S ∧ ((n = 0 ∧ S = 0 ∧ (makeI n t).2 = 2) ∨ (0 < n ∧ S = (t.length + 55) / 48 ∧ (makeI n t).2 = 0)) := by
  by_cases h : n = 0
  · subst h
    exact ⟨0, by omega, by unfold makeI; rw [if_pos (by rfl)]; rfl, .inl ⟨rfl, rfl, by unfold makeI; rw [if_pos (by rfl)]⟩⟩
  · rw [make_eq n (by omega) t (by omega)]
    exact ⟨(t.length + 55) / 48, by omega, rfl, .inr ⟨by omega, rfl, rfl⟩⟩
theorem ftorn (old n : Nat) (hold : old < 18446744073709551616) (hn : n < 18446744073709551616) (was text keep : List Int) (hw : ByteL was) (ht : ByteL text) : ACalls Try.prog 9 [.int .u64 (old : Nat), .int .u64 (n : Nat), .ro 1 (u8s was), .ro 1 (u8s text), .ro 1 (i64s keep)] [] (fun r hs => r = .bool true ∧ hs = []) := by
  refine acalls_weak (acalls_of (fn := Try.f9) (A := a9) Try.func9 ok_9 en_9 ?_)
  dsimp only [a9, u8s_len, i64s_len]
  (refine eval_sound 2000 _ _ _ ?_; simp (maxSteps := 1000000) only [ptrL, lenV, Bool.not_true, Bool.not_false, lookR, valOf, asGrow, jump, findA, restA, and, Nat.reduceAdd, Nat.reduceSub, Nat.reduceMul, Int.reduceToNat, eval, nf, nfO, opN, appTo, rowsV, getL, setL, getO, setO, snocO, lenO, putL, ev, evs, ifEq, killV, killL, kill1, kill1L, kill, kills, killO, killOs, bin, binI, binS, binB, eq1, eqB, lit, sameK, kn, unI, mxA, mnA, mkAgg, fits, partN, partA, resN, retV, allVal, isVal, allCell, isCell, okVal, okCell, cellsOf, fillN, rowsN, cellsN, bnd, lohi, offAt, overL, segL, leave, NodeOK, List.cons_append, List.nil_append, List.append_nil, catA, anys, lenA])
  simp only [decide_eq_true_eq, decide_eq_false_iff_not, u8s_len, i64s_len]
  refine ⟨fun h1 => ?_, fun h1 => ⟨fun h2 => ?_, fun h2 => ⟨fun h3 => ?_, fun h3 => ⟨fun h4 => ?_, fun h4 => ?_⟩⟩⟩⟩
  · ((repeat (with_reducible refine And.intro ?_ ?_; focus (simp; done))); refine aw_call (flives) [] rfl (by simp [upM, nthN, matchO, rens, ren, ren1, ren1L, renL, renV, renO, rl, lenO, getO, Nat.blt, mtc, mtcS, mtcSL, mtc0, mtc0L, u8s_len]) rfl (by simp [upM, nthN, matchO, rens, ren, ren1, ren1L, renL, renV, renO, rl, lenO, getO, Nat.blt, mtc, mtcS, mtcSL, mtc0, mtc0L, u8s_len]) rfl (fun r hs hp hl => ?_); obtain ⟨rfl, rfl⟩ := hp; simp only [snocO, upM, nthN, putAll, snocAll, killsA, killOsA, grows, putL, rl, renV, renL, ren1, ren1L, ren, rens, renO, Nat.blt, lenO, getO, setO, setL, anys, u8s_len]; (refine eval_sound 2000 _ _ _ ?_; simp (maxSteps := 1000000) only [ptrL, lenV, Bool.not_true, Bool.not_false, lookR, valOf, asGrow, jump, findA, restA, and, Nat.reduceAdd, Nat.reduceSub, Nat.reduceMul, Int.reduceToNat, eval, nf, nfO, opN, appTo, rowsV, getL, setL, getO, setO, snocO, lenO, putL, ev, evs, ifEq, killV, killL, kill1, kill1L, kill, kills, killO, killOs, bin, binI, binS, binB, eq1, eqB, lit, sameK, kn, unI, mxA, mnA, mkAgg, fits, partN, partA, resN, retV, allVal, isVal, allCell, isCell, okVal, okCell, cellsOf, fillN, rowsN, cellsN, bnd, lohi, offAt, overL, segL, leave, NodeOK, List.cons_append, List.nil_append, List.append_nil, catA, anys, lenA]))
    ((repeat (with_reducible refine And.intro ?_ ?_; focus (simp; done))); refine ⟨[], rfl, _, _, ?_, ?_, rfl, rfl⟩ <;> simp [Wk, mtc, mtcS, mtcSL, mtc0, mtc0L, mtcL, mtcO, mtcOs, cutM, takeE, stA, rl, renV, renL, ren1, ren1L, ren, rens, renO, Nat.blt, lenO, getO, setO, setL, anys, okS, endM, endH, idxN, takeE, pickE, catO, rl, renV, renL, ren1, ren1L, ren, rens, renO, Nat.blt, lenO, getO, setO, setL, anys, u8s_len])
  · ((repeat (with_reducible refine And.intro ?_ ?_; focus (simp; done))); refine aw_call (flives) [] rfl (by simp [upM, nthN, matchO, rens, ren, ren1, ren1L, renL, renV, renO, rl, lenO, getO, Nat.blt, mtc, mtcS, mtcSL, mtc0, mtc0L, u8s_len]) rfl (by simp [upM, nthN, matchO, rens, ren, ren1, ren1L, renL, renV, renO, rl, lenO, getO, Nat.blt, mtc, mtcS, mtcSL, mtc0, mtc0L, u8s_len]) rfl (fun r hs hp hl => ?_); obtain ⟨rfl, rfl⟩ := hp; simp only [snocO, upM, nthN, putAll, snocAll, killsA, killOsA, grows, putL, rl, renV, renL, ren1, ren1L, ren, rens, renO, Nat.blt, lenO, getO, setO, setL, anys, u8s_len]; (refine eval_sound 2000 _ _ _ ?_; simp (maxSteps := 1000000) only [ptrL, lenV, Bool.not_true, Bool.not_false, lookR, valOf, asGrow, jump, findA, restA, and, Nat.reduceAdd, Nat.reduceSub, Nat.reduceMul, Int.reduceToNat, eval, nf, nfO, opN, appTo, rowsV, getL, setL, getO, setO, snocO, lenO, putL, ev, evs, ifEq, killV, killL, kill1, kill1L, kill, kills, killO, killOs, bin, binI, binS, binB, eq1, eqB, lit, sameK, kn, unI, mxA, mnA, mkAgg, fits, partN, partA, resN, retV, allVal, isVal, allCell, isCell, okVal, okCell, cellsOf, fillN, rowsN, cellsN, bnd, lohi, offAt, overL, segL, leave, NodeOK, List.cons_append, List.nil_append, List.append_nil, catA, anys, lenA]))
    ((repeat (with_reducible refine And.intro ?_ ?_; focus (simp; done))); refine ⟨[], rfl, _, _, ?_, ?_, rfl, rfl⟩ <;> simp [Wk, mtc, mtcS, mtcSL, mtc0, mtc0L, mtcL, mtcO, mtcOs, cutM, takeE, stA, rl, renV, renL, ren1, ren1L, ren, rens, renO, Nat.blt, lenO, getO, setO, setL, anys, okS, endM, endH, idxN, takeE, pickE, catO, rl, renV, renL, ren1, ren1L, ren, rens, renO, Nat.blt, lenO, getO, setO, setL, anys, u8s_len])
  · ((repeat (with_reducible refine And.intro ?_ ?_; focus (simp; done))); refine aw_call (flives) [] rfl (by simp [upM, nthN, matchO, rens, ren, ren1, ren1L, renL, renV, renO, rl, lenO, getO, Nat.blt, mtc, mtcS, mtcSL, mtc0, mtc0L, u8s_len]) rfl (by simp [upM, nthN, matchO, rens, ren, ren1, ren1L, renL, renV, renO, rl, lenO, getO, Nat.blt, mtc, mtcS, mtcSL, mtc0, mtc0L, u8s_len]) rfl (fun r hs hp hl => ?_); obtain ⟨rfl, rfl⟩ := hp; simp only [snocO, upM, nthN, putAll, snocAll, killsA, killOsA, grows, putL, rl, renV, renL, ren1, ren1L, ren, rens, renO, Nat.blt, lenO, getO, setO, setL, anys, u8s_len]; (refine eval_sound 2000 _ _ _ ?_; simp (maxSteps := 1000000) only [ptrL, lenV, Bool.not_true, Bool.not_false, lookR, valOf, asGrow, jump, findA, restA, and, Nat.reduceAdd, Nat.reduceSub, Nat.reduceMul, Int.reduceToNat, eval, nf, nfO, opN, appTo, rowsV, getL, setL, getO, setO, snocO, lenO, putL, ev, evs, ifEq, killV, killL, kill1, kill1L, kill, kills, killO, killOs, bin, binI, binS, binB, eq1, eqB, lit, sameK, kn, unI, mxA, mnA, mkAgg, fits, partN, partA, resN, retV, allVal, isVal, allCell, isCell, okVal, okCell, cellsOf, fillN, rowsN, cellsN, bnd, lohi, offAt, overL, segL, leave, NodeOK, List.cons_append, List.nil_append, List.append_nil, catA, anys, lenA]))
    ((repeat (with_reducible refine And.intro ?_ ?_; focus (simp; done))); refine ⟨[], rfl, _, _, ?_, ?_, rfl, rfl⟩ <;> simp [Wk, mtc, mtcS, mtcSL, mtc0, mtc0L, mtcL, mtcO, mtcOs, cutM, takeE, stA, rl, renV, renL, ren1, ren1L, ren, rens, renO, Nat.blt, lenO, getO, setO, setL, anys, okS, endM, endH, idxN, takeE, pickE, catO, rl, renV, renL, ren1, ren1L, ren, rens, renO, Nat.blt, lenO, getO, setO, setL, anys, u8s_len])
  · ((repeat (with_reducible refine And.intro ?_ ?_; focus (simp; done))); refine aw_call (flives) [] rfl (by simp [upM, nthN, matchO, rens, ren, ren1, ren1L, renL, renV, renO, rl, lenO, getO, Nat.blt, mtc, mtcS, mtcSL, mtc0, mtc0L, u8s_len]) rfl (by simp [upM, nthN, matchO, rens, ren, ren1, ren1L, renL, renV, renO, rl, lenO, getO, Nat.blt, mtc, mtcS, mtcSL, mtc0, mtc0L, u8s_len]) rfl (fun r hs hp hl => ?_); obtain ⟨rfl, rfl⟩ := hp; simp only [snocO, upM, nthN, putAll, snocAll, killsA, killOsA, grows, putL, rl, renV, renL, ren1, ren1L, ren, rens, renO, Nat.blt, lenO, getO, setO, setL, anys, u8s_len]; (refine eval_sound 2000 _ _ _ ?_; simp (maxSteps := 1000000) only [ptrL, lenV, Bool.not_true, Bool.not_false, lookR, valOf, asGrow, jump, findA, restA, and, Nat.reduceAdd, Nat.reduceSub, Nat.reduceMul, Int.reduceToNat, eval, nf, nfO, opN, appTo, rowsV, getL, setL, getO, setO, snocO, lenO, putL, ev, evs, ifEq, killV, killL, kill1, kill1L, kill, kills, killO, killOs, bin, binI, binS, binB, eq1, eqB, lit, sameK, kn, unI, mxA, mnA, mkAgg, fits, partN, partA, resN, retV, allVal, isVal, allCell, isCell, okVal, okCell, cellsOf, fillN, rowsN, cellsN, bnd, lohi, offAt, overL, segL, leave, NodeOK, List.cons_append, List.nil_append, List.append_nil, catA, anys, lenA]))
    ((repeat (with_reducible refine And.intro ?_ ?_; focus (simp; done))); refine ⟨[], rfl, _, _, ?_, ?_, rfl, rfl⟩ <;> simp [Wk, mtc, mtcS, mtcSL, mtc0, mtc0L, mtcL, mtcO, mtcOs, cutM, takeE, stA, rl, renV, renL, ren1, ren1L, ren, rens, renO, Nat.blt, lenO, getO, setO, setL, anys, okS, endM, endH, idxN, takeE, pickE, catO, rl, renV, renL, ren1, ren1L, ren, rens, renO, Nat.blt, lenO, getO, setO, setL, anys, u8s_len])
  have h0 : old < n := by omega
  have cA := make_c old ⟨by omega, by omega⟩ was hw (by omega)
  have cB := make_c n ⟨by omega, by omega⟩ text ht (by omega)
  obtain ⟨Sa, ka, ea, ha⟩ := make_any old was (by omega)
  obtain ⟨Sb, kb, eb, hb⟩ := make_any n text (by omega)
  have la := frameK_len (sealI (numI (was.length : Nat) 4 ++ was)) old Sa
  have lb := frameK_len (sealI (numI (text.length : Nat) 4 ++ text)) n Sb
  have bA := makeI_byte old hw
  have bB := makeI_byte n ht
  obtain ⟨hb1, hb2, hb3⟩ : 0 < n ∧ Sb = (text.length + 55) / 48 ∧ (makeI n text).2 = 0 := by omega
  rw [ea] at cA bA
  rw [eb, hb3] at cB
  rw [eb] at bB
  have hea : ((makeI old was).2 != 0) = ((old : Int) == 0) := by
    rcases ha with ⟨q1, _, q2⟩ | ⟨q1, _, q2⟩
    · rw [q2, q1]; rfl
    · rw [q2]; have : ¬ old = 0 := by omega
      simp [this]
  generalize (makeI old was).2 = e at *
  have hb0 : 0 < Sb := by omega
  generalize hfa : frameK (sealI (numI (was.length : Nat) 4 ++ was)) old Sa = fa at *
  generalize hfb : frameK (sealI (numI (text.length : Nat) 4 ++ text)) n Sb = fb at *
  ((repeat (with_reducible refine And.intro ?_ ?_; focus (simp; done))); refine aw_call (cA) [] rfl (by simp [upM, nthN, matchO, rens, ren, ren1, ren1L, renL, renV, renO, rl, lenO, getO, Nat.blt, mtc, mtcS, mtcSL, mtc0, mtc0L, u8s_len]) rfl (by simp [upM, nthN, matchO, rens, ren, ren1, ren1L, renL, renV, renO, rl, lenO, getO, Nat.blt, mtc, mtcS, mtcSL, mtc0, mtc0L, u8s_len]) rfl (fun r hs hp hl => ?_); obtain ⟨rfl, rfl⟩ := hp; simp only [snocO, upM, nthN, putAll, snocAll, killsA, killOsA, grows, putL, rl, renV, renL, ren1, ren1L, ren, rens, renO, Nat.blt, lenO, getO, setO, setL, anys, u8s_len]; (refine eval_sound 2000 _ _ _ ?_; simp (maxSteps := 1000000) only [ptrL, lenV, Bool.not_true, Bool.not_false, lookR, valOf, asGrow, jump, findA, restA, and, Nat.reduceAdd, Nat.reduceSub, Nat.reduceMul, Int.reduceToNat, eval, nf, nfO, opN, appTo, rowsV, getL, setL, getO, setO, snocO, lenO, putL, ev, evs, ifEq, killV, killL, kill1, kill1L, kill, kills, killO, killOs, bin, binI, binS, binB, eq1, eqB, lit, sameK, kn, unI, mxA, mnA, mkAgg, fits, partN, partA, resN, retV, allVal, isVal, allCell, isCell, okVal, okCell, cellsOf, fillN, rowsN, cellsN, bnd, lohi, offAt, overL, segL, leave, NodeOK, List.cons_append, List.nil_append, List.append_nil, catA, anys, lenA]))
  ((repeat (with_reducible refine And.intro ?_ ?_; focus (simp; done))); refine aw_call (cB) [] rfl (by simp [upM, nthN, matchO, rens, ren, ren1, ren1L, renL, renV, renO, rl, lenO, getO, Nat.blt, mtc, mtcS, mtcSL, mtc0, mtc0L, u8s_len]) rfl (by simp [upM, nthN, matchO, rens, ren, ren1, ren1L, renL, renV, renO, rl, lenO, getO, Nat.blt, mtc, mtcS, mtcSL, mtc0, mtc0L, u8s_len]) rfl (fun r hs hp hl => ?_); obtain ⟨rfl, rfl⟩ := hp; simp only [snocO, upM, nthN, putAll, snocAll, killsA, killOsA, grows, putL, rl, renV, renL, ren1, ren1L, ren, rens, renO, Nat.blt, lenO, getO, setO, setL, anys, u8s_len]; (refine eval_sound 2000 _ _ _ ?_; simp (maxSteps := 1000000) only [ptrL, lenV, Bool.not_true, Bool.not_false, lookR, valOf, asGrow, jump, findA, restA, and, Nat.reduceAdd, Nat.reduceSub, Nat.reduceMul, Int.reduceToNat, eval, nf, nfO, opN, appTo, rowsV, getL, setL, getO, setO, snocO, lenO, putL, ev, evs, ifEq, killV, killL, kill1, kill1L, kill, kills, killO, killOs, bin, binI, binS, binB, eq1, eqB, lit, sameK, kn, unI, mxA, mnA, mkAgg, fits, partN, partA, resN, retV, allVal, isVal, allCell, isCell, okVal, okCell, cellsOf, fillN, rowsN, cellsN, bnd, lohi, offAt, overL, segL, leave, NodeOK, List.cons_append, List.nil_append, List.append_nil, catA, anys, lenA]))
  (repeat (with_reducible refine And.intro ?_ ?_; focus (simp; done)))
  simp only [u8s_len, la, lb]
  have hmx : (if ((64 * Sb : Nat) : Int) > ((64 * Sa : Nat) : Int) then ((64 * Sb : Nat) : Int) else ((64 * Sa : Nat) : Int)) = ((64 * max Sa Sb : Nat) : Int) := by
    split <;> omega
  have hM1 : Sb ≤ max Sa Sb := by omega
  have hM2 : Sa ≤ max Sa Sb := by omega
  have hM3 : max Sa Sb ≤ 22 := by omega
  rw [hmx]
  generalize max Sa Sb = M at *
  refine fun _ => ⟨fun h => ?_, fun _ => ⟨⟨by omega, by omega, by omega, by omega⟩, ?_, by omega, ?_⟩⟩
  · rw [hea] at h
    simp at h
  · simp
  have hov : over (List.replicate ((64 * M : Nat) : Int).toNat [AV.int .u8 0]).flatten 0 (List.take (min (64 * Sa) ((64 * M : Nat) : Int).toNat * 1) (u8s fa).flatten) = u8c (fa ++ List.replicate (64 * M - 64 * Sa) 0) := by
    rw [Int.toNat_natCast, u8c_flat, Nat.min_eq_left (by omega), Nat.mul_one, List.take_of_length_le (by rw [u8c_len]; omega)]
    have : (List.replicate (64 * M) [AV.int .u8 0]).flatten = u8c (List.replicate (64 * M) 0) := by
      rw [← u8c_flat]; unfold u8s; rw [List.map_replicate]
    rw [this]
    unfold over u8c
    rw [List.take_zero, List.nil_append, ← List.map_drop, List.drop_replicate, List.map_append, List.length_map, la, Nat.zero_add]
  rw [hov]
  have hB0 : ∀ i, i < M → Sec (fa ++ List.replicate (64 * M - 64 * Sa) 0) i = bsK (sealI (numI (was.length : Nat) 4 ++ was)) old Sa i := fun i hi => by
    unfold bsK
    split
    · rw [← hfa]; exact sec_frame _ old Sa i _ (by assumption)
    · unfold Sec
      rw [List.drop_append, List.drop_of_length_le (by omega), List.nil_append, List.drop_replicate, List.take_replicate, show min 64 (64 * M - 64 * Sa - (64 * i - fa.length)) = 64 by omega]
      rfl
  have hSB : ∀ i, i < Sb → Sec fb i = secK (sealI (numI (text.length : Nat) 4 ++ text)) n i := fun i hi => by
    have := sec_frame (sealI (numI (text.length : Nat) 4 ++ text)) n Sb i [] hi
    rw [List.append_nil, hfb] at this
    exact this
  have hbz : ByteL (fa ++ List.replicate (64 * M - 64 * Sa) 0) := fun x hx => by
    rcases List.mem_append.1 hx with hx | hx
    · exact bA x hx
    · rw [List.eq_of_mem_replicate hx]; omega
  have hlz : (fa ++ List.replicate (64 * M - 64 * Sa) 0).length = 64 * M := by rw [List.length_append, List.length_replicate]; omega
  have hfin := fun l hl hs => read_torn (old := old) (n := n) (M := M) (Sa := Sa) (was := was) (text := text) (l := l) h0 hn (by omega) (by omega) (by omega) hl (by omega) hM2 hs
  rw [← hb2] at hfin
  generalize fa ++ List.replicate (64 * M - 64 * Sa) 0 = Z at *
  generalize sealI (numI (was.length : Nat) 4 ++ was) = A at *
  generalize sealI (numI (text.length : Nat) 4 ++ text) = B at *
  refine aw_loopU (α := List Int × Nat) (fun s => s.2 ≤ Sb ∧ s.1.length = 64 * M ∧ ByteL s.1 ∧ ∀ i, i < M → (i < s.2 → TornAt A B old n Sa Sb s.1 i) ∧ (s.2 ≤ i → Sec s.1 i = bsK A old Sa i)) (fun s => [(73, .int .i64 (s.2 : Nat))]) (fun s => [(0, .arr 5 (u8c s.1))]) (fun s => Sb - s.2) ((Z, 0)) (⟨Nat.zero_le _, hlz, hbz, fun i hi => ⟨fun h => by simp at h, fun _ => hB0 i hi⟩⟩) ?_ fun s hs => ?_
  · (simp only [wrC, wrOs, keepT, memN, setsL, setsO, setL, setO, snocO, List.cons_append, List.nil_append, List.append_nil, Nat.reduceAdd, Nat.zero_add, Wk, mtc, mtcS, mtcSL, mtc0, mtc0L, mtcL, mtcO, mtcOs, cutM, takeE, stA, rl, renV, renL, ren1, ren1L, ren, rens, renO, Nat.blt, lenO, getO, setO, setL, anys, u8s_len]; simp [u8s_len])
  obtain ⟨l, j⟩ := s
  obtain ⟨g1, g2, g3, g4⟩ := hs
  simp only [] at g1 g2 g3 g4 ⊢
  simp only [wrC, wrOs, keepT, memN, setsL, setsO, setL, setO, snocO, List.cons_append, List.nil_append, List.append_nil, Nat.reduceAdd, Nat.zero_add]
  (refine eval_sound 8 _ _ _ ?_; simp only [ptrL, lenV, Bool.not_true, Bool.not_false, lookR, valOf, asGrow, jump, findA, restA, and, Nat.reduceAdd, Nat.reduceSub, Nat.reduceMul, Int.reduceToNat, eval, nf, nfO, opN, appTo, rowsV, getL, setL, getO, setO, snocO, lenO, putL, ev, evs, ifEq, killV, killL, kill1, kill1L, kill, kills, killO, killOs, bin, binI, binS, binB, eq1, eqB, lit, sameK, kn, unI, mxA, mnA, mkAgg, fits, partN, partA, resN, retV, allVal, isVal, allCell, isCell, okVal, okCell, cellsOf, fillN, rowsN, cellsN, bnd, lohi, offAt, overL, segL, leave, NodeOK, List.cons_append, List.nil_append, List.append_nil, catA, anys, lenA])
  simp only [decide_eq_true_eq, decide_eq_false_iff_not]
  have hq : IntKind.i64.wrap ((((64 * Sb : Nat) : Int)).tdiv 64) = Sb := by
    rw [Int.tdiv_eq_ediv_of_nonneg (by omega), show ((64 * Sb : Nat) : Int) / 64 = Sb by omega, wr64 (by omega) (by omega)]
  rw [hq]
  refine ⟨fun h5 => ?_, fun h5 => ?_⟩
  · (refine eval_sound 2000 _ _ _ ?_; simp (maxSteps := 1000000) only [ptrL, lenV, Bool.not_true, Bool.not_false, lookR, valOf, asGrow, jump, findA, restA, and, Nat.reduceAdd, Nat.reduceSub, Nat.reduceMul, Int.reduceToNat, eval, nf, nfO, opN, appTo, rowsV, getL, setL, getO, setO, snocO, lenO, putL, ev, evs, ifEq, killV, killL, kill1, kill1L, kill, kills, killO, killOs, bin, binI, binS, binB, eq1, eqB, lit, sameK, kn, unI, mxA, mnA, mkAgg, fits, partN, partA, resN, retV, allVal, isVal, allCell, isCell, okVal, okCell, cellsOf, fillN, rowsN, cellsN, bnd, lohi, offAt, overL, segL, leave, NodeOK, List.cons_append, List.nil_append, List.append_nil, catA, anys, lenA])
    simp only [decide_eq_true_eq, decide_eq_false_iff_not, i64s_len]
    refine ⟨fun h6 => ?_, fun h6 => ?_⟩
    · obtain ⟨x, hx⟩ : ∃ x, keep[j]? = some x := ⟨_, List.getElem?_eq_getElem (by omega)⟩
      refine ⟨by omega, [.int .i64 x], by rw [i64s_at, Int.toNat_natCast, hx]; rfl, ?_⟩
      (refine eval_sound 6 _ _ _ ?_; simp only [ptrL, lenV, Bool.not_true, Bool.not_false, lookR, valOf, asGrow, jump, findA, restA, and, Nat.reduceAdd, Nat.reduceSub, Nat.reduceMul, Int.reduceToNat, eval, nf, nfO, opN, appTo, rowsV, getL, setL, getO, setO, snocO, lenO, putL, ev, evs, ifEq, killV, killL, kill1, kill1L, kill, kills, killO, killOs, bin, binI, binS, binB, eq1, eqB, lit, sameK, kn, unI, mxA, mnA, mkAgg, fits, partN, partA, resN, retV, allVal, isVal, allCell, isCell, okVal, okCell, cellsOf, fillN, rowsN, cellsN, bnd, lohi, offAt, overL, segL, leave, NodeOK, List.cons_append, List.nil_append, List.append_nil, catA, anys, lenA])
      generalize hkk : (if (64 : Int) < (if (0 : Int) > x then 0 else x) then 64 else if (0 : Int) > x then 0 else x) = kk
      obtain ⟨k, rfl⟩ : ∃ k : Nat, kk = k := ⟨kk.toNat, by split at hkk <;> (try split at hkk) <;> omega⟩
      have hk : k ≤ 64 := by split at hkk <;> (try split at hkk) <;> omega
      have wm : IntKind.i64.wrap (64 * (j : Int)) = ((64 * j : Nat) : Int) := by rw [wr64 (by omega) (by omega)]; omega
      have wk : IntKind.i64.wrap (((64 * j : Nat) : Int) + (k : Int)) = ((64 * j + k : Nat) : Int) := by rw [wr64 (by omega) (by omega)]; omega
      have wj : IntKind.i64.wrap ((j : Int) + 1) = ((j + 1 : Nat) : Int) := by rw [wr64 (by omega) (by omega)]; rfl
      simp only [Int.toNat_natCast]
      have hv : (fb.drop (64 * j)).take k = (secK B n j).take k := by
        rw [← hSB j (by omega)]; unfold Sec; rw [List.take_take, Nat.min_eq_left hk]
      have hvl : ((fb.drop (64 * j)).take k).length = k := by rw [List.length_take, List.length_drop]; omega
      have hvb : ByteL ((fb.drop (64 * j)).take k) := fun x hx => bB x (List.mem_of_mem_drop (List.mem_of_mem_take hx))
      have hput : ∀ v, over (u8c l) (64 * j) (u8c v) = u8c (putI l (64 * j) v) := fun v => by
        unfold over putI u8c
        rw [List.map_append, List.map_append, List.map_take, List.map_drop, List.length_map]
      have hvu : List.take k (List.drop (64 * j) (u8s fb)) = u8s ((fb.drop (64 * j)).take k) := by rw [u8s_drop, u8s_take]
      generalize (fb.drop (64 * j)).take k = v at *
      have hpl := putI_len (l := l) (v := v) (o := 64 * j) (by omega)
      have hpb : ByteL (putI l (64 * j) v) := fun x hx => by
        unfold putI at hx
        rcases List.mem_append.1 hx with hx | hx
        · rcases List.mem_append.1 hx with hx | hx
          · exact g3 x (List.mem_of_mem_take hx)
          · exact hvb x hx
        · exact g3 x (List.mem_of_mem_drop hx)
      have hps := sec_put (l := l) (v := v) (i := j) (by omega) (by omega)
      have hpn := fun i (hi : i ≠ j) => sec_put_ne (l := l) (v := v) (i := j) (j := i) (by omega) (by omega) hi
      rw [hvl] at hps
      have hput := hput v
      generalize putI l (64 * j) v = P at *
      refine aw_dregA (show Try.prog.follows .mixedOrders = true by kernel_rfl) 1 [(3, ⟨.sl 0 (64 * j) (64 * M - 64 * j) (64 * M - 64 * j), [], [], []⟩), (11, ⟨.ro 1 (u8s v), [], [], []⟩), (12, ⟨.int .i64 (k : Nat), [(0, .arr 5 (u8c P))], [], []⟩)] ?_ ?_ ?_
      · kernel_rfl
      · (simp only [tkO, dpO, tkN, AllOps, OpOK, mkR, autoV, autoR, labV, lkD, vOf, preT, preO, setTs, preV, wrt, memN, usesO, usesT, opT, optT, opsT, ptsT, setHs, objF, updD, newO, lkO, lkF, keysO, keysF, visN, deads, getL, setL, getO, setO, lenO, lenA, anys, setDs, setWr, setFr, endO, catD, List.getD_cons_zero, List.getD_cons_succ, List.getElem?_cons_zero, List.getElem?_cons_succ, List.cons_append, List.nil_append, List.append_nil, Nat.reduceAdd, Nat.reduceSub, ptrL, lenV, Bool.not_true, Bool.not_false, lookR, valOf, asGrow, jump, findA, restA, and, Nat.reduceAdd, Nat.reduceSub, Nat.reduceMul, Int.reduceToNat, eval, nf, nfO, opN, appTo, rowsV, getL, setL, getO, setO, snocO, lenO, putL, ev, evs, ifEq, killV, killL, kill1, kill1L, kill, kills, killO, killOs, bin, binI, binS, binB, eq1, eqB, lit, sameK, kn, unI, mxA, mnA, mkAgg, fits, partN, partA, resN, retV, allVal, isVal, allCell, isCell, okVal, okCell, cellsOf, fillN, rowsN, cellsN, bnd, lohi, offAt, overL, segL, leave, NodeOK, List.cons_append, List.nil_append, List.append_nil, catA, anys, lenA]; and_intros) <;> (first | exact trivial | ((refine eval_sound 2000 _ _ _ ?_; simp (maxSteps := 1000000) only [ptrL, lenV, Bool.not_true, Bool.not_false, lookR, valOf, asGrow, jump, findA, restA, and, Nat.reduceAdd, Nat.reduceSub, Nat.reduceMul, Int.reduceToNat, eval, nf, nfO, opN, appTo, rowsV, getL, setL, getO, setO, snocO, lenO, putL, ev, evs, ifEq, killV, killL, kill1, kill1L, kill, kills, killO, killOs, bin, binI, binS, binB, eq1, eqB, lit, sameK, kn, unI, mxA, mnA, mkAgg, fits, partN, partA, resN, retV, allVal, isVal, allCell, isCell, okVal, okCell, cellsOf, fillN, rowsN, cellsN, bnd, lohi, offAt, overL, segL, leave, NodeOK, List.cons_append, List.nil_append, List.append_nil, catA, anys, lenA]); try simp only [JR, dstOK, wrOK, frOK, rdOK, getL, getO]; try simp only [JR, dstOK, wrOK, frOK, rdOK, sig, sigF, isGrowB, mtc, mtcS, mtcSL, mtc0, mtc0L, mtcO, mtcL, memN, Nat.blt, rl, renV, renL, ren1, ren1L, ren, rens, renO, Nat.blt, lenO, getO, setO, setL, anys]; try simp))
        · rw [wm, Int.toNat_natCast, if_neg (by omega)]
          exact ⟨⟨by omega, by omega⟩, rfl, by omega, rfl⟩
        · rw [wm, wk, Int.toNat_natCast, Int.toNat_natCast, show 64 * j + k - 64 * j = k by omega, hvu, u8s_len]
          exact ⟨⟨by omega, by omega, by omega⟩, rfl⟩
        · rw [u8s_len, hvl, u8c_len, g2, Nat.min_eq_left (by omega), u8c_flat, List.take_of_length_le (by rw [u8c_len]; omega), hput]
          exact ⟨by omega, rfl, rfl⟩
      · (simp only [tkO, dpO, tkN, AllOps, OpOK, mkR, autoV, autoR, labV, lkD, vOf, preT, preO, setTs, preV, wrt, memN, usesO, usesT, opT, optT, opsT, ptsT, setHs, objF, updD, newO, lkO, lkF, keysO, keysF, visN, deads, getL, setL, getO, setO, lenO, lenA, anys, setDs, setWr, setFr, endO, catD, List.getD_cons_zero, List.getD_cons_succ, List.getElem?_cons_zero, List.getElem?_cons_succ, List.cons_append, List.nil_append, List.append_nil, Nat.reduceAdd, Nat.reduceSub, ptrL, lenV, Bool.not_true, Bool.not_false, lookR, valOf, asGrow, jump, findA, restA, and, Nat.reduceAdd, Nat.reduceSub, Nat.reduceMul, Int.reduceToNat, eval, nf, nfO, opN, appTo, rowsV, getL, setL, getO, setO, snocO, lenO, putL, ev, evs, ifEq, killV, killL, kill1, kill1L, kill, kills, killO, killOs, bin, binI, binS, binB, eq1, eqB, lit, sameK, kn, unI, mxA, mnA, mkAgg, fits, partN, partA, resN, retV, allVal, isVal, allCell, isCell, okVal, okCell, cellsOf, fillN, rowsN, cellsN, bnd, lohi, offAt, overL, segL, leave, NodeOK, List.cons_append, List.nil_append, List.append_nil, catA, anys, lenA]; (refine eval_sound 2000 _ _ _ ?_; simp (maxSteps := 1000000) only [ptrL, lenV, Bool.not_true, Bool.not_false, lookR, valOf, asGrow, jump, findA, restA, and, Nat.reduceAdd, Nat.reduceSub, Nat.reduceMul, Int.reduceToNat, eval, nf, nfO, opN, appTo, rowsV, getL, setL, getO, setO, snocO, lenO, putL, ev, evs, ifEq, killV, killL, kill1, kill1L, kill, kills, killO, killOs, bin, binI, binS, binB, eq1, eqB, lit, sameK, kn, unI, mxA, mnA, mkAgg, fits, partN, partA, resN, retV, allVal, isVal, allCell, isCell, okVal, okCell, cellsOf, fillN, rowsN, cellsN, bnd, lohi, offAt, overL, segL, leave, NodeOK, List.cons_append, List.nil_append, List.append_nil, catA, anys, lenA]))
        rw [wj]
        refine ⟨(P, j + 1), ⟨by show j + 1 ≤ Sb; omega, by show P.length = _; omega, hpb, fun i hi => ⟨fun hlt => ?_, fun hge => ?_⟩⟩, by show Sb - (j + 1) < Sb - j; omega, ?_⟩
        · by_cases e : i = j
          · subst e
            exact .inl ⟨by omega, k, hk, by rw [hps, hv, (g4 i hi).2 (Nat.le_refl _)]⟩
          · have := (g4 i hi).1 (show i < j by have : i < j + 1 := hlt; omega)
            unfold TornAt at this ⊢
            rw [show Sec (P, j + 1).1 i = Sec l i from hpn i e]
            exact this
        · rw [show Sec (P, j + 1).1 i = Sec l i from hpn i (by have : j + 1 ≤ i := hge; omega)]
          exact (g4 i hi).2 (by have : j + 1 ≤ i := hge; omega)
        · (simp only [wrC, wrOs, keepT, memN, setsL, setsO, setL, setO, snocO, List.cons_append, List.nil_append, List.append_nil, Nat.reduceAdd, Nat.zero_add, Wk, mtc, mtcS, mtcSL, mtc0, mtc0L, mtcL, mtcO, mtcOs, cutM, takeE, stA, rl, renV, renL, ren1, ren1L, ren, rens, renO, Nat.blt, lenO, getO, setO, setL, anys, u8s_len]; simp [u8s_len])
    · obtain ⟨k, hk, hkk⟩ : ∃ k : Nat, k ≤ 64 ∧ (0 : Int) = k := ⟨0, by omega, rfl⟩
      rw [show AV.int .i64 0 = AV.int .i64 (0 : Int) from rfl]
      have wm : IntKind.i64.wrap (64 * (j : Int)) = ((64 * j : Nat) : Int) := by rw [wr64 (by omega) (by omega)]; omega
      have wk : IntKind.i64.wrap (((64 * j : Nat) : Int) + (k : Int)) = ((64 * j + k : Nat) : Int) := by rw [wr64 (by omega) (by omega)]; omega
      have wj : IntKind.i64.wrap ((j : Int) + 1) = ((j + 1 : Nat) : Int) := by rw [wr64 (by omega) (by omega)]; rfl
      simp only [Int.toNat_natCast]
      have hv : (fb.drop (64 * j)).take k = (secK B n j).take k := by
        rw [← hSB j (by omega)]; unfold Sec; rw [List.take_take, Nat.min_eq_left hk]
      have hvl : ((fb.drop (64 * j)).take k).length = k := by rw [List.length_take, List.length_drop]; omega
      have hvb : ByteL ((fb.drop (64 * j)).take k) := fun x hx => bB x (List.mem_of_mem_drop (List.mem_of_mem_take hx))
      have hput : ∀ v, over (u8c l) (64 * j) (u8c v) = u8c (putI l (64 * j) v) := fun v => by
        unfold over putI u8c
        rw [List.map_append, List.map_append, List.map_take, List.map_drop, List.length_map]
      have hvu : List.take k (List.drop (64 * j) (u8s fb)) = u8s ((fb.drop (64 * j)).take k) := by rw [u8s_drop, u8s_take]
      generalize (fb.drop (64 * j)).take k = v at *
      have hpl := putI_len (l := l) (v := v) (o := 64 * j) (by omega)
      have hpb : ByteL (putI l (64 * j) v) := fun x hx => by
        unfold putI at hx
        rcases List.mem_append.1 hx with hx | hx
        · rcases List.mem_append.1 hx with hx | hx
          · exact g3 x (List.mem_of_mem_take hx)
          · exact hvb x hx
        · exact g3 x (List.mem_of_mem_drop hx)
      have hps := sec_put (l := l) (v := v) (i := j) (by omega) (by omega)
      have hpn := fun i (hi : i ≠ j) => sec_put_ne (l := l) (v := v) (i := j) (j := i) (by omega) (by omega) hi
      rw [hvl] at hps
      have hput := hput v
      generalize putI l (64 * j) v = P at *
      refine aw_dregA (show Try.prog.follows .mixedOrders = true by kernel_rfl) 1 [(3, ⟨.sl 0 (64 * j) (64 * M - 64 * j) (64 * M - 64 * j), [], [], []⟩), (11, ⟨.ro 1 (u8s v), [], [], []⟩), (12, ⟨.int .i64 (k : Nat), [(0, .arr 5 (u8c P))], [], []⟩)] ?_ ?_ ?_
      · kernel_rfl
      · (simp only [tkO, dpO, tkN, AllOps, OpOK, mkR, autoV, autoR, labV, lkD, vOf, preT, preO, setTs, preV, wrt, memN, usesO, usesT, opT, optT, opsT, ptsT, setHs, objF, updD, newO, lkO, lkF, keysO, keysF, visN, deads, getL, setL, getO, setO, lenO, lenA, anys, setDs, setWr, setFr, endO, catD, List.getD_cons_zero, List.getD_cons_succ, List.getElem?_cons_zero, List.getElem?_cons_succ, List.cons_append, List.nil_append, List.append_nil, Nat.reduceAdd, Nat.reduceSub, ptrL, lenV, Bool.not_true, Bool.not_false, lookR, valOf, asGrow, jump, findA, restA, and, Nat.reduceAdd, Nat.reduceSub, Nat.reduceMul, Int.reduceToNat, eval, nf, nfO, opN, appTo, rowsV, getL, setL, getO, setO, snocO, lenO, putL, ev, evs, ifEq, killV, killL, kill1, kill1L, kill, kills, killO, killOs, bin, binI, binS, binB, eq1, eqB, lit, sameK, kn, unI, mxA, mnA, mkAgg, fits, partN, partA, resN, retV, allVal, isVal, allCell, isCell, okVal, okCell, cellsOf, fillN, rowsN, cellsN, bnd, lohi, offAt, overL, segL, leave, NodeOK, List.cons_append, List.nil_append, List.append_nil, catA, anys, lenA]; and_intros) <;> (first | exact trivial | ((refine eval_sound 2000 _ _ _ ?_; simp (maxSteps := 1000000) only [ptrL, lenV, Bool.not_true, Bool.not_false, lookR, valOf, asGrow, jump, findA, restA, and, Nat.reduceAdd, Nat.reduceSub, Nat.reduceMul, Int.reduceToNat, eval, nf, nfO, opN, appTo, rowsV, getL, setL, getO, setO, snocO, lenO, putL, ev, evs, ifEq, killV, killL, kill1, kill1L, kill, kills, killO, killOs, bin, binI, binS, binB, eq1, eqB, lit, sameK, kn, unI, mxA, mnA, mkAgg, fits, partN, partA, resN, retV, allVal, isVal, allCell, isCell, okVal, okCell, cellsOf, fillN, rowsN, cellsN, bnd, lohi, offAt, overL, segL, leave, NodeOK, List.cons_append, List.nil_append, List.append_nil, catA, anys, lenA]); try simp only [JR, dstOK, wrOK, frOK, rdOK, getL, getO]; try simp only [JR, dstOK, wrOK, frOK, rdOK, sig, sigF, isGrowB, mtc, mtcS, mtcSL, mtc0, mtc0L, mtcO, mtcL, memN, Nat.blt, rl, renV, renL, ren1, ren1L, ren, rens, renO, Nat.blt, lenO, getO, setO, setL, anys]; try simp))
        · rw [wm, Int.toNat_natCast, if_neg (by omega)]
          exact ⟨⟨by omega, by omega⟩, rfl, by omega, rfl⟩
        · rw [wm, show IntKind.i64.wrap ((64 * j : Nat) : Int) = ((64 * j + k : Nat) : Int) by rw [wr64 (by omega) (by omega)]; omega, Int.toNat_natCast, Int.toNat_natCast, show 64 * j + k - 64 * j = k by omega, hvu, u8s_len]
          exact ⟨⟨by omega, by omega, by omega⟩, rfl⟩
        · rw [u8s_len, hvl, u8c_len, g2, Nat.min_eq_left (by omega), u8c_flat, List.take_of_length_le (by rw [u8c_len]; omega), hput]
          exact ⟨by omega, rfl, rfl⟩
      · (simp only [tkO, dpO, tkN, AllOps, OpOK, mkR, autoV, autoR, labV, lkD, vOf, preT, preO, setTs, preV, wrt, memN, usesO, usesT, opT, optT, opsT, ptsT, setHs, objF, updD, newO, lkO, lkF, keysO, keysF, visN, deads, getL, setL, getO, setO, lenO, lenA, anys, setDs, setWr, setFr, endO, catD, List.getD_cons_zero, List.getD_cons_succ, List.getElem?_cons_zero, List.getElem?_cons_succ, List.cons_append, List.nil_append, List.append_nil, Nat.reduceAdd, Nat.reduceSub, ptrL, lenV, Bool.not_true, Bool.not_false, lookR, valOf, asGrow, jump, findA, restA, and, Nat.reduceAdd, Nat.reduceSub, Nat.reduceMul, Int.reduceToNat, eval, nf, nfO, opN, appTo, rowsV, getL, setL, getO, setO, snocO, lenO, putL, ev, evs, ifEq, killV, killL, kill1, kill1L, kill, kills, killO, killOs, bin, binI, binS, binB, eq1, eqB, lit, sameK, kn, unI, mxA, mnA, mkAgg, fits, partN, partA, resN, retV, allVal, isVal, allCell, isCell, okVal, okCell, cellsOf, fillN, rowsN, cellsN, bnd, lohi, offAt, overL, segL, leave, NodeOK, List.cons_append, List.nil_append, List.append_nil, catA, anys, lenA]; (refine eval_sound 2000 _ _ _ ?_; simp (maxSteps := 1000000) only [ptrL, lenV, Bool.not_true, Bool.not_false, lookR, valOf, asGrow, jump, findA, restA, and, Nat.reduceAdd, Nat.reduceSub, Nat.reduceMul, Int.reduceToNat, eval, nf, nfO, opN, appTo, rowsV, getL, setL, getO, setO, snocO, lenO, putL, ev, evs, ifEq, killV, killL, kill1, kill1L, kill, kills, killO, killOs, bin, binI, binS, binB, eq1, eqB, lit, sameK, kn, unI, mxA, mnA, mkAgg, fits, partN, partA, resN, retV, allVal, isVal, allCell, isCell, okVal, okCell, cellsOf, fillN, rowsN, cellsN, bnd, lohi, offAt, overL, segL, leave, NodeOK, List.cons_append, List.nil_append, List.append_nil, catA, anys, lenA]))
        rw [wj]
        refine ⟨(P, j + 1), ⟨by show j + 1 ≤ Sb; omega, by show P.length = _; omega, hpb, fun i hi => ⟨fun hlt => ?_, fun hge => ?_⟩⟩, by show Sb - (j + 1) < Sb - j; omega, ?_⟩
        · by_cases e : i = j
          · subst e
            exact .inl ⟨by omega, k, hk, by rw [hps, hv, (g4 i hi).2 (Nat.le_refl _)]⟩
          · have := (g4 i hi).1 (show i < j by have : i < j + 1 := hlt; omega)
            unfold TornAt at this ⊢
            rw [show Sec (P, j + 1).1 i = Sec l i from hpn i e]
            exact this
        · rw [show Sec (P, j + 1).1 i = Sec l i from hpn i (by have : j + 1 ≤ i := hge; omega)]
          exact (g4 i hi).2 (by have : j + 1 ≤ i := hge; omega)
        · (simp only [wrC, wrOs, keepT, memN, setsL, setsO, setL, setO, snocO, List.cons_append, List.nil_append, List.append_nil, Nat.reduceAdd, Nat.zero_add, Wk, mtc, mtcS, mtcSL, mtc0, mtc0L, mtcL, mtcO, mtcOs, cutM, takeE, stA, rl, renV, renL, ren1, ren1L, ren, rens, renO, Nat.blt, lenO, getO, setO, setL, anys, u8s_len]; simp [u8s_len])
  · obtain rfl : j = Sb := by omega
    (refine eval_sound 2 _ _ _ ?_; simp only [ptrL, lenV, Bool.not_true, Bool.not_false, lookR, valOf, asGrow, jump, findA, restA, and, Nat.reduceAdd, Nat.reduceSub, Nat.reduceMul, Int.reduceToNat, eval, nf, nfO, opN, appTo, rowsV, getL, setL, getO, setO, snocO, lenO, putL, ev, evs, ifEq, killV, killL, kill1, kill1L, kill, kills, killO, killOs, bin, binI, binS, binB, eq1, eqB, lit, sameK, kn, unI, mxA, mnA, mkAgg, fits, partN, partA, resN, retV, allVal, isVal, allCell, isCell, okVal, okCell, cellsOf, fillN, rowsN, cellsN, bnd, lohi, offAt, overL, segL, leave, NodeOK, List.cons_append, List.nil_append, List.append_nil, catA, anys, lenA])
    simp only [Int.toNat_natCast]
    refine aw_trans (trans_frA 0 0 (64 * M) (u8s l) (sz := 1) rfl (by rw [u8s_len]; omega) (u8s_row l) (fun i row j a e1 e2 => by have := u8c_row (E := []) i row j a e1 e2; rwa [List.append_nil] at this) (by rw [u8s_len, u8c_len]; omega)) ?_
    rw [u8s_len, g2]
    simp only [snocO, mapA, frA, frA1, frAV, mapO, frAO, ifEq, setO, getO, getL, setL, Nat.beq_refl, List.length_map, u8s_len]
    (refine eval_sound 2000 _ _ _ ?_; simp (maxSteps := 1000000) only [ptrL, lenV, Bool.not_true, Bool.not_false, lookR, valOf, asGrow, jump, findA, restA, and, Nat.reduceAdd, Nat.reduceSub, Nat.reduceMul, Int.reduceToNat, eval, nf, nfO, opN, appTo, rowsV, getL, setL, getO, setO, snocO, lenO, putL, ev, evs, ifEq, killV, killL, kill1, kill1L, kill, kills, killO, killOs, bin, binI, binS, binB, eq1, eqB, lit, sameK, kn, unI, mxA, mnA, mkAgg, fits, partN, partA, resN, retV, allVal, isVal, allCell, isCell, okVal, okCell, cellsOf, fillN, rowsN, cellsN, bnd, lohi, offAt, overL, segL, leave, NodeOK, List.cons_append, List.nil_append, List.append_nil, catA, anys, lenA])
    have hr := read_c l g3 (by omega)
    have hf := hfin l g2 fun i hi => by
      by_cases c : i < j
      · exact (g4 i hi).1 c
      · exact .inr ((g4 i hi).2 (by omega))
    generalize readI l = R at *
    obtain ⟨m, u, x⟩ := R
    simp only [Prod.mk.injEq] at hr hf
    rcases hf with (⟨rfl, rfl, rfl⟩ | ⟨rfl, rfl, rfl⟩) | ⟨⟨rfl, rfl, rfl⟩, hz0⟩ | ⟨rfl, rfl, rfl⟩
    · ((repeat (with_reducible refine And.intro ?_ ?_; focus (simp; done))); refine aw_call (hr) [] rfl (by simp [upM, nthN, matchO, rens, ren, ren1, ren1L, renL, renV, renO, rl, lenO, getO, Nat.blt, mtc, mtcS, mtcSL, mtc0, mtc0L, u8s_len]) rfl (by simp [upM, nthN, matchO, rens, ren, ren1, ren1L, renL, renV, renO, rl, lenO, getO, Nat.blt, mtc, mtcS, mtcSL, mtc0, mtc0L, u8s_len]) rfl (fun r hs hp hl => ?_); obtain ⟨rfl, rfl⟩ := hp; simp only [snocO, upM, nthN, putAll, snocAll, killsA, killOsA, grows, putL, rl, renV, renL, ren1, ren1L, ren, rens, renO, Nat.blt, lenO, getO, setO, setL, anys, u8s_len]; (refine eval_sound 2000 _ _ _ ?_; simp (maxSteps := 1000000) only [ptrL, lenV, Bool.not_true, Bool.not_false, lookR, valOf, asGrow, jump, findA, restA, and, Nat.reduceAdd, Nat.reduceSub, Nat.reduceMul, Int.reduceToNat, eval, nf, nfO, opN, appTo, rowsV, getL, setL, getO, setO, snocO, lenO, putL, ev, evs, ifEq, killV, killL, kill1, kill1L, kill, kills, killO, killOs, bin, binI, binS, binB, eq1, eqB, lit, sameK, kn, unI, mxA, mnA, mkAgg, fits, partN, partA, resN, retV, allVal, isVal, allCell, isCell, okVal, okCell, cellsOf, fillN, rowsN, cellsN, bnd, lohi, offAt, overL, segL, leave, NodeOK, List.cons_append, List.nil_append, List.append_nil, catA, anys, lenA]))
      (repeat (with_reducible refine And.intro ?_ ?_; focus (simp; done)))
      refine ⟨fun _ => ⟨fun _ => ⟨bytes_u8s _, bytes_u8s _, fun _ => ?_, fun h => by simp at h⟩, fun h => by simp at h⟩, fun h => by simp at h⟩
      ((repeat (with_reducible refine And.intro ?_ ?_; focus (simp; done))); refine aw_call (flives) [] rfl (by simp [upM, nthN, matchO, rens, ren, ren1, ren1L, renL, renV, renO, rl, lenO, getO, Nat.blt, mtc, mtcS, mtcSL, mtc0, mtc0L, u8s_len]) rfl (by simp [upM, nthN, matchO, rens, ren, ren1, ren1L, renL, renV, renO, rl, lenO, getO, Nat.blt, mtc, mtcS, mtcSL, mtc0, mtc0L, u8s_len]) rfl (fun r hs hp hl => ?_); obtain ⟨rfl, rfl⟩ := hp; simp only [snocO, upM, nthN, putAll, snocAll, killsA, killOsA, grows, putL, rl, renV, renL, ren1, ren1L, ren, rens, renO, Nat.blt, lenO, getO, setO, setL, anys, u8s_len]; (refine eval_sound 2000 _ _ _ ?_; simp (maxSteps := 1000000) only [ptrL, lenV, Bool.not_true, Bool.not_false, lookR, valOf, asGrow, jump, findA, restA, and, Nat.reduceAdd, Nat.reduceSub, Nat.reduceMul, Int.reduceToNat, eval, nf, nfO, opN, appTo, rowsV, getL, setL, getO, setO, snocO, lenO, putL, ev, evs, ifEq, killV, killL, kill1, kill1L, kill, kills, killO, killOs, bin, binI, binS, binB, eq1, eqB, lit, sameK, kn, unI, mxA, mnA, mkAgg, fits, partN, partA, resN, retV, allVal, isVal, allCell, isCell, okVal, okCell, cellsOf, fillN, rowsN, cellsN, bnd, lohi, offAt, overL, segL, leave, NodeOK, List.cons_append, List.nil_append, List.append_nil, catA, anys, lenA]))
      ((repeat (with_reducible refine And.intro ?_ ?_; focus (simp; done))); refine ⟨[], rfl, _, _, ?_, ?_, rfl, rfl⟩ <;> simp [Wk, mtc, mtcS, mtcSL, mtc0, mtc0L, mtcL, mtcO, mtcOs, cutM, takeE, stA, rl, renV, renL, ren1, ren1L, ren, rens, renO, Nat.blt, lenO, getO, setO, setL, anys, okS, endM, endH, idxN, takeE, pickE, catO, rl, renV, renL, ren1, ren1L, ren, rens, renO, Nat.blt, lenO, getO, setO, setL, anys, u8s_len])
    · ((repeat (with_reducible refine And.intro ?_ ?_; focus (simp; done))); refine aw_call (hr) [] rfl (by simp [upM, nthN, matchO, rens, ren, ren1, ren1L, renL, renV, renO, rl, lenO, getO, Nat.blt, mtc, mtcS, mtcSL, mtc0, mtc0L, u8s_len]) rfl (by simp [upM, nthN, matchO, rens, ren, ren1, ren1L, renL, renV, renO, rl, lenO, getO, Nat.blt, mtc, mtcS, mtcSL, mtc0, mtc0L, u8s_len]) rfl (fun r hs hp hl => ?_); obtain ⟨rfl, rfl⟩ := hp; simp only [snocO, upM, nthN, putAll, snocAll, killsA, killOsA, grows, putL, rl, renV, renL, ren1, ren1L, ren, rens, renO, Nat.blt, lenO, getO, setO, setL, anys, u8s_len]; (refine eval_sound 2000 _ _ _ ?_; simp (maxSteps := 1000000) only [ptrL, lenV, Bool.not_true, Bool.not_false, lookR, valOf, asGrow, jump, findA, restA, and, Nat.reduceAdd, Nat.reduceSub, Nat.reduceMul, Int.reduceToNat, eval, nf, nfO, opN, appTo, rowsV, getL, setL, getO, setO, snocO, lenO, putL, ev, evs, ifEq, killV, killL, kill1, kill1L, kill, kills, killO, killOs, bin, binI, binS, binB, eq1, eqB, lit, sameK, kn, unI, mxA, mnA, mkAgg, fits, partN, partA, resN, retV, allVal, isVal, allCell, isCell, okVal, okCell, cellsOf, fillN, rowsN, cellsN, bnd, lohi, offAt, overL, segL, leave, NodeOK, List.cons_append, List.nil_append, List.append_nil, catA, anys, lenA]))
      (repeat (with_reducible refine And.intro ?_ ?_; focus (simp; done)))
      refine ⟨fun _ => ⟨fun h => by simp at h; omega, fun _ => ⟨fun _ => ⟨bytes_u8s _, bytes_u8s _, fun _ => ?_, fun h => by simp at h⟩, fun h => by simp at h⟩⟩, fun h => by simp at h⟩
      ((repeat (with_reducible refine And.intro ?_ ?_; focus (simp; done))); refine aw_call (flives) [] rfl (by simp [upM, nthN, matchO, rens, ren, ren1, ren1L, renL, renV, renO, rl, lenO, getO, Nat.blt, mtc, mtcS, mtcSL, mtc0, mtc0L, u8s_len]) rfl (by simp [upM, nthN, matchO, rens, ren, ren1, ren1L, renL, renV, renO, rl, lenO, getO, Nat.blt, mtc, mtcS, mtcSL, mtc0, mtc0L, u8s_len]) rfl (fun r hs hp hl => ?_); obtain ⟨rfl, rfl⟩ := hp; simp only [snocO, upM, nthN, putAll, snocAll, killsA, killOsA, grows, putL, rl, renV, renL, ren1, ren1L, ren, rens, renO, Nat.blt, lenO, getO, setO, setL, anys, u8s_len]; (refine eval_sound 2000 _ _ _ ?_; simp (maxSteps := 1000000) only [ptrL, lenV, Bool.not_true, Bool.not_false, lookR, valOf, asGrow, jump, findA, restA, and, Nat.reduceAdd, Nat.reduceSub, Nat.reduceMul, Int.reduceToNat, eval, nf, nfO, opN, appTo, rowsV, getL, setL, getO, setO, snocO, lenO, putL, ev, evs, ifEq, killV, killL, kill1, kill1L, kill, kills, killO, killOs, bin, binI, binS, binB, eq1, eqB, lit, sameK, kn, unI, mxA, mnA, mkAgg, fits, partN, partA, resN, retV, allVal, isVal, allCell, isCell, okVal, okCell, cellsOf, fillN, rowsN, cellsN, bnd, lohi, offAt, overL, segL, leave, NodeOK, List.cons_append, List.nil_append, List.append_nil, catA, anys, lenA]))
      ((repeat (with_reducible refine And.intro ?_ ?_; focus (simp; done))); refine ⟨[], rfl, _, _, ?_, ?_, rfl, rfl⟩ <;> simp [Wk, mtc, mtcS, mtcSL, mtc0, mtc0L, mtcL, mtcO, mtcOs, cutM, takeE, stA, rl, renV, renL, ren1, ren1L, ren, rens, renO, Nat.blt, lenO, getO, setO, setL, anys, okS, endM, endH, idxN, takeE, pickE, catO, rl, renV, renL, ren1, ren1L, ren, rens, renO, Nat.blt, lenO, getO, setO, setL, anys, u8s_len])
    · ((repeat (with_reducible refine And.intro ?_ ?_; focus (simp; done))); refine aw_call (hr) [] rfl (by simp [upM, nthN, matchO, rens, ren, ren1, ren1L, renL, renV, renO, rl, lenO, getO, Nat.blt, mtc, mtcS, mtcSL, mtc0, mtc0L, u8s_len]) rfl (by simp [upM, nthN, matchO, rens, ren, ren1, ren1L, renL, renV, renO, rl, lenO, getO, Nat.blt, mtc, mtcS, mtcSL, mtc0, mtc0L, u8s_len]) rfl (fun r hs hp hl => ?_); obtain ⟨rfl, rfl⟩ := hp; simp only [snocO, upM, nthN, putAll, snocAll, killsA, killOsA, grows, putL, rl, renV, renL, ren1, ren1L, ren, rens, renO, Nat.blt, lenO, getO, setO, setL, anys, u8s_len]; (refine eval_sound 2000 _ _ _ ?_; simp (maxSteps := 1000000) only [ptrL, lenV, Bool.not_true, Bool.not_false, lookR, valOf, asGrow, jump, findA, restA, and, Nat.reduceAdd, Nat.reduceSub, Nat.reduceMul, Int.reduceToNat, eval, nf, nfO, opN, appTo, rowsV, getL, setL, getO, setO, snocO, lenO, putL, ev, evs, ifEq, killV, killL, kill1, kill1L, kill, kills, killO, killOs, bin, binI, binS, binB, eq1, eqB, lit, sameK, kn, unI, mxA, mnA, mkAgg, fits, partN, partA, resN, retV, allVal, isVal, allCell, isCell, okVal, okCell, cellsOf, fillN, rowsN, cellsN, bnd, lohi, offAt, overL, segL, leave, NodeOK, List.cons_append, List.nil_append, List.append_nil, catA, anys, lenA]))
      (repeat (with_reducible refine And.intro ?_ ?_; focus (simp; done)))
      refine fun _ => ⟨fun _ => ⟨fun _ => ?_, fun h => by simp [hz0] at h⟩, fun h => by simp at h⟩
      ((repeat (with_reducible refine And.intro ?_ ?_; focus (simp; done))); refine aw_call (flives) [] rfl (by simp [upM, nthN, matchO, rens, ren, ren1, ren1L, renL, renV, renO, rl, lenO, getO, Nat.blt, mtc, mtcS, mtcSL, mtc0, mtc0L, u8s_len]) rfl (by simp [upM, nthN, matchO, rens, ren, ren1, ren1L, renL, renV, renO, rl, lenO, getO, Nat.blt, mtc, mtcS, mtcSL, mtc0, mtc0L, u8s_len]) rfl (fun r hs hp hl => ?_); obtain ⟨rfl, rfl⟩ := hp; simp only [snocO, upM, nthN, putAll, snocAll, killsA, killOsA, grows, putL, rl, renV, renL, ren1, ren1L, ren, rens, renO, Nat.blt, lenO, getO, setO, setL, anys, u8s_len]; (refine eval_sound 2000 _ _ _ ?_; simp (maxSteps := 1000000) only [ptrL, lenV, Bool.not_true, Bool.not_false, lookR, valOf, asGrow, jump, findA, restA, and, Nat.reduceAdd, Nat.reduceSub, Nat.reduceMul, Int.reduceToNat, eval, nf, nfO, opN, appTo, rowsV, getL, setL, getO, setO, snocO, lenO, putL, ev, evs, ifEq, killV, killL, kill1, kill1L, kill, kills, killO, killOs, bin, binI, binS, binB, eq1, eqB, lit, sameK, kn, unI, mxA, mnA, mkAgg, fits, partN, partA, resN, retV, allVal, isVal, allCell, isCell, okVal, okCell, cellsOf, fillN, rowsN, cellsN, bnd, lohi, offAt, overL, segL, leave, NodeOK, List.cons_append, List.nil_append, List.append_nil, catA, anys, lenA]))
      ((repeat (with_reducible refine And.intro ?_ ?_; focus (simp; done))); refine ⟨[], rfl, _, _, ?_, ?_, rfl, rfl⟩ <;> simp [Wk, mtc, mtcS, mtcSL, mtc0, mtc0L, mtcL, mtcO, mtcOs, cutM, takeE, stA, rl, renV, renL, ren1, ren1L, ren, rens, renO, Nat.blt, lenO, getO, setO, setL, anys, okS, endM, endH, idxN, takeE, pickE, catO, rl, renV, renL, ren1, ren1L, ren, rens, renO, Nat.blt, lenO, getO, setO, setL, anys, u8s_len])
    · ((repeat (with_reducible refine And.intro ?_ ?_; focus (simp; done))); refine aw_call (hr) [] rfl (by simp [upM, nthN, matchO, rens, ren, ren1, ren1L, renL, renV, renO, rl, lenO, getO, Nat.blt, mtc, mtcS, mtcSL, mtc0, mtc0L, u8s_len]) rfl (by simp [upM, nthN, matchO, rens, ren, ren1, ren1L, renL, renV, renO, rl, lenO, getO, Nat.blt, mtc, mtcS, mtcSL, mtc0, mtc0L, u8s_len]) rfl (fun r hs hp hl => ?_); obtain ⟨rfl, rfl⟩ := hp; simp only [snocO, upM, nthN, putAll, snocAll, killsA, killOsA, grows, putL, rl, renV, renL, ren1, ren1L, ren, rens, renO, Nat.blt, lenO, getO, setO, setL, anys, u8s_len]; (refine eval_sound 2000 _ _ _ ?_; simp (maxSteps := 1000000) only [ptrL, lenV, Bool.not_true, Bool.not_false, lookR, valOf, asGrow, jump, findA, restA, and, Nat.reduceAdd, Nat.reduceSub, Nat.reduceMul, Int.reduceToNat, eval, nf, nfO, opN, appTo, rowsV, getL, setL, getO, setO, snocO, lenO, putL, ev, evs, ifEq, killV, killL, kill1, kill1L, kill, kills, killO, killOs, bin, binI, binS, binB, eq1, eqB, lit, sameK, kn, unI, mxA, mnA, mkAgg, fits, partN, partA, resN, retV, allVal, isVal, allCell, isCell, okVal, okCell, cellsOf, fillN, rowsN, cellsN, bnd, lohi, offAt, overL, segL, leave, NodeOK, List.cons_append, List.nil_append, List.append_nil, catA, anys, lenA]))
      (repeat (with_reducible refine And.intro ?_ ?_; focus (simp; done)))
      refine fun _ => ⟨fun h => by simp at h, fun _ => ⟨fun _ => ?_, fun h => by simp at h⟩⟩
      ((repeat (with_reducible refine And.intro ?_ ?_; focus (simp; done))); refine aw_call (flives) [] rfl (by simp [upM, nthN, matchO, rens, ren, ren1, ren1L, renL, renV, renO, rl, lenO, getO, Nat.blt, mtc, mtcS, mtcSL, mtc0, mtc0L, u8s_len]) rfl (by simp [upM, nthN, matchO, rens, ren, ren1, ren1L, renL, renV, renO, rl, lenO, getO, Nat.blt, mtc, mtcS, mtcSL, mtc0, mtc0L, u8s_len]) rfl (fun r hs hp hl => ?_); obtain ⟨rfl, rfl⟩ := hp; simp only [snocO, upM, nthN, putAll, snocAll, killsA, killOsA, grows, putL, rl, renV, renL, ren1, ren1L, ren, rens, renO, Nat.blt, lenO, getO, setO, setL, anys, u8s_len]; (refine eval_sound 2000 _ _ _ ?_; simp (maxSteps := 1000000) only [ptrL, lenV, Bool.not_true, Bool.not_false, lookR, valOf, asGrow, jump, findA, restA, and, Nat.reduceAdd, Nat.reduceSub, Nat.reduceMul, Int.reduceToNat, eval, nf, nfO, opN, appTo, rowsV, getL, setL, getO, setO, snocO, lenO, putL, ev, evs, ifEq, killV, killL, kill1, kill1L, kill, kills, killO, killOs, bin, binI, binS, binB, eq1, eqB, lit, sameK, kn, unI, mxA, mnA, mkAgg, fits, partN, partA, resN, retV, allVal, isVal, allCell, isCell, okVal, okCell, cellsOf, fillN, rowsN, cellsN, bnd, lohi, offAt, overL, segL, leave, NodeOK, List.cons_append, List.nil_append, List.append_nil, catA, anys, lenA]))
      ((repeat (with_reducible refine And.intro ?_ ?_; focus (simp; done))); refine ⟨[], rfl, _, _, ?_, ?_, rfl, rfl⟩ <;> simp [Wk, mtc, mtcS, mtcSL, mtc0, mtc0L, mtcL, mtcO, mtcOs, cutM, takeE, stA, rl, renV, renL, ren1, ren1L, ren, rens, renO, Nat.blt, lenO, getO, setO, setL, anys, okS, endM, endH, idxN, takeE, pickE, catO, rl, renV, renL, ren1, ren1L, ren, rens, renO, Nat.blt, lenO, getO, setO, setL, anys, u8s_len])
def i64r (n : Int) : List AV := [.int .i64 n]
theorem ftornI (old n : Int) (hold : 0 ≤ old ∧ old < 18446744073709551616) (hn : 0 ≤ n ∧ n < 18446744073709551616) (was text keep : List Int) (hw : ByteL was) (ht : ByteL text) : ACalls Try.prog 9 [.int .u64 old, .int .u64 n, .ro 1 (u8s was), .ro 1 (u8s text), .ro 1 (keep.map i64r)] [] (fun r hs => r = .bool true ∧ hs = []) := by
  obtain ⟨a, rfl⟩ : ∃ m : Nat, old = m := ⟨old.toNat, by omega⟩
  obtain ⟨b, rfl⟩ : ∃ m : Nat, n = m := ⟨n.toNat, by omega⟩
  exact ftorn a b (by omega) (by omega) was text keep hw ht
theorem i64_of (row : List AV) (h1 : row.length = 1) (h2 : ∀ (j : Nat) s a, [Tsh.int .i64][j]? = some s → row[j]? = some a → IsAV s a) : ∃ n : Int, row = i64r n ∧ True := by
  match row, h1 with
  | [a], _ =>
    obtain ⟨n, rfl, _⟩ := av_int (h2 0 _ _ rfl rfl)
    exact ⟨n, rfl, trivial⟩
end Go.Proofs.Ytjkmnmpjcdanhaa.S
