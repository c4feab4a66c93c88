/- Contracts of frames: the answer's Make. -/
import Derived.Test.YtjkmnmpjcdanhaaFm5
namespace Go.Proofs.Ytjkmnmpjcdanhaa.S
set_option linter.all false
set_option maxRecDepth 100000
set_option maxHeartbeats 2000000
def pjI (P : List Int) (j : Nat) : List Int := P.take j ++ List.replicate (48 - j) 0
theorem pjI_len {P : List Int} {j : Nat} (h1 : j ≤ 48) (h2 : j ≤ P.length) : (pjI P j).length = 48 := by
  unfold pjI; rw [List.length_append, List.length_take, List.length_replicate]; omega
theorem pjI_succ {P : List Int} {j : Nat} {x : Int} (h1 : j < 48) (h2 : P[j]? = some x) : (pjI P j).set j x = pjI P (j + 1) := by
  have hj := (List.getElem?_eq_some_iff.1 h2).1
  have hl : (P.take j).length = j := by rw [List.length_take]; omega
  unfold pjI
  rw [List.set_append_right _ _ (by omega), hl, Nat.sub_self, show 48 - j = (48 - (j + 1)) + 1 by omega, List.replicate_succ, List.set_cons_zero, List.take_add_one, h2]
  simp
theorem pjI_end {P : List Int} {j : Nat} (h1 : j ≤ 48) (h2 : j ≤ P.length) (h : j = 48 ∨ j = P.length) : pjI P j = padI P := by
  unfold pjI padI
  rcases h with rfl | rfl
  · rw [show 48 - 48 = 48 - P.length by omega]
  · rw [List.take_of_length_le (Nat.le_refl _), List.take_of_length_le h1]
theorem seg_u8c {X : List Int} {n : Nat} (h : X.length = n) : (seg (u8c X) 0 n).map (fun a => [a]) = u8s X := by
  unfold seg u8c u8s
  rw [List.drop_zero, List.take_of_length_le (by rw [List.length_map]; omega), List.map_map]
  rfl
theorem rmake0 (n : Int) (hn : 0 ≤ n ∧ n < 18446744073709551616) (t : List Int) (hb : ByteL t) (ht : t.length ≤ 90000) : ACalls Try.prog 25 [.int .u64 n, .ro 1 (u8s t)] [] (fun r hs => (r = .tup [.nils, .int .i64 (makeI n t).2] ∧ hs = [] ∧ (makeI n t).1 = []) ∨ (r = .tup [.own 0, .int .i64 (makeI n t).2] ∧ hs = [.grow 5 1 (u8s (makeI n t).1)])) := by
  refine acalls_weak (acalls_of (fn := Try.f25) (A := a25) Try.func25 ok_25 en_25 ?_)
  dsimp only [a25, u8s_len]
  (refine eval_sound 2000 _ _ _ ?_; simp (maxSteps := 1000000) only [ptrL, lenV, Bool.not_true, Bool.not_false, lookR, valOf, asGrow, jump, findA, restA, and, Nat.reduceAdd, Nat.reduceSub, Nat.reduceMul, Int.reduceToNat, eval, nf, nfO, opN, appTo, rowsV, getL, setL, getO, setO, snocO, lenO, putL, ev, evs, ifEq, killV, killL, kill1, kill1L, kill, kills, killO, killOs, bin, binI, binS, binB, eq1, eqB, lit, sameK, kn, unI, mxA, mnA, mkAgg, fits, partN, partA, resN, retV, allVal, isVal, allCell, isCell, okVal, okCell, cellsOf, fillN, rowsN, cellsN, bnd, lohi, offAt, overL, segL, leave, NodeOK, List.cons_append, List.nil_append, List.append_nil, catA, anys, lenA])
  simp only [decide_eq_true_eq, decide_eq_false_iff_not, u8s_len]
  refine ⟨fun h1 => ?_, fun h1 => ⟨fun h2 => ?_, fun h2 => ?_⟩⟩
  · have e : makeI n t = ([], 2) := by unfold makeI; rw [if_pos (by simpa using h1)]
    rw [e]
    refine ⟨[], rfl, _, _, ?_, ?_, .inl ⟨rfl, rfl, rfl⟩⟩ <;> simp [Wk, mtc, mtcS, mtcSL, mtc0, mtc0L, mtcL, mtcO, mtcOs, cutM, takeE, stA, rl, renV, renL, ren1, ren1L, ren, rens, renO, Nat.blt, lenO, getO, setO, setL, anys, okS, endM, endH, idxN, takeE, pickE, catO, rl, renV, renL, ren1, ren1L, ren, rens, renO, Nat.blt, lenO, getO, setO, setL, anys, u8s]
  · have e : makeI n t = ([], 11) := by unfold makeI; rw [if_neg (by simpa using h1), if_pos (by omega)]
    rw [e]
    refine ⟨[], rfl, _, _, ?_, ?_, .inl ⟨rfl, rfl, rfl⟩⟩ <;> simp [Wk, mtc, mtcS, mtcSL, mtc0, mtc0L, mtcL, mtcO, mtcOs, cutM, takeE, stA, rl, renV, renL, ren1, ren1L, ren, rens, renO, Nat.blt, lenO, getO, setO, setL, anys, okS, endM, endH, idxN, takeE, pickE, catO, rl, renV, renL, ren1, ren1L, ren, rens, renO, Nat.blt, lenO, getO, setO, setL, anys, u8s]
  have e : makeI n t = (frameK (sealI (numI (t.length : Nat) 4 ++ t)) n ((t.length + 55) / 48), 0) := by unfold makeI; rw [if_neg (by simpa using h1), if_neg (by omega)]
  rw [e]
  have hp := rput_c (u8s []) 4 ((t.length : Nat) : Int) (by simp [u8s]) (by omega)
  rw [putS_one [] 4 _ (by omega), List.nil_append, show (4 : Int).toNat = 4 from rfl] at hp
  rw [show u8s [] = [] from rfl] at hp
  have hq := rput_c (u8s []) 8 n (by simp [u8s]) hn
  rw [putS_one [] 8 _ (by omega), List.nil_append, show (8 : Int).toNat = 8 from rfl] at hq
  rw [show u8s [] = [] from rfl] at hq
  have b4 := numI_byte ((t.length : Nat) : Int) 4
  have b8 := numI_byte n 8
  have l4 := numI_len ((t.length : Nat) : Int) 4
  have l8 := numI_len n 8
  have fkl := frameK_len (sealI (numI ((t.length : Nat) : Int) 4 ++ t)) n
  have sl := sealI_len (numI ((t.length : Nat) : Int) 4 ++ t)
  have hbA : ByteL (numI ((t.length : Nat) : Int) 4 ++ t) := fun x hx => by
    rcases List.mem_append.1 hx with hx | hx
    · exact b4 x hx
    · exact hb x hx
  have hsl := rseal_c (numI ((t.length : Nat) : Int) 4 ++ t) (by rw [List.length_append, l4]; omega) hbA
  rw [List.length_append, l4] at sl
  have hf0 : ∀ k, frameK (sealI (numI ((t.length : Nat) : Int) 4 ++ t)) n (k + 1) = frameK (sealI (numI ((t.length : Nat) : Int) 4 ++ t)) n k ++ (numI n 8).reverse ++ padI ((sealI (numI ((t.length : Nat) : Int) 4 ++ t)).drop (48 * k)) ++ numI n 8 := fun k => rfl
  have hff : frameK (sealI (numI ((t.length : Nat) : Int) 4 ++ t)) n 0 = [] := rfl
  rw [← u8s_app] at hsl
  generalize hA : sealI (numI ((t.length : Nat) : Int) 4 ++ t) = A at *
  generalize hK : frameK A n = K at *
  generalize hN4 : numI ((t.length : Nat) : Int) 4 = N4 at *
  generalize hN8 : numI n 8 = N8 at *
  rw [wru64 (n := ((t.length : Nat) : Int)) (by omega) (by omega)]
  refine acall_args [.ro 1 [], .int .i64 4, .int .u64 ((t.length : Nat) : Int)] (by simp [mtc, mtc0, mtcL]) ?_
  ((repeat (with_reducible refine And.intro ?_ ?_; focus (simp; done))); refine aw_call (hp) [] rfl (by simp [upM, nthN, matchO, rens, ren, ren1, ren1L, renL, renV, renO, rl, lenO, getO, Nat.blt, mtc, mtcS, mtcSL, mtc0, mtc0L, u8s_len]) rfl (by simp [upM, nthN, matchO, rens, ren, ren1, ren1L, renL, renV, renO, rl, lenO, getO, Nat.blt, mtc, mtcS, mtcSL, mtc0, mtc0L, u8s_len]) rfl (fun r hs hp hl => ?_); obtain ⟨rfl, rfl⟩ := hp; simp only [snocO, upM, nthN, putAll, snocAll, killsA, killOsA, grows, putL, rl, renV, renL, ren1, ren1L, ren, rens, renO, Nat.blt, lenO, getO, setO, setL, anys, u8s_len]; (refine eval_sound 2000 _ _ _ ?_; simp (maxSteps := 1000000) only [ptrL, lenV, Bool.not_true, Bool.not_false, lookR, valOf, asGrow, jump, findA, restA, and, Nat.reduceAdd, Nat.reduceSub, Nat.reduceMul, Int.reduceToNat, eval, nf, nfO, opN, appTo, rowsV, getL, setL, getO, setO, snocO, lenO, putL, ev, evs, ifEq, killV, killL, kill1, kill1L, kill, kills, killO, killOs, bin, binI, binS, binB, eq1, eqB, lit, sameK, kn, unI, mxA, mnA, mkAgg, fits, partN, partA, resN, retV, allVal, isVal, allCell, isCell, okVal, okCell, cellsOf, fillN, rowsN, cellsN, bnd, lohi, offAt, overL, segL, leave, NodeOK, List.cons_append, List.nil_append, List.append_nil, catA, anys, lenA]))
  refine ⟨by rw [u8s_len, u8s_len, l4]; omega, ?_⟩
  (refine acall_trans (trans_frz 0 _ _ _ rfl) ?_; simp only [snocO, mapA, frz, frz1, frzV, mapO, frzO, ifEq, setO, getO, getL, setL])
  ((repeat (with_reducible refine And.intro ?_ ?_; focus (simp; done))); refine aw_call (hsl) [] rfl (by simp [upM, nthN, matchO, rens, ren, ren1, ren1L, renL, renV, renO, rl, lenO, getO, Nat.blt, mtc, mtcS, mtcSL, mtc0, mtc0L, u8s_len]) rfl (by simp [upM, nthN, matchO, rens, ren, ren1, ren1L, renL, renV, renO, rl, lenO, getO, Nat.blt, mtc, mtcS, mtcSL, mtc0, mtc0L, u8s_len]) rfl (fun r hs hp hl => ?_); obtain ⟨rfl, rfl⟩ := hp; simp only [snocO, upM, nthN, putAll, snocAll, killsA, killOsA, grows, putL, rl, renV, renL, ren1, ren1L, ren, rens, renO, Nat.blt, lenO, getO, setO, setL, anys, u8s_len]; (refine eval_sound 2000 _ _ _ ?_; simp (maxSteps := 1000000) only [ptrL, lenV, Bool.not_true, Bool.not_false, lookR, valOf, asGrow, jump, findA, restA, and, Nat.reduceAdd, Nat.reduceSub, Nat.reduceMul, Int.reduceToNat, eval, nf, nfO, opN, appTo, rowsV, getL, setL, getO, setO, snocO, lenO, putL, ev, evs, ifEq, killV, killL, kill1, kill1L, kill, kills, killO, killOs, bin, binI, binS, binB, eq1, eqB, lit, sameK, kn, unI, mxA, mnA, mkAgg, fits, partN, partA, resN, retV, allVal, isVal, allCell, isCell, okVal, okCell, cellsOf, fillN, rowsN, cellsN, bnd, lohi, offAt, overL, segL, leave, NodeOK, List.cons_append, List.nil_append, List.append_nil, catA, anys, lenA]))
  refine acall_args [.ro 1 [], .int .i64 8, .int .u64 n] (by simp [mtc, mtc0, mtcL]) ?_
  ((repeat (with_reducible refine And.intro ?_ ?_; focus (simp; done))); refine aw_call (hq) [] rfl (by simp [upM, nthN, matchO, rens, ren, ren1, ren1L, renL, renV, renO, rl, lenO, getO, Nat.blt, mtc, mtcS, mtcSL, mtc0, mtc0L, u8s_len]) rfl (by simp [upM, nthN, matchO, rens, ren, ren1, ren1L, renL, renV, renO, rl, lenO, getO, Nat.blt, mtc, mtcS, mtcSL, mtc0, mtc0L, u8s_len]) rfl (fun r hs hp hl => ?_); obtain ⟨rfl, rfl⟩ := hp; simp only [snocO, upM, nthN, putAll, snocAll, killsA, killOsA, grows, putL, rl, renV, renL, ren1, ren1L, ren, rens, renO, Nat.blt, lenO, getO, setO, setL, anys, u8s_len])
  (refine aw_trans (trans_frz 1 _ _ _ rfl) ?_; simp only [snocO, mapA, frz, frz1, frzV, mapO, frzO, ifEq, setO, getO, getL, setL])
  (refine eval_sound 6 _ _ _ ?_; simp only [ptrL, lenV, Bool.not_true, Bool.not_false, lookR, valOf, asGrow, jump, findA, restA, and, Nat.reduceAdd, Nat.reduceSub, Nat.reduceMul, Int.reduceToNat, eval, nf, nfO, opN, appTo, rowsV, getL, setL, getO, setO, snocO, lenO, putL, ev, evs, ifEq, killV, killL, kill1, kill1L, kill, kills, killO, killOs, bin, binI, binS, binB, eq1, eqB, lit, sameK, kn, unI, mxA, mnA, mkAgg, fits, partN, partA, resN, retV, allVal, isVal, allCell, isCell, okVal, okCell, cellsOf, fillN, rowsN, cellsN, bnd, lohi, offAt, overL, segL, leave, NodeOK, List.cons_append, List.nil_append, List.append_nil, catA, anys, lenA])
  refine aw_trans (trans_nil 8 5 1 (by simp) rfl) ?_
  simp only [lenO, snocO, setL]
  (refine eval_sound 2000 _ _ _ ?_; simp (maxSteps := 1000000) only [ptrL, lenV, Bool.not_true, Bool.not_false, lookR, valOf, asGrow, jump, findA, restA, and, Nat.reduceAdd, Nat.reduceSub, Nat.reduceMul, Int.reduceToNat, eval, nf, nfO, opN, appTo, rowsV, getL, setL, getO, setO, snocO, lenO, putL, ev, evs, ifEq, killV, killL, kill1, kill1L, kill, kills, killO, killOs, bin, binI, binS, binB, eq1, eqB, lit, sameK, kn, unI, mxA, mnA, mkAgg, fits, partN, partA, resN, retV, allVal, isVal, allCell, isCell, okVal, okCell, cellsOf, fillN, rowsN, cellsN, bnd, lohi, offAt, overL, segL, leave, NodeOK, List.cons_append, List.nil_append, List.append_nil, catA, anys, lenA])
  have hsec : secI ((t.length : Nat) : Int) = (((t.length + 55) / 48 : Nat) : Int) := by unfold secI; rw [if_neg (by omega)]; omega
  have hsc := rsectors_c ((t.length : Nat) : Int)
  rw [hsec] at hsc
  generalize hS : (t.length + 55) / 48 = S at *
  refine aw_loopU (α := Nat) (fun k => k ≤ S) (fun k => [(9, .int .i64 (k : Nat)), (8, .own 2)]) (fun k => [(2, .grow 5 1 (u8s (K k)))]) (fun k => S - k) (0) (Nat.zero_le _) ?_ fun k hk => ?_
  · rw [hff]
    (simp only [wrC, wrOs, keepT, memN, setsL, setsO, setL, setO, snocO, List.cons_append, List.nil_append, List.append_nil, Nat.reduceAdd, Nat.zero_add, Wk, mtc, mtcS, mtcSL, mtc0, mtc0L, mtcL, mtcO, mtcOs, cutM, takeE, stA, rl, renV, renL, ren1, ren1L, ren, rens, renO, Nat.blt, lenO, getO, setO, setL, anys, u8s]; simp [u8s])
  (simp only [wrC, wrOs, keepT, memN, setsL, setsO, setL, setO, snocO, List.cons_append, List.nil_append, List.append_nil, Nat.reduceAdd, Nat.zero_add, u8s_len]; (refine eval_sound 2000 _ _ _ ?_; simp (maxSteps := 1000000) only [ptrL, lenV, Bool.not_true, Bool.not_false, lookR, valOf, asGrow, jump, findA, restA, and, Nat.reduceAdd, Nat.reduceSub, Nat.reduceMul, Int.reduceToNat, eval, nf, nfO, opN, appTo, rowsV, getL, setL, getO, setO, snocO, lenO, putL, ev, evs, ifEq, killV, killL, kill1, kill1L, kill, kills, killO, killOs, bin, binI, binS, binB, eq1, eqB, lit, sameK, kn, unI, mxA, mnA, mkAgg, fits, partN, partA, resN, retV, allVal, isVal, allCell, isCell, okVal, okCell, cellsOf, fillN, rowsN, cellsN, bnd, lohi, offAt, overL, segL, leave, NodeOK, List.cons_append, List.nil_append, List.append_nil, catA, anys, lenA]))
  simp only [u8s_len]
  ((repeat (with_reducible refine And.intro ?_ ?_; focus (simp; done))); refine aw_call (hsc) [] rfl (by simp [upM, nthN, matchO, rens, ren, ren1, ren1L, renL, renV, renO, rl, lenO, getO, Nat.blt, mtc, mtcS, mtcSL, mtc0, mtc0L, u8s_len]) rfl (by simp [upM, nthN, matchO, rens, ren, ren1, ren1L, renL, renV, renO, rl, lenO, getO, Nat.blt, mtc, mtcS, mtcSL, mtc0, mtc0L, u8s_len]) rfl (fun r hs hp hl => ?_); obtain ⟨rfl, rfl⟩ := hp; simp only [snocO, upM, nthN, putAll, snocAll, killsA, killOsA, grows, putL, rl, renV, renL, ren1, ren1L, ren, rens, renO, Nat.blt, lenO, getO, setO, setL, anys, u8s_len]; (refine eval_sound 2000 _ _ _ ?_; simp (maxSteps := 1000000) only [ptrL, lenV, Bool.not_true, Bool.not_false, lookR, valOf, asGrow, jump, findA, restA, and, Nat.reduceAdd, Nat.reduceSub, Nat.reduceMul, Int.reduceToNat, eval, nf, nfO, opN, appTo, rowsV, getL, setL, getO, setO, snocO, lenO, putL, ev, evs, ifEq, killV, killL, kill1, kill1L, kill, kills, killO, killOs, bin, binI, binS, binB, eq1, eqB, lit, sameK, kn, unI, mxA, mnA, mkAgg, fits, partN, partA, resN, retV, allVal, isVal, allCell, isCell, okVal, okCell, cellsOf, fillN, rowsN, cellsN, bnd, lohi, offAt, overL, segL, leave, NodeOK, List.cons_append, List.nil_append, List.append_nil, catA, anys, lenA]))
  simp only [decide_eq_true_eq, decide_eq_false_iff_not]
  refine ⟨fun h3 => ?_, fun h3 => ?_⟩
  · have hk1 := hf0 k
    have hkl := fkl k
    have hPl : (A.drop (48 * k)).length = A.length - 48 * k := List.length_drop
    have hPg : ∀ q, (A.drop (48 * k))[q]? = A[48 * k + q]? := fun q => List.getElem?_drop
    generalize A.drop (48 * k) = P at *
    refine ⟨by omega, ?_⟩
    have wm : IntKind.i64.wrap ((k : Int) * 48) = ((48 * k : Nat) : Int) := by rw [wr64 (by omega) (by omega)]; omega
    have wk : IntKind.i64.wrap ((k : Int) + 1) = ((k + 1 : Nat) : Int) := by rw [wr64 (by omega) (by omega)]; rfl
    have hz : (List.replicate (48 : Int).toNat [AV.int .u8 0]).flatten = u8c (pjI P 0) := rfl
    refine aw_loopU (α := Nat) (fun j => j ≤ 48 ∧ j ≤ P.length) (fun j => [(11, .int .i64 (j : Nat)), (8, .own 2)]) (fun j => [(3, .arr 5 (u8c (pjI P j)))]) (fun j => 48 - j) (0) (⟨by omega, by omega⟩) ?_ fun j hj => ?_
    · (simp only [wrC, wrOs, keepT, memN, setsL, setsO, setL, setO, snocO, List.cons_append, List.nil_append, List.append_nil, Nat.reduceAdd, Nat.zero_add, Wk, mtc, mtcS, mtcSL, mtc0, mtc0L, mtcL, mtcO, mtcOs, cutM, takeE, stA, rl, renV, renL, ren1, ren1L, ren, rens, renO, Nat.blt, lenO, getO, setO, setL, anys, pjI, u8c]; simp [pjI, u8c])
    obtain ⟨hj0, hj1⟩ := hj
    have hpj := pjI_len hj0 hj1
    have wj : IntKind.i64.wrap ((j : Int) + 1) = ((j + 1 : Nat) : Int) := by rw [wr64 (by omega) (by omega)]; rfl
    have wx : IntKind.i64.wrap (((48 * k : Nat) : Int) + j) = ((48 * k + j : Nat) : Int) := by rw [wr64 (by omega) (by omega)]; rfl
    (simp only [wrC, wrOs, keepT, memN, setsL, setsO, setL, setO, snocO, List.cons_append, List.nil_append, List.append_nil, Nat.reduceAdd, Nat.zero_add, u8s_len]; (refine eval_sound 2000 _ _ _ ?_; simp (maxSteps := 1000000) only [ptrL, lenV, Bool.not_true, Bool.not_false, lookR, valOf, asGrow, jump, findA, restA, and, Nat.reduceAdd, Nat.reduceSub, Nat.reduceMul, Int.reduceToNat, eval, nf, nfO, opN, appTo, rowsV, getL, setL, getO, setO, snocO, lenO, putL, ev, evs, ifEq, killV, killL, kill1, kill1L, kill, kills, killO, killOs, bin, binI, binS, binB, eq1, eqB, lit, sameK, kn, unI, mxA, mnA, mkAgg, fits, partN, partA, resN, retV, allVal, isVal, allCell, isCell, okVal, okCell, cellsOf, fillN, rowsN, cellsN, bnd, lohi, offAt, overL, segL, leave, NodeOK, List.cons_append, List.nil_append, List.append_nil, catA, anys, lenA]))
    simp only [decide_eq_true_eq, decide_eq_false_iff_not, u8s_len]
    rw [wm, wx]
    refine ⟨fun h4 => ⟨fun h5 => ?_, fun h5 => ?_⟩, fun h4 => ?_⟩
    · obtain ⟨x, hx⟩ : ∃ x, P[j]? = some x := ⟨_, List.getElem?_eq_getElem (by omega)⟩
      have hs := pjI_succ (by omega) hx
      have ho := over_u8c (l := pjI P j) (E := []) (q := j) (n := x) (by omega)
      rw [List.append_nil, List.append_nil, hs] at ho
      refine ⟨by omega, [.int .u8 x], by rw [u8s_at, Int.toNat_natCast, ← hPg, hx]; rfl, ?_⟩
      (refine eval_sound 2000 _ _ _ ?_; simp (maxSteps := 1000000) only [ptrL, lenV, Bool.not_true, Bool.not_false, lookR, valOf, asGrow, jump, findA, restA, and, Nat.reduceAdd, Nat.reduceSub, Nat.reduceMul, Int.reduceToNat, eval, nf, nfO, opN, appTo, rowsV, getL, setL, getO, setO, snocO, lenO, putL, ev, evs, ifEq, killV, killL, kill1, kill1L, kill, kills, killO, killOs, bin, binI, binS, binB, eq1, eqB, lit, sameK, kn, unI, mxA, mnA, mkAgg, fits, partN, partA, resN, retV, allVal, isVal, allCell, isCell, okVal, okCell, cellsOf, fillN, rowsN, cellsN, bnd, lohi, offAt, overL, segL, leave, NodeOK, List.cons_append, List.nil_append, List.append_nil, catA, anys, lenA])
      rw [wj]
      rw [show 0 + (j : Int).toNat * 1 = j by omega, ho]
      refine ⟨⟨by omega, by omega⟩, by rw [u8c_len, hpj]; omega, j + 1, ⟨by omega, by omega⟩, by omega, ?_⟩
      (simp only [wrC, wrOs, keepT, memN, setsL, setsO, setL, setO, snocO, List.cons_append, List.nil_append, List.append_nil, Nat.reduceAdd, Nat.zero_add, Wk, mtc, mtcS, mtcSL, mtc0, mtc0L, mtcL, mtcO, mtcOs, cutM, takeE, stA, rl, renV, renL, ren1, ren1L, ren, rens, renO, Nat.blt, lenO, getO, setO, setL, anys, u8s_len]; simp [u8s_len])
    · have he := pjI_end hj0 hj1 (.inr (by omega))
      ((repeat (with_reducible refine And.intro ?_ ?_; focus (simp; done))); refine aw_call (rtrn_c N8 (by omega)) [] rfl (by simp [upM, nthN, matchO, rens, ren, ren1, ren1L, renL, renV, renO, rl, lenO, getO, Nat.blt, mtc, mtcS, mtcSL, mtc0, mtc0L, u8s_len]) rfl (by simp [upM, nthN, matchO, rens, ren, ren1, ren1L, renL, renV, renO, rl, lenO, getO, Nat.blt, mtc, mtcS, mtcSL, mtc0, mtc0L, u8s_len]) rfl (fun r hs hp hl => ?_); obtain ⟨rfl, rfl⟩ := hp; simp only [snocO, upM, nthN, putAll, snocAll, killsA, killOsA, grows, putL, rl, renV, renL, ren1, ren1L, ren, rens, renO, Nat.blt, lenO, getO, setO, setL, anys, u8s_len]; (refine eval_sound 2000 _ _ _ ?_; simp (maxSteps := 1000000) only [ptrL, lenV, Bool.not_true, Bool.not_false, lookR, valOf, asGrow, jump, findA, restA, and, Nat.reduceAdd, Nat.reduceSub, Nat.reduceMul, Int.reduceToNat, eval, nf, nfO, opN, appTo, rowsV, getL, setL, getO, setO, snocO, lenO, putL, ev, evs, ifEq, killV, killL, kill1, kill1L, kill, kills, killO, killOs, bin, binI, binS, binB, eq1, eqB, lit, sameK, kn, unI, mxA, mnA, mkAgg, fits, partN, partA, resN, retV, allVal, isVal, allCell, isCell, okVal, okCell, cellsOf, fillN, rowsN, cellsN, bnd, lohi, offAt, overL, segL, leave, NodeOK, List.cons_append, List.nil_append, List.append_nil, catA, anys, lenA]))
      rw [seg_u8c hpj, he]
      simp only [u8s_app]
      rw [← hk1, wk]
      have hpd := padI_len P
      refine ⟨by simp only [u8s_len, List.length_append, List.length_reverse]; omega, ⟨by rw [u8c_len, hpd]; exact Nat.le_refl _, by omega⟩, by simp only [u8s_len, List.length_append, List.length_reverse]; omega, by simp only [u8s_len, List.length_append, List.length_reverse]; omega, k + 1, by omega, by omega, ?_⟩
      (simp only [wrC, wrOs, keepT, memN, setsL, setsO, setL, setO, snocO, List.cons_append, List.nil_append, List.append_nil, Nat.reduceAdd, Nat.zero_add, Wk, mtc, mtcS, mtcSL, mtc0, mtc0L, mtcL, mtcO, mtcOs, cutM, takeE, stA, rl, renV, renL, ren1, ren1L, ren, rens, renO, Nat.blt, lenO, getO, setO, setL, anys, u8s_len]; simp [u8s_len])
    · have he := pjI_end hj0 hj1 (.inl (by omega))
      ((repeat (with_reducible refine And.intro ?_ ?_; focus (simp; done))); refine aw_call (rtrn_c N8 (by omega)) [] rfl (by simp [upM, nthN, matchO, rens, ren, ren1, ren1L, renL, renV, renO, rl, lenO, getO, Nat.blt, mtc, mtcS, mtcSL, mtc0, mtc0L, u8s_len]) rfl (by simp [upM, nthN, matchO, rens, ren, ren1, ren1L, renL, renV, renO, rl, lenO, getO, Nat.blt, mtc, mtcS, mtcSL, mtc0, mtc0L, u8s_len]) rfl (fun r hs hp hl => ?_); obtain ⟨rfl, rfl⟩ := hp; simp only [snocO, upM, nthN, putAll, snocAll, killsA, killOsA, grows, putL, rl, renV, renL, ren1, ren1L, ren, rens, renO, Nat.blt, lenO, getO, setO, setL, anys, u8s_len]; (refine eval_sound 2000 _ _ _ ?_; simp (maxSteps := 1000000) only [ptrL, lenV, Bool.not_true, Bool.not_false, lookR, valOf, asGrow, jump, findA, restA, and, Nat.reduceAdd, Nat.reduceSub, Nat.reduceMul, Int.reduceToNat, eval, nf, nfO, opN, appTo, rowsV, getL, setL, getO, setO, snocO, lenO, putL, ev, evs, ifEq, killV, killL, kill1, kill1L, kill, kills, killO, killOs, bin, binI, binS, binB, eq1, eqB, lit, sameK, kn, unI, mxA, mnA, mkAgg, fits, partN, partA, resN, retV, allVal, isVal, allCell, isCell, okVal, okCell, cellsOf, fillN, rowsN, cellsN, bnd, lohi, offAt, overL, segL, leave, NodeOK, List.cons_append, List.nil_append, List.append_nil, catA, anys, lenA]))
      rw [seg_u8c hpj, he]
      simp only [u8s_app]
      rw [← hk1, wk]
      have hpd := padI_len P
      refine ⟨by simp only [u8s_len, List.length_append, List.length_reverse]; omega, ⟨by rw [u8c_len, hpd]; exact Nat.le_refl _, by omega⟩, by simp only [u8s_len, List.length_append, List.length_reverse]; omega, by simp only [u8s_len, List.length_append, List.length_reverse]; omega, k + 1, by omega, by omega, ?_⟩
      (simp only [wrC, wrOs, keepT, memN, setsL, setsO, setL, setO, snocO, List.cons_append, List.nil_append, List.append_nil, Nat.reduceAdd, Nat.zero_add, Wk, mtc, mtcS, mtcSL, mtc0, mtc0L, mtcL, mtcO, mtcOs, cutM, takeE, stA, rl, renV, renL, ren1, ren1L, ren, rens, renO, Nat.blt, lenO, getO, setO, setL, anys, u8s_len]; simp [u8s_len])
  · obtain rfl : k = S := by omega
    refine ⟨[2], rfl, _, _, ?_, ?_, .inr ⟨rfl, rfl⟩⟩ <;> simp [Wk, mtc, mtcS, mtcSL, mtc0, mtc0L, mtcL, mtcO, mtcOs, cutM, takeE, stA, rl, renV, renL, ren1, ren1L, ren, rens, renO, Nat.blt, lenO, getO, setO, setL, anys, okS, endM, endH, idxN, takeE, pickE, catO, rl, renV, renL, ren1, ren1L, ren, rens, renO, Nat.blt, lenO, getO, setO, setL, anys]
theorem rmake_c (n : Int) (hn : 0 ≤ n ∧ n < 18446744073709551616) (t : List Int) (hb : ByteL t) (ht : t.length ≤ 90000) : ACalls Try.prog 25 [.int .u64 n, .ro 1 (u8s t)] [] (fun r hs => r = .tup [.ro 1 (u8s (makeI n t).1), .int .i64 (makeI n t).2] ∧ hs = []) := by
  refine acalls_tr (rmake0 n hn t hb ht) fun r hs h => ?_
  rcases h with ⟨rfl, rfl, h3⟩ | ⟨rfl, rfl⟩
  · rw [h3]
    exact ⟨_, _, _, _, _, trans_id, by simp [Wk, mtc, mtcS, mtcSL, mtc0, mtc0L, mtcL, mtcO, mtcOs, cutM, takeE, stA, rl, renV, renL, ren1, ren1L, ren, rens, renO, Nat.blt, lenO, getO, setO, setL, anys, u8s], rfl, rfl⟩
  · exact ⟨_, _, _, _, _, trans_frz 0 _ _ _ rfl, by simp [snocO, mapA, frz, frz1, frzV, mapO, frzO, ifEq, setO, getO, getL, setL, Wk, mtc, mtcS, mtcSL, mtc0, mtc0L, mtcL, mtcO, mtcOs, cutM, takeE, stA, rl, renV, renL, ren1, ren1L, ren, rens, renO, Nat.blt, lenO, getO, setO, setL, anys, frz, frz1, frzV, frzO], rfl, rfl⟩
end Go.Proofs.Ytjkmnmpjcdanhaa.S
