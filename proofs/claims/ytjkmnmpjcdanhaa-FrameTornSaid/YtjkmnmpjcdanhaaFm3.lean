/- Contracts of frames: Read. -/
import Derived.Test.YtjkmnmpjcdanhaaFm2
namespace Go.Proofs.Ytjkmnmpjcdanhaa.S
set_option linter.all false
set_option maxRecDepth 100000
set_option maxHeartbeats 2000000
def sizeI (l : List Int) : Nat := leN ((l.drop 8).take 4)
def firstI (l : List Int) : Nat × Nat × Int :=
  if l.length < 64 then (0, 0, 10) else if (endsI l).1 ≠ (endsI l).2 then (0, 0, 13) else if (endsI l).1 = 0 then (0, 0, 40) else if 65536 < sizeI l then (0, 0, 11) else ((endsI l).1, sizeI l, 0)
def allK (l : List Int) : Nat → List Int
  | 0 => []
  | k + 1 => allK l k ++ (l.drop (64 * k + 8)).take 48
def piecesI (l : List Int) (n S : Nat) : List Int × Int := if l.length < S * 64 then ([], 10) else if ∀ i, i < S → endsI (l.drop (64 * i)) = (n, n) then (allK l S, 0) else ([], 13)
theorem allK_len (l : List Int) : ∀ k, 64 * k ≤ l.length → (allK l k).length = 48 * k
  | 0, _ => rfl
  | k + 1, h => by
    show (allK l k ++ (l.drop (64 * k + 8)).take 48).length = _
    rw [List.length_append, allK_len l k (by omega), List.length_take, List.length_drop]
    omega
theorem allK_byte {l : List Int} (hb : ByteL l) : ∀ k, ByteL (allK l k)
  | 0 => fun x hx => by simp [allK] at hx
  | k + 1 => fun x hx => by
    rcases List.mem_append.1 hx with hx | hx
    · exact allK_byte hb k x hx
    · exact hb x (List.mem_of_mem_drop (List.mem_of_mem_take hx))
theorem leN4 {l : List Int} (hb : ByteL l) (h : l.length ≤ 4) : leN l < 4294967296 := by
  have := leN_lt l hb
  refine Nat.lt_of_lt_of_le this ?_
  exact Nat.pow_le_pow_right (n := 256) (by omega) h
theorem cutS (l : List Int) (k : Nat) : List.take (l.length - k) (List.drop k (u8s l)) = u8s (l.drop k) := by
  rw [u8s_drop]
  apply List.take_of_length_le
  rw [u8s_len, List.length_drop]
  exact Nat.le_refl _
theorem first_c (l : List Int) (hb : ByteL l) (hL : l.length ≤ 100000) : ACalls Try.prog 53 [.ro 1 (u8s l)] [] (fun r hs => r = .tup [.int .u64 ((firstI l).1 : Nat), .int .i64 ((firstI l).2.1 : Nat), .int .i64 (firstI l).2.2] ∧ hs = []) := by
  have he := ends_c l hb hL
  have hbd : ByteL (l.drop 8) := fun x hx => hb x (List.mem_of_mem_drop hx)
  have hbt : ByteL ((l.drop 8).take 4) := fun x hx => hbd x (List.mem_of_mem_take hx)
  have hs4 := leN4 hbt (by rw [List.length_take]; omega)
  have c1 := read_ (l.drop 8)
  have c2 := num_c (l.drop 8) false 4
  have hF : firstI l = if l.length < 64 then (0, 0, 10) else if (endsI l).1 ≠ (endsI l).2 then (0, 0, 13) else if (endsI l).1 = 0 then (0, 0, 40) else if 65536 < sizeI l then (0, 0, 11) else ((endsI l).1, sizeI l, 0) := rfl
  generalize firstI l = F at *
  have hZ : sizeI l = leN ((l.drop 8).take 4) := rfl
  generalize sizeI l = Z at *
  rw [← hZ] at hs4
  generalize endsI l = X at *
  obtain ⟨x, y⟩ := X
  simp only [] at hF he
  refine acalls_weak (acalls_of (fn := Try.f53) (A := a53) Try.func53 ok_53 en_53 ?_)
  dsimp only [a53, rdO]
  (refine eval_sound 2000 _ _ _ ?_; simp (maxSteps := 1000000) only [ptrL, lenV, Bool.not_true, Bool.not_false, lookR, valOf, asGrow, jump, findA, restA, and, Nat.reduceAdd, Nat.reduceSub, Nat.reduceMul, Int.reduceToNat, eval, nf, nfO, opN, appTo, rowsV, getL, setL, getO, setO, snocO, lenO, putL, ev, evs, ifEq, killV, killL, kill1, kill1L, kill, kills, killO, killOs, bin, binI, binS, binB, eq1, eqB, lit, sameK, kn, unI, mxA, mnA, mkAgg, fits, partN, partA, resN, retV, allVal, isVal, allCell, isCell, okVal, okCell, cellsOf, fillN, rowsN, cellsN, bnd, lohi, offAt, overL, segL, leave, NodeOK, List.cons_append, List.nil_append, List.append_nil, catA, anys, lenA])
  ((repeat (with_reducible refine And.intro ?_ ?_; focus (simp; done))); refine aw_call (he) [] rfl (by simp [upM, nthN, matchO, rens, ren, ren1, ren1L, renL, renV, renO, rl, lenO, getO, Nat.blt, mtc, mtcS, mtcSL, mtc0, mtc0L, rdO]) rfl (by simp [upM, nthN, matchO, rens, ren, ren1, ren1L, renL, renV, renO, rl, lenO, getO, Nat.blt, mtc, mtcS, mtcSL, mtc0, mtc0L, rdO]) rfl (fun r hs hp hl => ?_); obtain ⟨rfl, rfl⟩ := hp; simp only [snocO, upM, nthN, putAll, snocAll, killsA, killOsA, grows, putL, rl, renV, renL, ren1, ren1L, ren, rens, renO, Nat.blt, lenO, getO, setO, setL, anys, rdO]; (refine eval_sound 2000 _ _ _ ?_; simp (maxSteps := 1000000) only [ptrL, lenV, Bool.not_true, Bool.not_false, lookR, valOf, asGrow, jump, findA, restA, and, Nat.reduceAdd, Nat.reduceSub, Nat.reduceMul, Int.reduceToNat, eval, nf, nfO, opN, appTo, rowsV, getL, setL, getO, setO, snocO, lenO, putL, ev, evs, ifEq, killV, killL, kill1, kill1L, kill, kills, killO, killOs, bin, binI, binS, binB, eq1, eqB, lit, sameK, kn, unI, mxA, mnA, mkAgg, fits, partN, partA, resN, retV, allVal, isVal, allCell, isCell, okVal, okCell, cellsOf, fillN, rowsN, cellsN, bnd, lohi, offAt, overL, segL, leave, NodeOK, List.cons_append, List.nil_append, List.append_nil, catA, anys, lenA]))
  (repeat (with_reducible refine And.intro ?_ ?_; focus (simp; done)))
  simp only [decide_eq_true_eq, decide_eq_false_iff_not, u8s_len]
  refine ⟨fun h1 => ?_, fun h1 => ⟨fun h2 => ?_, fun h2 => ⟨fun h3 => ?_, fun h3 => ?_⟩⟩⟩
  · rw [hF, if_pos (by omega)]
    ((repeat (with_reducible refine And.intro ?_ ?_; focus (simp; done))); refine ⟨[], rfl, _, _, ?_, ?_, rfl, rfl⟩ <;> simp [Wk, mtc, mtcS, mtcSL, mtc0, mtc0L, mtcL, mtcO, mtcOs, cutM, takeE, stA, rl, renV, renL, ren1, ren1L, ren, rens, renO, Nat.blt, lenO, getO, setO, setL, anys, okS, endM, endH, idxN, takeE, pickE, catO, rl, renV, renL, ren1, ren1L, ren, rens, renO, Nat.blt, lenO, getO, setO, setL, anys, rdO])
  · rw [hF, if_neg (by omega), if_pos (by simp at h2; omega)]
    ((repeat (with_reducible refine And.intro ?_ ?_; focus (simp; done))); refine ⟨[], rfl, _, _, ?_, ?_, rfl, rfl⟩ <;> simp [Wk, mtc, mtcS, mtcSL, mtc0, mtc0L, mtcL, mtcO, mtcOs, cutM, takeE, stA, rl, renV, renL, ren1, ren1L, ren, rens, renO, Nat.blt, lenO, getO, setO, setL, anys, okS, endM, endH, idxN, takeE, pickE, catO, rl, renV, renL, ren1, ren1L, ren, rens, renO, Nat.blt, lenO, getO, setO, setL, anys, rdO])
  · rw [hF, if_neg (by omega), if_neg (by simp at h2; omega), if_pos (by simp at h3; omega)]
    ((repeat (with_reducible refine And.intro ?_ ?_; focus (simp; done))); refine ⟨[], rfl, _, _, ?_, ?_, rfl, rfl⟩ <;> simp [Wk, mtc, mtcS, mtcSL, mtc0, mtc0L, mtcL, mtcO, mtcOs, cutM, takeE, stA, rl, renV, renL, ren1, ren1L, ren, rens, renO, Nat.blt, lenO, getO, setO, setL, anys, okS, endM, endH, idxN, takeE, pickE, catO, rl, renV, renL, ren1, ren1L, ren, rens, renO, Nat.blt, lenO, getO, setO, setL, anys, rdO])
  have e2 := numV_ge hbd 4 (by omega) (by rw [List.length_drop]; omega)
  rw [show (((4 : Nat) : Int)) = 4 from rfl, ← hZ] at e2
  rw [e2] at c2
  simp only [] at c2
  refine ⟨⟨by omega, by omega, by omega⟩, ?_⟩
  simp only [Int.toNat_natCast, cutS]
  ((repeat (with_reducible refine And.intro ?_ ?_; focus (simp; done))); refine aw_call (c1) [] rfl (by simp [upM, nthN, matchO, rens, ren, ren1, ren1L, renL, renV, renO, rl, lenO, getO, Nat.blt, mtc, mtcS, mtcSL, mtc0, mtc0L, rdO]) rfl (by simp [upM, nthN, matchO, rens, ren, ren1, ren1L, renL, renV, renO, rl, lenO, getO, Nat.blt, mtc, mtcS, mtcSL, mtc0, mtc0L, rdO]) rfl (fun r hs hp hl => ?_); obtain ⟨rfl, rfl⟩ := hp; simp only [snocO, upM, nthN, putAll, snocAll, killsA, killOsA, grows, putL, rl, renV, renL, ren1, ren1L, ren, rens, renO, Nat.blt, lenO, getO, setO, setL, anys, rdO]; (refine eval_sound 2000 _ _ _ ?_; simp (maxSteps := 1000000) only [ptrL, lenV, Bool.not_true, Bool.not_false, lookR, valOf, asGrow, jump, findA, restA, and, Nat.reduceAdd, Nat.reduceSub, Nat.reduceMul, Int.reduceToNat, eval, nf, nfO, opN, appTo, rowsV, getL, setL, getO, setO, snocO, lenO, putL, ev, evs, ifEq, killV, killL, kill1, kill1L, kill, kills, killO, killOs, bin, binI, binS, binB, eq1, eqB, lit, sameK, kn, unI, mxA, mnA, mkAgg, fits, partN, partA, resN, retV, allVal, isVal, allCell, isCell, okVal, okCell, cellsOf, fillN, rowsN, cellsN, bnd, lohi, offAt, overL, segL, leave, NodeOK, List.cons_append, List.nil_append, List.append_nil, catA, anys, lenA]))
  ((repeat (with_reducible refine And.intro ?_ ?_; focus (simp; done))); refine aw_call (c2) [0] rfl (by simp [upM, nthN, matchO, rens, ren, ren1, ren1L, renL, renV, renO, rl, lenO, getO, Nat.blt, mtc, mtcS, mtcSL, mtc0, mtc0L, rdO]) rfl (by simp [upM, nthN, matchO, rens, ren, ren1, ren1L, renL, renV, renO, rl, lenO, getO, Nat.blt, mtc, mtcS, mtcSL, mtc0, mtc0L, rdO]) rfl (fun r hs hp hl => ?_); obtain ⟨rfl, rfl⟩ := hp; simp only [snocO, upM, nthN, putAll, snocAll, killsA, killOsA, grows, putL, rl, renV, renL, ren1, ren1L, ren, rens, renO, Nat.blt, lenO, getO, setO, setL, anys, rdO]; (refine eval_sound 2000 _ _ _ ?_; simp (maxSteps := 1000000) only [ptrL, lenV, Bool.not_true, Bool.not_false, lookR, valOf, asGrow, jump, findA, restA, and, Nat.reduceAdd, Nat.reduceSub, Nat.reduceMul, Int.reduceToNat, eval, nf, nfO, opN, appTo, rowsV, getL, setL, getO, setO, snocO, lenO, putL, ev, evs, ifEq, killV, killL, kill1, kill1L, kill, kills, killO, killOs, bin, binI, binS, binB, eq1, eqB, lit, sameK, kn, unI, mxA, mnA, mkAgg, fits, partN, partA, resN, retV, allVal, isVal, allCell, isCell, okVal, okCell, cellsOf, fillN, rowsN, cellsN, bnd, lohi, offAt, overL, segL, leave, NodeOK, List.cons_append, List.nil_append, List.append_nil, catA, anys, lenA]))
  simp only [decide_eq_true_eq, decide_eq_false_iff_not]
  refine ⟨fun h4 => ?_, fun h4 => ?_⟩
  · rw [hF, if_neg (by omega), if_neg (by simp at h2; omega), if_neg (by simp at h3; omega), if_pos (by omega)]
    ((repeat (with_reducible refine And.intro ?_ ?_; focus (simp; done))); refine ⟨[], rfl, _, _, ?_, ?_, rfl, rfl⟩ <;> simp [Wk, mtc, mtcS, mtcSL, mtc0, mtc0L, mtcL, mtcO, mtcOs, cutM, takeE, stA, rl, renV, renL, ren1, ren1L, ren, rens, renO, Nat.blt, lenO, getO, setO, setL, anys, okS, endM, endH, idxN, takeE, pickE, catO, rl, renV, renL, ren1, ren1L, ren, rens, renO, Nat.blt, lenO, getO, setO, setL, anys, rdO])
  · rw [hF, if_neg (by omega), if_neg (by simp at h2; omega), if_neg (by simp at h3; omega), if_neg (by omega)]
    rw [wr64 (n := (Z : Int)) (by omega) (by omega)]
    ((repeat (with_reducible refine And.intro ?_ ?_; focus (simp; done))); refine ⟨[], rfl, _, _, ?_, ?_, rfl, rfl⟩ <;> simp [Wk, mtc, mtcS, mtcSL, mtc0, mtc0L, mtcL, mtcO, mtcOs, cutM, takeE, stA, rl, renV, renL, ren1, ren1L, ren, rens, renO, Nat.blt, lenO, getO, setO, setL, anys, okS, endM, endH, idxN, takeE, pickE, catO, rl, renV, renL, ren1, ren1L, ren, rens, renO, Nat.blt, lenO, getO, setO, setL, anys, rdO])
theorem pieces0 (l : List Int) (hb : ByteL l) (hL : l.length ≤ 100000) (n S : Nat) (hS : S ≤ 2000) : ACalls Try.prog 54 [.ro 1 (u8s l), .int .u64 n, .int .i64 S] [] (fun r hs => (r = .tup [.nils, .int .i64 (piecesI l n S).2] ∧ hs = [] ∧ (piecesI l n S).1 = []) ∨ (r = .tup [.own 0, .int .i64 (piecesI l n S).2] ∧ hs = [.grow 5 1 (u8s (piecesI l n S).1)])) := by
  refine acalls_weak (acalls_of (fn := Try.f54) (A := a54) Try.func54 ok_54 en_54 ?_)
  dsimp only [a54, u8s_len]
  (refine eval_sound 2000 _ _ _ ?_; simp (maxSteps := 1000000) only [ptrL, lenV, Bool.not_true, Bool.not_false, lookR, valOf, asGrow, jump, findA, restA, and, Nat.reduceAdd, Nat.reduceSub, Nat.reduceMul, Int.reduceToNat, eval, nf, nfO, opN, appTo, rowsV, getL, setL, getO, setO, snocO, lenO, putL, ev, evs, ifEq, killV, killL, kill1, kill1L, kill, kills, killO, killOs, bin, binI, binS, binB, eq1, eqB, lit, sameK, kn, unI, mxA, mnA, mkAgg, fits, partN, partA, resN, retV, allVal, isVal, allCell, isCell, okVal, okCell, cellsOf, fillN, rowsN, cellsN, bnd, lohi, offAt, overL, segL, leave, NodeOK, List.cons_append, List.nil_append, List.append_nil, catA, anys, lenA])
  rw [wr64 (n := (S : Int) * 64) (by omega) (by omega)]
  simp only [decide_eq_true_eq, decide_eq_false_iff_not, u8s_len]
  refine ⟨fun h1 => ?_, fun h1 => ?_⟩
  · have e : piecesI l n S = ([], 10) := by unfold piecesI; rw [if_pos (by omega)]
    rw [e]
    refine ⟨[], rfl, _, _, ?_, ?_, .inl ⟨rfl, rfl, rfl⟩⟩ <;> simp [Wk, mtc, mtcS, mtcSL, mtc0, mtc0L, mtcL, mtcO, mtcOs, cutM, takeE, stA, rl, renV, renL, ren1, ren1L, ren, rens, renO, Nat.blt, lenO, getO, setO, setL, anys, okS, endM, endH, idxN, takeE, pickE, catO, rl, renV, renL, ren1, ren1L, ren, rens, renO, Nat.blt, lenO, getO, setO, setL, anys]
  refine aw_trans (trans_nil 8 5 1 (by simp) rfl) ?_
  simp only [lenO, snocO, setL]
  (refine eval_sound 2000 _ _ _ ?_; simp (maxSteps := 1000000) only [ptrL, lenV, Bool.not_true, Bool.not_false, lookR, valOf, asGrow, jump, findA, restA, and, Nat.reduceAdd, Nat.reduceSub, Nat.reduceMul, Int.reduceToNat, eval, nf, nfO, opN, appTo, rowsV, getL, setL, getO, setO, snocO, lenO, putL, ev, evs, ifEq, killV, killL, kill1, kill1L, kill, kills, killO, killOs, bin, binI, binS, binB, eq1, eqB, lit, sameK, kn, unI, mxA, mnA, mkAgg, fits, partN, partA, resN, retV, allVal, isVal, allCell, isCell, okVal, okCell, cellsOf, fillN, rowsN, cellsN, bnd, lohi, offAt, overL, segL, leave, NodeOK, List.cons_append, List.nil_append, List.append_nil, catA, anys, lenA])
  refine aw_loopU (α := Nat) (fun k => k ≤ S ∧ ∀ i, i < k → endsI (l.drop (64 * i)) = (n, n)) (fun k => [(19, .int .i64 (k : Nat)), (8, .own 0)]) (fun k => [(0, .grow 5 1 (u8s (allK l k)))]) (fun k => S - k) (0) (⟨Nat.zero_le _, fun i h => by omega⟩) ?_ fun k hk => ?_
  · (simp only [wrC, wrOs, keepT, memN, setsL, setsO, setL, setO, snocO, List.cons_append, List.nil_append, List.append_nil, Nat.reduceAdd, Nat.zero_add, Wk, mtc, mtcS, mtcSL, mtc0, mtc0L, mtcL, mtcO, mtcOs, cutM, takeE, stA, rl, renV, renL, ren1, ren1L, ren, rens, renO, Nat.blt, lenO, getO, setO, setL, anys, allK, u8s]; simp [allK, u8s])
  obtain ⟨hk0, hk1⟩ := hk
  (simp only [wrC, wrOs, keepT, memN, setsL, setsO, setL, setO, snocO, List.cons_append, List.nil_append, List.append_nil, Nat.reduceAdd, Nat.zero_add, u8s_len]; (refine eval_sound 2000 _ _ _ ?_; simp (maxSteps := 1000000) only [ptrL, lenV, Bool.not_true, Bool.not_false, lookR, valOf, asGrow, jump, findA, restA, and, Nat.reduceAdd, Nat.reduceSub, Nat.reduceMul, Int.reduceToNat, eval, nf, nfO, opN, appTo, rowsV, getL, setL, getO, setO, snocO, lenO, putL, ev, evs, ifEq, killV, killL, kill1, kill1L, kill, kills, killO, killOs, bin, binI, binS, binB, eq1, eqB, lit, sameK, kn, unI, mxA, mnA, mkAgg, fits, partN, partA, resN, retV, allVal, isVal, allCell, isCell, okVal, okCell, cellsOf, fillN, rowsN, cellsN, bnd, lohi, offAt, overL, segL, leave, NodeOK, List.cons_append, List.nil_append, List.append_nil, catA, anys, lenA]))
  simp only [decide_eq_true_eq, decide_eq_false_iff_not]
  refine ⟨fun h2 => ?_, fun h2 => ?_⟩
  · have hk : k < S := by omega
    have hbd : ByteL (l.drop (64 * k)) := fun x hx => hb x (List.mem_of_mem_drop hx)
    have he := ends_c (l.drop (64 * k)) hbd (by rw [List.length_drop]; omega)
    have w1 : IntKind.i64.wrap ((k : Int) * 64) = ((64 * k : Nat) : Int) := by rw [wr64 (by omega) (by omega)]; omega
    have wk : IntKind.i64.wrap ((k : Int) + 1) = ((k + 1 : Nat) : Int) := by rw [wr64 (by omega) (by omega)]; rfl
    have hlen := allK_len l k (by omega)
    rw [w1]
    refine ⟨⟨by omega, by rw [u8s_len]; omega, by omega⟩, ?_⟩
    simp only [Int.toNat_natCast, u8s_len, cutS]
    by_cases hX : endsI (l.drop (64 * k)) = (n, n)
    · rw [hX] at he
      simp only [] at he
      ((repeat (with_reducible refine And.intro ?_ ?_; focus (simp; done))); refine aw_call (he) [] rfl (by simp [upM, nthN, matchO, rens, ren, ren1, ren1L, renL, renV, renO, rl, lenO, getO, Nat.blt, mtc, mtcS, mtcSL, mtc0, mtc0L, u8s_len]) rfl (by simp [upM, nthN, matchO, rens, ren, ren1, ren1L, renL, renV, renO, rl, lenO, getO, Nat.blt, mtc, mtcS, mtcSL, mtc0, mtc0L, u8s_len]) rfl (fun r hs hp hl => ?_); obtain ⟨rfl, rfl⟩ := hp; simp only [snocO, upM, nthN, putAll, snocAll, killsA, killOsA, grows, putL, rl, renV, renL, ren1, ren1L, ren, rens, renO, Nat.blt, lenO, getO, setO, setL, anys, u8s_len]; (refine eval_sound 2000 _ _ _ ?_; simp (maxSteps := 1000000) only [ptrL, lenV, Bool.not_true, Bool.not_false, lookR, valOf, asGrow, jump, findA, restA, and, Nat.reduceAdd, Nat.reduceSub, Nat.reduceMul, Int.reduceToNat, eval, nf, nfO, opN, appTo, rowsV, getL, setL, getO, setO, snocO, lenO, putL, ev, evs, ifEq, killV, killL, kill1, kill1L, kill, kills, killO, killOs, bin, binI, binS, binB, eq1, eqB, lit, sameK, kn, unI, mxA, mnA, mkAgg, fits, partN, partA, resN, retV, allVal, isVal, allCell, isCell, okVal, okCell, cellsOf, fillN, rowsN, cellsN, bnd, lohi, offAt, overL, segL, leave, NodeOK, List.cons_append, List.nil_append, List.append_nil, catA, anys, lenA]))
      (repeat (with_reducible refine And.intro ?_ ?_; focus (simp; done)))
      refine fun _ => ⟨fun h => by simp at h, fun _ => ?_⟩
      have hlt : (List.take 48 (List.drop 8 (u8s (List.drop (64 * k) l)))).length ≤ 48 := by rw [List.length_take]; exact Nat.min_le_left _ _
      have hx : u8s (allK l k) ++ List.take 48 (List.drop 8 (u8s (List.drop (64 * k) l))) = u8s (allK l (k + 1)) := by
        rw [u8s_drop, u8s_take, u8s_app, List.drop_drop]
        rfl
      rw [wk, hx]
      refine ⟨⟨by omega, by omega, by rw [u8s_len, List.length_drop]; omega⟩, by rw [u8s_len, hlen]; omega, k + 1, ⟨by omega, fun i hi => ?_⟩, by omega, ?_⟩
      · by_cases e : i = k
        · rw [e]; exact hX
        · exact hk1 i (by omega)
      · (simp only [wrC, wrOs, keepT, memN, setsL, setsO, setL, setO, snocO, List.cons_append, List.nil_append, List.append_nil, Nat.reduceAdd, Nat.zero_add, Wk, mtc, mtcS, mtcSL, mtc0, mtc0L, mtcL, mtcO, mtcOs, cutM, takeE, stA, rl, renV, renL, ren1, ren1L, ren, rens, renO, Nat.blt, lenO, getO, setO, setL, anys, u8s_len]; simp [u8s_len])
    · have e : piecesI l n S = ([], 13) := by unfold piecesI; rw [if_neg (by omega), if_neg (fun h => hX (h k hk))]
      rw [e]
      generalize endsI (l.drop (64 * k)) = X at *
      obtain ⟨x, y⟩ := X
      simp only [] at he
      ((repeat (with_reducible refine And.intro ?_ ?_; focus (simp; done))); refine aw_call (he) [] rfl (by simp [upM, nthN, matchO, rens, ren, ren1, ren1L, renL, renV, renO, rl, lenO, getO, Nat.blt, mtc, mtcS, mtcSL, mtc0, mtc0L, u8s_len]) rfl (by simp [upM, nthN, matchO, rens, ren, ren1, ren1L, renL, renV, renO, rl, lenO, getO, Nat.blt, mtc, mtcS, mtcSL, mtc0, mtc0L, u8s_len]) rfl (fun r hs hp hl => ?_); obtain ⟨rfl, rfl⟩ := hp; simp only [snocO, upM, nthN, putAll, snocAll, killsA, killOsA, grows, putL, rl, renV, renL, ren1, ren1L, ren, rens, renO, Nat.blt, lenO, getO, setO, setL, anys, u8s_len]; (refine eval_sound 2000 _ _ _ ?_; simp (maxSteps := 1000000) only [ptrL, lenV, Bool.not_true, Bool.not_false, lookR, valOf, asGrow, jump, findA, restA, and, Nat.reduceAdd, Nat.reduceSub, Nat.reduceMul, Int.reduceToNat, eval, nf, nfO, opN, appTo, rowsV, getL, setL, getO, setO, snocO, lenO, putL, ev, evs, ifEq, killV, killL, kill1, kill1L, kill, kills, killO, killOs, bin, binI, binS, binB, eq1, eqB, lit, sameK, kn, unI, mxA, mnA, mkAgg, fits, partN, partA, resN, retV, allVal, isVal, allCell, isCell, okVal, okCell, cellsOf, fillN, rowsN, cellsN, bnd, lohi, offAt, overL, segL, leave, NodeOK, List.cons_append, List.nil_append, List.append_nil, catA, anys, lenA]))
      (repeat (with_reducible refine And.intro ?_ ?_; focus (simp; done)))
      refine ⟨fun _ => ?_, fun h3 => ⟨fun _ => ?_, fun h4 => ?_⟩⟩
      · refine ⟨[], rfl, _, _, ?_, ?_, .inl ⟨rfl, rfl, trivial⟩⟩ <;> simp [Wk, mtc, mtcS, mtcSL, mtc0, mtc0L, mtcL, mtcO, mtcOs, cutM, takeE, stA, rl, renV, renL, ren1, ren1L, ren, rens, renO, Nat.blt, lenO, getO, setO, setL, anys, okS, endM, endH, idxN, takeE, pickE, catO, rl, renV, renL, ren1, ren1L, ren, rens, renO, Nat.blt, lenO, getO, setO, setL, anys]
      · refine ⟨[], rfl, _, _, ?_, ?_, .inl ⟨rfl, rfl, trivial⟩⟩ <;> simp [Wk, mtc, mtcS, mtcSL, mtc0, mtc0L, mtcL, mtcO, mtcOs, cutM, takeE, stA, rl, renV, renL, ren1, ren1L, ren, rens, renO, Nat.blt, lenO, getO, setO, setL, anys, okS, endM, endH, idxN, takeE, pickE, catO, rl, renV, renL, ren1, ren1L, ren, rens, renO, Nat.blt, lenO, getO, setO, setL, anys]
      · exfalso
        simp at h3 h4
        have e1 : x = n := by omega
        have e2 : y = n := by omega
        exact hX (by rw [e1, e2])
  · have : k = S := by omega
    subst this
    have e : piecesI l n k = (allK l k, 0) := by unfold piecesI; rw [if_neg (by omega), if_pos hk1]
    rw [e]
    refine ⟨[0], rfl, _, _, ?_, ?_, .inr ⟨rfl, rfl⟩⟩ <;> simp [Wk, mtc, mtcS, mtcSL, mtc0, mtc0L, mtcL, mtcO, mtcOs, cutM, takeE, stA, rl, renV, renL, ren1, ren1L, ren, rens, renO, Nat.blt, lenO, getO, setO, setL, anys, okS, endM, endH, idxN, takeE, pickE, catO, rl, renV, renL, ren1, ren1L, ren, rens, renO, Nat.blt, lenO, getO, setO, setL, anys]
theorem pieces_c (l : List Int) (hb : ByteL l) (hL : l.length ≤ 100000) (n S : Nat) (hS : S ≤ 2000) : ACalls Try.prog 54 [.ro 1 (u8s l), .int .u64 n, .int .i64 S] [] (fun r hs => r = .tup [.ro 1 (u8s (piecesI l n S).1), .int .i64 (piecesI l n S).2] ∧ hs = []) := by
  refine acalls_tr (pieces0 l hb hL n S hS) fun r hs h => ?_
  rcases h with ⟨rfl, rfl, h3⟩ | ⟨rfl, rfl⟩
  · rw [h3]
    exact ⟨_, _, _, _, _, trans_id, by simp [Wk, mtc, mtcS, mtcSL, mtc0, mtc0L, mtcL, mtcO, mtcOs, cutM, takeE, stA, rl, renV, renL, ren1, ren1L, ren, rens, renO, Nat.blt, lenO, getO, setO, setL, anys, u8s], rfl, rfl⟩
  · exact ⟨_, _, _, _, _, trans_frz 0 _ _ _ rfl, by simp [snocO, mapA, frz, frz1, frzV, mapO, frzO, ifEq, setO, getO, getL, setL, Wk, mtc, mtcS, mtcSL, mtc0, mtc0L, mtcL, mtcO, mtcOs, cutM, takeE, stA, rl, renV, renL, ren1, ren1L, ren, rens, renO, Nat.blt, lenO, getO, setO, setL, anys, frz, frz1, frzV, frzO], rfl, rfl⟩
def readI (l : List Int) : Nat × List Int × Int :=
  if (firstI l).2.2 ≠ 0 then (0, [], (firstI l).2.2) else
  if (piecesI l (firstI l).1 (((firstI l).2.1 + 55) / 48)).2 ≠ 0 then (0, [], (piecesI l (firstI l).1 (((firstI l).2.1 + 55) / 48)).2) else
  if sealed ((allK l (((firstI l).2.1 + 55) / 48)).take ((firstI l).2.1 + 8)) = false then (0, [], 12) else
  if ∀ x ∈ (allK l (((firstI l).2.1 + 55) / 48)).drop ((firstI l).2.1 + 8), x = 0 then ((firstI l).1, (topI ((allK l (((firstI l).2.1 + 55) / 48)).take ((firstI l).2.1 + 8))).drop 4, 0) else (0, [], 10)
theorem firstI_le (l : List Int) : (firstI l).2.1 ≤ 65536 := by
  unfold firstI
  split
  · simp
  · split
    · simp
    · split
      · simp
      · split
        · simp
        · simp only []; omega
theorem pieces_ok {l : List Int} {n S : Nat} (h : (piecesI l n S).2 = 0) : S * 64 ≤ l.length ∧ (∀ i, i < S → endsI (l.drop (64 * i)) = (n, n)) ∧ (piecesI l n S).1 = allK l S := by
  unfold piecesI at h ⊢
  split at h
  · simp at h
  · rename_i h1
    split at h
    · rename_i h2
      exact ⟨by omega, h2, by rw [if_neg h1, if_pos h2]⟩
    · simp at h
theorem pieces_why {l : List Int} {n S : Nat} (h : (piecesI l n S).2 ≠ 0) : (piecesI l n S).2 = 10 ∨ (piecesI l n S).2 = 13 := by
  unfold piecesI at h ⊢
  split
  · exact .inl rfl
  · rename_i h1
    rw [if_neg h1] at h
    split at h
    · simp at h
    · rename_i h2
      rw [if_neg h2]
      exact .inr rfl
theorem read0 (l : List Int) (hb : ByteL l) (hL : l.length ≤ 10000) : ACalls Try.prog 28 [.ro 1 (u8s l)] [] (fun r hs => (r = .tup [.int .u64 ((readI l).1 : Nat), .nils, .int .i64 (readI l).2.2] ∧ hs = [] ∧ (readI l).2.1 = []) ∨ (r = .tup [.int .u64 ((readI l).1 : Nat), .own 0, .int .i64 (readI l).2.2] ∧ hs = [.grow 5 1 (u8s (readI l).2.1)])) := by
  have hf := first_c l hb (by omega)
  have hle := firstI_le l
  have hR : readI l = if (firstI l).2.2 ≠ 0 then (0, [], (firstI l).2.2) else
    if (piecesI l (firstI l).1 (((firstI l).2.1 + 55) / 48)).2 ≠ 0 then (0, [], (piecesI l (firstI l).1 (((firstI l).2.1 + 55) / 48)).2) else
    if sealed ((allK l (((firstI l).2.1 + 55) / 48)).take ((firstI l).2.1 + 8)) = false then (0, [], 12) else
    if ∀ x ∈ (allK l (((firstI l).2.1 + 55) / 48)).drop ((firstI l).2.1 + 8), x = 0 then ((firstI l).1, (topI ((allK l (((firstI l).2.1 + 55) / 48)).take ((firstI l).2.1 + 8))).drop 4, 0) else (0, [], 10) := rfl
  generalize readI l = R at *
  generalize firstI l = F at *
  obtain ⟨n, z, e⟩ := F
  simp only [] at hf hle hR
  refine acalls_weak (acalls_of (fn := Try.f28) (A := a28) Try.func28 ok_28 en_28 ?_)
  dsimp only [a28, u8s_len]
  (refine eval_sound 2000 _ _ _ ?_; simp (maxSteps := 1000000) only [ptrL, lenV, Bool.not_true, Bool.not_false, lookR, valOf, asGrow, jump, findA, restA, and, Nat.reduceAdd, Nat.reduceSub, Nat.reduceMul, Int.reduceToNat, eval, nf, nfO, opN, appTo, rowsV, getL, setL, getO, setO, snocO, lenO, putL, ev, evs, ifEq, killV, killL, kill1, kill1L, kill, kills, killO, killOs, bin, binI, binS, binB, eq1, eqB, lit, sameK, kn, unI, mxA, mnA, mkAgg, fits, partN, partA, resN, retV, allVal, isVal, allCell, isCell, okVal, okCell, cellsOf, fillN, rowsN, cellsN, bnd, lohi, offAt, overL, segL, leave, NodeOK, List.cons_append, List.nil_append, List.append_nil, catA, anys, lenA])
  ((repeat (with_reducible refine And.intro ?_ ?_; focus (simp; done))); refine aw_call (hf) [] rfl (by simp [upM, nthN, matchO, rens, ren, ren1, ren1L, renL, renV, renO, rl, lenO, getO, Nat.blt, mtc, mtcS, mtcSL, mtc0, mtc0L, u8s_len]) rfl (by simp [upM, nthN, matchO, rens, ren, ren1, ren1L, renL, renV, renO, rl, lenO, getO, Nat.blt, mtc, mtcS, mtcSL, mtc0, mtc0L, u8s_len]) rfl (fun r hs hp hl => ?_); obtain ⟨rfl, rfl⟩ := hp; simp only [snocO, upM, nthN, putAll, snocAll, killsA, killOsA, grows, putL, rl, renV, renL, ren1, ren1L, ren, rens, renO, Nat.blt, lenO, getO, setO, setL, anys, u8s_len]; (refine eval_sound 2000 _ _ _ ?_; simp (maxSteps := 1000000) only [ptrL, lenV, Bool.not_true, Bool.not_false, lookR, valOf, asGrow, jump, findA, restA, and, Nat.reduceAdd, Nat.reduceSub, Nat.reduceMul, Int.reduceToNat, eval, nf, nfO, opN, appTo, rowsV, getL, setL, getO, setO, snocO, lenO, putL, ev, evs, ifEq, killV, killL, kill1, kill1L, kill, kills, killO, killOs, bin, binI, binS, binB, eq1, eqB, lit, sameK, kn, unI, mxA, mnA, mkAgg, fits, partN, partA, resN, retV, allVal, isVal, allCell, isCell, okVal, okCell, cellsOf, fillN, rowsN, cellsN, bnd, lohi, offAt, overL, segL, leave, NodeOK, List.cons_append, List.nil_append, List.append_nil, catA, anys, lenA]))
  (repeat (with_reducible refine And.intro ?_ ?_; focus (simp; done)))
  refine ⟨fun h1 => ?_, fun h1 => ?_⟩
  · rw [hR, if_pos (by simpa using h1)]
    refine ⟨[], rfl, _, _, ?_, ?_, .inl ⟨rfl, rfl, rfl⟩⟩ <;> simp [Wk, mtc, mtcS, mtcSL, mtc0, mtc0L, mtcL, mtcO, mtcOs, cutM, takeE, stA, rl, renV, renL, ren1, ren1L, ren, rens, renO, Nat.blt, lenO, getO, setO, setL, anys, okS, endM, endH, idxN, takeE, pickE, catO, rl, renV, renL, ren1, ren1L, ren, rens, renO, Nat.blt, lenO, getO, setO, setL, anys]
  rw [if_neg (by simpa using h1)] at hR
  have hsec : secI (z : Int) = (((z + 55) / 48 : Nat) : Int) := by unfold secI; rw [if_neg (by omega)]; omega
  have hsc := sectors_c z
  rw [hsec] at hsc
  ((repeat (with_reducible refine And.intro ?_ ?_; focus (simp; done))); refine aw_call (hsc) [] rfl (by simp [upM, nthN, matchO, rens, ren, ren1, ren1L, renL, renV, renO, rl, lenO, getO, Nat.blt, mtc, mtcS, mtcSL, mtc0, mtc0L, u8s_len]) rfl (by simp [upM, nthN, matchO, rens, ren, ren1, ren1L, renL, renV, renO, rl, lenO, getO, Nat.blt, mtc, mtcS, mtcSL, mtc0, mtc0L, u8s_len]) rfl (fun r hs hp hl => ?_); obtain ⟨rfl, rfl⟩ := hp; simp only [snocO, upM, nthN, putAll, snocAll, killsA, killOsA, grows, putL, rl, renV, renL, ren1, ren1L, ren, rens, renO, Nat.blt, lenO, getO, setO, setL, anys, u8s_len]; (refine eval_sound 2000 _ _ _ ?_; simp (maxSteps := 1000000) only [ptrL, lenV, Bool.not_true, Bool.not_false, lookR, valOf, asGrow, jump, findA, restA, and, Nat.reduceAdd, Nat.reduceSub, Nat.reduceMul, Int.reduceToNat, eval, nf, nfO, opN, appTo, rowsV, getL, setL, getO, setO, snocO, lenO, putL, ev, evs, ifEq, killV, killL, kill1, kill1L, kill, kills, killO, killOs, bin, binI, binS, binB, eq1, eqB, lit, sameK, kn, unI, mxA, mnA, mkAgg, fits, partN, partA, resN, retV, allVal, isVal, allCell, isCell, okVal, okCell, cellsOf, fillN, rowsN, cellsN, bnd, lohi, offAt, overL, segL, leave, NodeOK, List.cons_append, List.nil_append, List.append_nil, catA, anys, lenA]))
  generalize hS : (z + 55) / 48 = S at *
  have hp := pieces_c l hb (by omega) n S (by omega)
  by_cases hP : (piecesI l n S).2 = 0
  · obtain ⟨p1, p2, p3⟩ := pieces_ok hP
    have p4 := allK_len l S (by omega)
    have p5 := allK_byte hb S
    rw [hP, p3] at hp
    rw [if_neg (by rw [hP]; simp)] at hR
    generalize allK l S = A at *
    ((repeat (with_reducible refine And.intro ?_ ?_; focus (simp; done))); refine aw_call (hp) [] rfl (by simp [upM, nthN, matchO, rens, ren, ren1, ren1L, renL, renV, renO, rl, lenO, getO, Nat.blt, mtc, mtcS, mtcSL, mtc0, mtc0L, u8s_len]) rfl (by simp [upM, nthN, matchO, rens, ren, ren1, ren1L, renL, renV, renO, rl, lenO, getO, Nat.blt, mtc, mtcS, mtcSL, mtc0, mtc0L, u8s_len]) rfl (fun r hs hp hl => ?_); obtain ⟨rfl, rfl⟩ := hp; simp only [snocO, upM, nthN, putAll, snocAll, killsA, killOsA, grows, putL, rl, renV, renL, ren1, ren1L, ren, rens, renO, Nat.blt, lenO, getO, setO, setL, anys, u8s_len]; (refine eval_sound 2000 _ _ _ ?_; simp (maxSteps := 1000000) only [ptrL, lenV, Bool.not_true, Bool.not_false, lookR, valOf, asGrow, jump, findA, restA, and, Nat.reduceAdd, Nat.reduceSub, Nat.reduceMul, Int.reduceToNat, eval, nf, nfO, opN, appTo, rowsV, getL, setL, getO, setO, snocO, lenO, putL, ev, evs, ifEq, killV, killL, kill1, kill1L, kill, kills, killO, killOs, bin, binI, binS, binB, eq1, eqB, lit, sameK, kn, unI, mxA, mnA, mkAgg, fits, partN, partA, resN, retV, allVal, isVal, allCell, isCell, okVal, okCell, cellsOf, fillN, rowsN, cellsN, bnd, lohi, offAt, overL, segL, leave, NodeOK, List.cons_append, List.nil_append, List.append_nil, catA, anys, lenA]))
    (repeat (with_reducible refine And.intro ?_ ?_; focus (simp; done)))
    refine fun _ => ⟨fun h => by simp at h, fun _ => ?_⟩
    rw [wr64 (n := (z : Int) + 8) (by omega) (by omega)]
    refine ⟨⟨by omega, by omega, by rw [u8s_len]; omega⟩, ?_⟩
    have hB : List.take (((z : Int) + 8).toNat - 0) (List.drop 0 (u8s A)) = u8s (A.take (z + 8)) := by
      rw [List.drop_zero, Nat.sub_zero, show ((z : Int) + 8).toNat = z + 8 by omega, u8s_take]
    rw [hB]
    have hBl : (A.take (z + 8)).length = z + 8 := by rw [List.length_take]; omega
    have hBb : ByteL (A.take (z + 8)) := fun x hx => p5 x (List.mem_of_mem_take hx)
    have hT : (topI (A.take (z + 8))).length = z + 4 := by unfold topI; rw [List.length_take, hBl]; omega
    generalize A.take (z + 8) = B at *
    cases hs : sealed B with
    | false =>
      rw [if_pos hs] at hR
      rw [hR]
      ((repeat (with_reducible refine And.intro ?_ ?_; focus (simp; done))); refine aw_call (openB_c B (by omega) hBb (by omega) hs) [] rfl (by simp [upM, nthN, matchO, rens, ren, ren1, ren1L, renL, renV, renO, rl, lenO, getO, Nat.blt, mtc, mtcS, mtcSL, mtc0, mtc0L, u8s_len]) rfl (by simp [upM, nthN, matchO, rens, ren, ren1, ren1L, renL, renV, renO, rl, lenO, getO, Nat.blt, mtc, mtcS, mtcSL, mtc0, mtc0L, u8s_len]) rfl (fun r hs hp hl => ?_); obtain ⟨rfl, rfl⟩ := hp; simp only [snocO, upM, nthN, putAll, snocAll, killsA, killOsA, grows, putL, rl, renV, renL, ren1, ren1L, ren, rens, renO, Nat.blt, lenO, getO, setO, setL, anys, u8s_len]; (refine eval_sound 2000 _ _ _ ?_; simp (maxSteps := 1000000) only [ptrL, lenV, Bool.not_true, Bool.not_false, lookR, valOf, asGrow, jump, findA, restA, and, Nat.reduceAdd, Nat.reduceSub, Nat.reduceMul, Int.reduceToNat, eval, nf, nfO, opN, appTo, rowsV, getL, setL, getO, setO, snocO, lenO, putL, ev, evs, ifEq, killV, killL, kill1, kill1L, kill, kills, killO, killOs, bin, binI, binS, binB, eq1, eqB, lit, sameK, kn, unI, mxA, mnA, mkAgg, fits, partN, partA, resN, retV, allVal, isVal, allCell, isCell, okVal, okCell, cellsOf, fillN, rowsN, cellsN, bnd, lohi, offAt, overL, segL, leave, NodeOK, List.cons_append, List.nil_append, List.append_nil, catA, anys, lenA]))
      (repeat (with_reducible refine And.intro ?_ ?_; focus (simp; done)))
      refine ⟨fun _ => ?_, fun h => by simp at h⟩
      refine ⟨[], rfl, _, _, ?_, ?_, .inl ⟨rfl, rfl, trivial⟩⟩ <;> simp [Wk, mtc, mtcS, mtcSL, mtc0, mtc0L, mtcL, mtcO, mtcOs, cutM, takeE, stA, rl, renV, renL, ren1, ren1L, ren, rens, renO, Nat.blt, lenO, getO, setO, setL, anys, okS, endM, endH, idxN, takeE, pickE, catO, rl, renV, renL, ren1, ren1L, ren, rens, renO, Nat.blt, lenO, getO, setO, setL, anys]
    | true =>
      rw [if_neg (by rw [hs]; simp)] at hR
      ((repeat (with_reducible refine And.intro ?_ ?_; focus (simp; done))); refine aw_call (openK_c B (by omega) hBb hs) [] rfl (by simp [upM, nthN, matchO, rens, ren, ren1, ren1L, renL, renV, renO, rl, lenO, getO, Nat.blt, mtc, mtcS, mtcSL, mtc0, mtc0L, u8s_len]) rfl (by simp [upM, nthN, matchO, rens, ren, ren1, ren1L, renL, renV, renO, rl, lenO, getO, Nat.blt, mtc, mtcS, mtcSL, mtc0, mtc0L, u8s_len]) rfl (fun r hs hp hl => ?_); obtain ⟨rfl, rfl⟩ := hp; simp only [snocO, upM, nthN, putAll, snocAll, killsA, killOsA, grows, putL, rl, renV, renL, ren1, ren1L, ren, rens, renO, Nat.blt, lenO, getO, setO, setL, anys, u8s_len]; (refine eval_sound 2000 _ _ _ ?_; simp (maxSteps := 1000000) only [ptrL, lenV, Bool.not_true, Bool.not_false, lookR, valOf, asGrow, jump, findA, restA, and, Nat.reduceAdd, Nat.reduceSub, Nat.reduceMul, Int.reduceToNat, eval, nf, nfO, opN, appTo, rowsV, getL, setL, getO, setO, snocO, lenO, putL, ev, evs, ifEq, killV, killL, kill1, kill1L, kill, kills, killO, killOs, bin, binI, binS, binB, eq1, eqB, lit, sameK, kn, unI, mxA, mnA, mkAgg, fits, partN, partA, resN, retV, allVal, isVal, allCell, isCell, okVal, okCell, cellsOf, fillN, rowsN, cellsN, bnd, lohi, offAt, overL, segL, leave, NodeOK, List.cons_append, List.nil_append, List.append_nil, catA, anys, lenA]))
      generalize topI B = T at *
      (repeat (with_reducible refine And.intro ?_ ?_; focus (simp; done)))
      refine fun _ => ?_
      rw [wr64 (n := (z : Int) + 8) (by omega) (by omega)]
      refine ⟨⟨by omega, by rw [u8s_len]; omega, by omega⟩, ?_⟩
      simp only [Int.toNat_natCast, u8s_len, show ((z : Int) + 8).toNat = z + 8 by omega, cutS]
      have hCl : (A.drop (z + 8)).length = A.length - (z + 8) := List.length_drop
      generalize A.drop (z + 8) = C at *
      refine aw_loopU (α := Nat) (fun k => k ≤ C.length ∧ ∀ i, i < k → C.getD i 0 = 0) (fun k => [(51, .int .i64 (k : Nat))]) (fun k => []) (fun k => C.length - k) (0) (⟨Nat.zero_le _, fun i h => by omega⟩) ?_ fun k hk => ?_
      · (simp only [wrC, wrOs, keepT, memN, setsL, setsO, setL, setO, snocO, List.cons_append, List.nil_append, List.append_nil, Nat.reduceAdd, Nat.zero_add, Wk, mtc, mtcS, mtcSL, mtc0, mtc0L, mtcL, mtcO, mtcOs, cutM, takeE, stA, rl, renV, renL, ren1, ren1L, ren, rens, renO, Nat.blt, lenO, getO, setO, setL, anys, u8s_len]; simp [u8s_len])
      obtain ⟨hk0, hk1⟩ := hk
      (simp only [wrC, wrOs, keepT, memN, setsL, setsO, setL, setO, snocO, List.cons_append, List.nil_append, List.append_nil, Nat.reduceAdd, Nat.zero_add, u8s_len]; (refine eval_sound 2000 _ _ _ ?_; simp (maxSteps := 1000000) only [ptrL, lenV, Bool.not_true, Bool.not_false, lookR, valOf, asGrow, jump, findA, restA, and, Nat.reduceAdd, Nat.reduceSub, Nat.reduceMul, Int.reduceToNat, eval, nf, nfO, opN, appTo, rowsV, getL, setL, getO, setO, snocO, lenO, putL, ev, evs, ifEq, killV, killL, kill1, kill1L, kill, kills, killO, killOs, bin, binI, binS, binB, eq1, eqB, lit, sameK, kn, unI, mxA, mnA, mkAgg, fits, partN, partA, resN, retV, allVal, isVal, allCell, isCell, okVal, okCell, cellsOf, fillN, rowsN, cellsN, bnd, lohi, offAt, overL, segL, leave, NodeOK, List.cons_append, List.nil_append, List.append_nil, catA, anys, lenA]))
      simp only [decide_eq_true_eq, decide_eq_false_iff_not]
      refine ⟨fun h2 => ?_, fun h2 => ?_⟩
      · have hk : k < C.length := by omega
        have wk : IntKind.i64.wrap ((k : Int) + 1) = ((k + 1 : Nat) : Int) := by rw [wr64 (by omega) (by omega)]; rfl
        obtain ⟨x, hx⟩ : ∃ x, C[k]? = some x := ⟨_, List.getElem?_eq_getElem hk⟩
        refine ⟨by omega, [.int .u8 x], by rw [u8s_at, Int.toNat_natCast, hx]; rfl, ?_⟩
        (refine eval_sound 2000 _ _ _ ?_; simp (maxSteps := 1000000) only [ptrL, lenV, Bool.not_true, Bool.not_false, lookR, valOf, asGrow, jump, findA, restA, and, Nat.reduceAdd, Nat.reduceSub, Nat.reduceMul, Int.reduceToNat, eval, nf, nfO, opN, appTo, rowsV, getL, setL, getO, setO, snocO, lenO, putL, ev, evs, ifEq, killV, killL, kill1, kill1L, kill, kills, killO, killOs, bin, binI, binS, binB, eq1, eqB, lit, sameK, kn, unI, mxA, mnA, mkAgg, fits, partN, partA, resN, retV, allVal, isVal, allCell, isCell, okVal, okCell, cellsOf, fillN, rowsN, cellsN, bnd, lohi, offAt, overL, segL, leave, NodeOK, List.cons_append, List.nil_append, List.append_nil, catA, anys, lenA])
        rw [wk]
        refine ⟨fun h3 => ?_, fun h3 => ?_⟩
        · rw [if_neg (fun h => by have := h x (List.mem_of_getElem? hx); simp at h3; exact h3 this)] at hR
          rw [hR]
          refine ⟨[], rfl, _, _, ?_, ?_, .inl ⟨rfl, rfl, rfl⟩⟩ <;> simp [Wk, mtc, mtcS, mtcSL, mtc0, mtc0L, mtcL, mtcO, mtcOs, cutM, takeE, stA, rl, renV, renL, ren1, ren1L, ren, rens, renO, Nat.blt, lenO, getO, setO, setL, anys, okS, endM, endH, idxN, takeE, pickE, catO, rl, renV, renL, ren1, ren1L, ren, rens, renO, Nat.blt, lenO, getO, setO, setL, anys]
        · refine ⟨k + 1, ⟨by omega, fun i hi => ?_⟩, by omega, ?_⟩
          · by_cases e : i = k
            · rw [e, List.getD_eq_getElem?_getD, hx]; simpa using h3
            · exact hk1 i (by omega)
          · (simp only [wrC, wrOs, keepT, memN, setsL, setsO, setL, setO, snocO, List.cons_append, List.nil_append, List.append_nil, Nat.reduceAdd, Nat.zero_add, Wk, mtc, mtcS, mtcSL, mtc0, mtc0L, mtcL, mtcO, mtcOs, cutM, takeE, stA, rl, renV, renL, ren1, ren1L, ren, rens, renO, Nat.blt, lenO, getO, setO, setL, anys, u8s_len]; simp [u8s_len])
      · obtain rfl : k = C.length := by omega
        rw [if_pos (fun x hx => by
          obtain ⟨q, hq, rfl⟩ := List.getElem_of_mem hx
          have := hk1 q hq
          rwa [List.getD_eq_getElem?_getD, List.getElem?_eq_getElem hq] at this)] at hR
        rw [hR]
        refine ⟨⟨by omega, by rw [u8s_len]; omega, by omega⟩, ?_⟩
        simp only [Int.toNat_natCast, u8s_len, cutS, List.nil_append]
        refine ⟨by simp [u8s_len]; omega, ?_⟩
        refine ⟨[0], rfl, _, _, ?_, ?_, .inr ⟨rfl, rfl⟩⟩ <;> simp [Wk, mtc, mtcS, mtcSL, mtc0, mtc0L, mtcL, mtcO, mtcOs, cutM, takeE, stA, rl, renV, renL, ren1, ren1L, ren, rens, renO, Nat.blt, lenO, getO, setO, setL, anys, okS, endM, endH, idxN, takeE, pickE, catO, rl, renV, renL, ren1, ren1L, ren, rens, renO, Nat.blt, lenO, getO, setO, setL, anys]
  · have hw := pieces_why hP
    rw [if_pos hP] at hR
    rw [hR]
    have p3 : (piecesI l n S).1 = [] := by
      unfold piecesI at hP ⊢
      split
      · rfl
      · rename_i h1
        rw [if_neg h1] at hP
        split at hP
        · simp at hP
        · rename_i h2
          rw [if_neg h2]
    rw [p3] at hp
    generalize (piecesI l n S).2 = er at *
    ((repeat (with_reducible refine And.intro ?_ ?_; focus (simp; done))); refine aw_call (hp) [] rfl (by simp [upM, nthN, matchO, rens, ren, ren1, ren1L, renL, renV, renO, rl, lenO, getO, Nat.blt, mtc, mtcS, mtcSL, mtc0, mtc0L, u8s_len]) rfl (by simp [upM, nthN, matchO, rens, ren, ren1, ren1L, renL, renV, renO, rl, lenO, getO, Nat.blt, mtc, mtcS, mtcSL, mtc0, mtc0L, u8s_len]) rfl (fun r hs hp hl => ?_); obtain ⟨rfl, rfl⟩ := hp; simp only [snocO, upM, nthN, putAll, snocAll, killsA, killOsA, grows, putL, rl, renV, renL, ren1, ren1L, ren, rens, renO, Nat.blt, lenO, getO, setO, setL, anys, u8s_len]; (refine eval_sound 2000 _ _ _ ?_; simp (maxSteps := 1000000) only [ptrL, lenV, Bool.not_true, Bool.not_false, lookR, valOf, asGrow, jump, findA, restA, and, Nat.reduceAdd, Nat.reduceSub, Nat.reduceMul, Int.reduceToNat, eval, nf, nfO, opN, appTo, rowsV, getL, setL, getO, setO, snocO, lenO, putL, ev, evs, ifEq, killV, killL, kill1, kill1L, kill, kills, killO, killOs, bin, binI, binS, binB, eq1, eqB, lit, sameK, kn, unI, mxA, mnA, mkAgg, fits, partN, partA, resN, retV, allVal, isVal, allCell, isCell, okVal, okCell, cellsOf, fillN, rowsN, cellsN, bnd, lohi, offAt, overL, segL, leave, NodeOK, List.cons_append, List.nil_append, List.append_nil, catA, anys, lenA]))
    (repeat (with_reducible refine And.intro ?_ ?_; focus (simp; done)))
    rcases hw with rfl | rfl
    · refine ⟨fun _ => ?_, fun h => by simp at h⟩
      refine ⟨[], rfl, _, _, ?_, ?_, .inl ⟨rfl, rfl, trivial⟩⟩ <;> simp [Wk, mtc, mtcS, mtcSL, mtc0, mtc0L, mtcL, mtcO, mtcOs, cutM, takeE, stA, rl, renV, renL, ren1, ren1L, ren, rens, renO, Nat.blt, lenO, getO, setO, setL, anys, okS, endM, endH, idxN, takeE, pickE, catO, rl, renV, renL, ren1, ren1L, ren, rens, renO, Nat.blt, lenO, getO, setO, setL, anys]
    · refine ⟨fun h => by simp at h, fun _ => ⟨fun _ => ?_, fun h => by simp at h⟩⟩
      refine ⟨[], rfl, _, _, ?_, ?_, .inl ⟨rfl, rfl, trivial⟩⟩ <;> simp [Wk, mtc, mtcS, mtcSL, mtc0, mtc0L, mtcL, mtcO, mtcOs, cutM, takeE, stA, rl, renV, renL, ren1, ren1L, ren, rens, renO, Nat.blt, lenO, getO, setO, setL, anys, okS, endM, endH, idxN, takeE, pickE, catO, rl, renV, renL, ren1, ren1L, ren, rens, renO, Nat.blt, lenO, getO, setO, setL, anys]
theorem read_c (l : List Int) (hb : ByteL l) (hL : l.length ≤ 10000) : ACalls Try.prog 28 [.ro 1 (u8s l)] [] (fun r hs => r = .tup [.int .u64 ((readI l).1 : Nat), .ro 1 (u8s (readI l).2.1), .int .i64 (readI l).2.2] ∧ hs = []) := by
  refine acalls_tr (read0 l hb hL) fun r hs h => ?_
  rcases h with ⟨rfl, rfl, h3⟩ | ⟨rfl, rfl⟩
  · rw [h3]
    exact ⟨_, _, _, _, _, trans_id, by simp [Wk, mtc, mtcS, mtcSL, mtc0, mtc0L, mtcL, mtcO, mtcOs, cutM, takeE, stA, rl, renV, renL, ren1, ren1L, ren, rens, renO, Nat.blt, lenO, getO, setO, setL, anys, u8s], rfl, rfl⟩
  · exact ⟨_, _, _, _, _, trans_frz 0 _ _ _ rfl, by simp [snocO, mapA, frz, frz1, frzV, mapO, frzO, ifEq, setO, getO, getL, setL, Wk, mtc, mtcS, mtcSL, mtc0, mtc0L, mtcL, mtcO, mtcOs, cutM, takeE, stA, rl, renV, renL, ren1, ren1L, ren, rens, renO, Nat.blt, lenO, getO, setO, setL, anys, frz, frz1, frzV, frzO], rfl, rfl⟩
end Go.Proofs.Ytjkmnmpjcdanhaa.S
