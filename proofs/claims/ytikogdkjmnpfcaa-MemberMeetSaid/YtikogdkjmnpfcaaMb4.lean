/- MemberTells and MemberMeet return true. -/
import Derived.Test.YtikogdkjmnpfcaaMb3
namespace Go.Proofs.Ytikogdkjmnpfcaa.S
set_option linter.all false
set_option maxRecDepth 100000
def turnB (old : Nat) (node : Int) : Bool := decide (0 ≤ node ∧ node < 7) && (fineB old && fineB (old ^^^ 2 ^ node.toNat))
def turnS (old : Nat) (node : Int) : Nat := if turnB old node = true then old ^^^ 2 ^ node.toNat else 0
def turnV (old : Nat) (node : Int) : AV := .tup [.int .u64 (turnS old node : Nat), .bool (turnB old node)]
theorem turn_all : ∀ o : Fin 128, ∀ n : Fin 7, cnt 64 (o.val ^^^ (o.val ^^^ 2 ^ n.val)) = 1 ∧ o.val ^^^ 2 ^ n.val ≤ 127 ∧ (if o.val / 2 ^ n.val % 2 = 1 then o.val - 2 ^ n.val else o.val + 2 ^ n.val) = o.val ^^^ 2 ^ n.val ∧ o.val ^^^ 2 ^ n.val ≠ o.val := by decide +kernel
theorem turn_c (old : Nat) (node : Int) (ho : old < 18446744073709551616) : ACalls Try.prog 15 [.int .u64 (old : Int), .int .i64 node] [] (fun r hs => r = turnV old node ∧ hs = []) := by
  have hW := with_c node
  have hw64 : withV node < 18446744073709551616 := by
    unfold withV; split
    · exact Nat.pow_lt_pow_right (a := 2) (n := 64) (by omega) (by omega)
    · omega
  have hx : old ^^^ withV node < 18446744073709551616 := show old ^^^ withV node < 2 ^ 64 from Nat.xor_lt_two_pow ho hw64
  have hF := fine_c old
  have hM := may_c old (old ^^^ withV node) ho hx
  have no : turnB old node = false → turnV old node = .tup [.int .u64 0, .bool false] := fun h => by unfold turnV turnS; rw [h]; rfl
  refine acalls_weak (acalls_of (fn := Try.f15) (A := a15) Try.func15 ok_15 en_15 ?_)
  dsimp only [a15, u8s]
  (refine eval_sound 2000 _ _ _ ?_; simp only [and, Nat.reduceAdd, Nat.reduceSub, Nat.reduceMul, eval, nf, nfO, opN, appTo, rowsV, getL, setL, getO, setO, snocO, lenO, putL, ev, evs, ifEq, killV, killL, kill1, kill1L, kill, kills, killO, killOs, bin, binI, binS, binB, eq1, eqB, lit, sameK, kn, unI, mxA, mnA, mkAgg, fits, partN, partA, resN, retV, allVal, isVal, allCell, isCell, okVal, okCell, cellsOf, fillN, rowsN, cellsN, bnd, lohi, offAt, overL, segL, leave, NodeOK, List.cons_append, List.nil_append, List.append_nil, catA, anys, lenA])
  (refine acall_trans (trans_frz 0 _ _ _ rfl) ?_; simp only [snocO, mapA, frz, frz1, frzV, mapO, frzO, ifEq, setO, getO, getL, setL])
  ((repeat (with_reducible refine And.intro ?_ ?_; focus (simp; done))); refine aw_call (hW) [] rfl (by simp [upM, nthN, matchO, rens, ren, ren1, ren1L, renL, renV, renO, rl, lenO, getO, Nat.blt, mtc, mtc0, mtc0L]) rfl (by simp [upM, nthN, matchO, rens, ren, ren1, ren1L, renL, renV, renO, rl, lenO, getO, Nat.blt, mtc, mtc0, mtc0L]) rfl (fun r hs hp hl => ?_); obtain ⟨rfl, rfl⟩ := hp; simp only [snocO, upM, nthN, putAll, snocAll, killsA, killOsA, grows, putL, rl, renV, renL, ren1, ren1L, ren, rens, renO, Nat.blt, lenO, getO, setO, setL, anys]; (refine eval_sound 2000 _ _ _ ?_; simp only [and, Nat.reduceAdd, Nat.reduceSub, Nat.reduceMul, eval, nf, nfO, opN, appTo, rowsV, getL, setL, getO, setO, snocO, lenO, putL, ev, evs, ifEq, killV, killL, kill1, kill1L, kill, kills, killO, killOs, bin, binI, binS, binB, eq1, eqB, lit, sameK, kn, unI, mxA, mnA, mkAgg, fits, partN, partA, resN, retV, allVal, isVal, allCell, isCell, okVal, okCell, cellsOf, fillN, rowsN, cellsN, bnd, lohi, offAt, overL, segL, leave, NodeOK, List.cons_append, List.nil_append, List.append_nil, catA, anys, lenA]))
  rw [xorN ho hw64]
  simp only [decide_eq_true_eq, decide_eq_false_iff_not]
  refine ⟨fun h1 => ?_, fun h1 => ⟨fun h2 => ?_, fun h2 => ?_⟩⟩
  · rw [no (by unfold turnB; rw [decide_eq_false (by omega)]; rfl)]
    ((repeat (with_reducible refine And.intro ?_ ?_; focus (simp; done))); refine ⟨[], rfl, _, _, ?_, ?_, rfl, rfl⟩ <;> simp [Wk, mtc, mtc0, mtc0L, mtcL, mtcO, mtcOs, cutM, takeE, stA, rl, renV, renL, ren1, ren1L, ren, rens, renO, Nat.blt, lenO, getO, setO, setL, anys, okS, endM, endH, idxN, takeE, pickE, catO, rl, renV, renL, ren1, ren1L, ren, rens, renO, Nat.blt, lenO, getO, setO, setL, anys, u8s])
  · rw [no (by unfold turnB; rw [decide_eq_false (by omega)]; rfl)]
    ((repeat (with_reducible refine And.intro ?_ ?_; focus (simp; done))); refine ⟨[], rfl, _, _, ?_, ?_, rfl, rfl⟩ <;> simp [Wk, mtc, mtc0, mtc0L, mtcL, mtcO, mtcOs, cutM, takeE, stA, rl, renV, renL, ren1, ren1L, ren, rens, renO, Nat.blt, lenO, getO, setO, setL, anys, okS, endM, endH, idxN, takeE, pickE, catO, rl, renV, renL, ren1, ren1L, ren, rens, renO, Nat.blt, lenO, getO, setO, setL, anys, u8s])
  have hn : 0 ≤ node ∧ node < 7 := by omega
  have hw : withV node = 2 ^ node.toNat := if_pos ⟨by omega, by omega⟩
  rw [hw] at hM ⊢
  ((repeat (with_reducible refine And.intro ?_ ?_; focus (simp; done))); refine aw_call (hF) [] rfl (by simp [upM, nthN, matchO, rens, ren, ren1, ren1L, renL, renV, renO, rl, lenO, getO, Nat.blt, mtc, mtc0, mtc0L]) rfl (by simp [upM, nthN, matchO, rens, ren, ren1, ren1L, renL, renV, renO, rl, lenO, getO, Nat.blt, mtc, mtc0, mtc0L]) rfl (fun r hs hp hl => ?_); obtain ⟨rfl, rfl⟩ := hp; simp only [snocO, upM, nthN, putAll, snocAll, killsA, killOsA, grows, putL, rl, renV, renL, ren1, ren1L, ren, rens, renO, Nat.blt, lenO, getO, setO, setL, anys]; (refine eval_sound 2000 _ _ _ ?_; simp only [and, Nat.reduceAdd, Nat.reduceSub, Nat.reduceMul, eval, nf, nfO, opN, appTo, rowsV, getL, setL, getO, setO, snocO, lenO, putL, ev, evs, ifEq, killV, killL, kill1, kill1L, kill, kills, killO, killOs, bin, binI, binS, binB, eq1, eqB, lit, sameK, kn, unI, mxA, mnA, mkAgg, fits, partN, partA, resN, retV, allVal, isVal, allCell, isCell, okVal, okCell, cellsOf, fillN, rowsN, cellsN, bnd, lohi, offAt, overL, segL, leave, NodeOK, List.cons_append, List.nil_append, List.append_nil, catA, anys, lenA]))
  refine ⟨fun h3 => ?_, fun h3 => ?_⟩
  · have h3 : fineB old = false := by simpa using h3
    rw [no (by unfold turnB; rw [h3]; simp)]
    ((repeat (with_reducible refine And.intro ?_ ?_; focus (simp; done))); refine ⟨[], rfl, _, _, ?_, ?_, rfl, rfl⟩ <;> simp [Wk, mtc, mtc0, mtc0L, mtcL, mtcO, mtcOs, cutM, takeE, stA, rl, renV, renL, ren1, ren1L, ren, rens, renO, Nat.blt, lenO, getO, setO, setL, anys, okS, endM, endH, idxN, takeE, pickE, catO, rl, renV, renL, ren1, ren1L, ren, rens, renO, Nat.blt, lenO, getO, setO, setL, anys, u8s])
  have h3 : fineB old = true := by simpa using h3
  have h4 : 1 ≤ old ∧ old ≤ 127 := by simpa [fineB] using h3
  obtain ⟨t1, t2, t3, t4⟩ := turn_all ⟨old, by omega⟩ ⟨node.toNat, by omega⟩
  simp only at t1 t2 t3 t4
  have hm : mayB old (old ^^^ 2 ^ node.toNat) = fineB (old ^^^ 2 ^ node.toNat) := by unfold mayB; rw [t1]; simp
  have ht : turnB old node = fineB (old ^^^ 2 ^ node.toNat) := by unfold turnB; rw [decide_eq_true hn, h3]; rfl
  rw [hm] at hM
  ((repeat (with_reducible refine And.intro ?_ ?_; focus (simp; done))); refine aw_call (hM) [] rfl (by simp [upM, nthN, matchO, rens, ren, ren1, ren1L, renL, renV, renO, rl, lenO, getO, Nat.blt, mtc, mtc0, mtc0L]) rfl (by simp [upM, nthN, matchO, rens, ren, ren1, ren1L, renL, renV, renO, rl, lenO, getO, Nat.blt, mtc, mtc0, mtc0L]) rfl (fun r hs hp hl => ?_); obtain ⟨rfl, rfl⟩ := hp; simp only [snocO, upM, nthN, putAll, snocAll, killsA, killOsA, grows, putL, rl, renV, renL, ren1, ren1L, ren, rens, renO, Nat.blt, lenO, getO, setO, setL, anys]; (refine eval_sound 2000 _ _ _ ?_; simp only [and, Nat.reduceAdd, Nat.reduceSub, Nat.reduceMul, eval, nf, nfO, opN, appTo, rowsV, getL, setL, getO, setO, snocO, lenO, putL, ev, evs, ifEq, killV, killL, kill1, kill1L, kill, kills, killO, killOs, bin, binI, binS, binB, eq1, eqB, lit, sameK, kn, unI, mxA, mnA, mkAgg, fits, partN, partA, resN, retV, allVal, isVal, allCell, isCell, okVal, okCell, cellsOf, fillN, rowsN, cellsN, bnd, lohi, offAt, overL, segL, leave, NodeOK, List.cons_append, List.nil_append, List.append_nil, catA, anys, lenA]))
  refine ⟨fun h5 => ?_, fun h5 => ?_⟩
  · rw [no (by rw [ht]; simpa using h5)]
    ((repeat (with_reducible refine And.intro ?_ ?_; focus (simp; done))); refine ⟨[], rfl, _, _, ?_, ?_, rfl, rfl⟩ <;> simp [Wk, mtc, mtc0, mtc0L, mtcL, mtcO, mtcOs, cutM, takeE, stA, rl, renV, renL, ren1, ren1L, ren, rens, renO, Nat.blt, lenO, getO, setO, setL, anys, okS, endM, endH, idxN, takeE, pickE, catO, rl, renV, renL, ren1, ren1L, ren, rens, renO, Nat.blt, lenO, getO, setO, setL, anys, u8s])
  · have h5 : turnB old node = true := by rw [ht]; simpa using h5
    have : turnV old node = .tup [.int .u64 (old ^^^ 2 ^ node.toNat : Nat), .bool true] := by unfold turnV turnS; rw [if_pos h5, h5]
    rw [this]
    ((repeat (with_reducible refine And.intro ?_ ?_; focus (simp; done))); refine ⟨[], rfl, _, _, ?_, ?_, rfl, rfl⟩ <;> simp [Wk, mtc, mtc0, mtc0L, mtcL, mtcO, mtcOs, cutM, takeE, stA, rl, renV, renL, ren1, ren1L, ren, rens, renO, Nat.blt, lenO, getO, setO, setL, anys, okS, endM, endH, idxN, takeE, pickE, catO, rl, renV, renL, ren1, ren1L, ren, rens, renO, Nat.blt, lenO, getO, setO, setL, anys, u8s])
theorem rturn_c (old : Nat) (node : Int) (ho : old < 18446744073709551616) : ACalls Try.prog 16 [.int .u64 (old : Int), .int .i64 node] [] (fun r hs => r = turnV old node ∧ hs = []) := by
  have no : turnB old node = false → turnV old node = .tup [.int .u64 0, .bool false] := fun h => by unfold turnV turnS; rw [h]; rfl
  have nfx : ¬ (1 ≤ old ∧ old ≤ 127) → turnB old node = false := fun h => by
    have : fineB old = false := by simp [fineB]; omega
    unfold turnB; rw [this]; simp
  refine acalls_weak (acalls_of (fn := Try.f16) (A := a16) Try.func16 ok_16 en_16 ?_)
  dsimp only [a16, u8s]
  (refine eval_sound 2000 _ _ _ ?_; simp only [and, Nat.reduceAdd, Nat.reduceSub, Nat.reduceMul, eval, nf, nfO, opN, appTo, rowsV, getL, setL, getO, setO, snocO, lenO, putL, ev, evs, ifEq, killV, killL, kill1, kill1L, kill, kills, killO, killOs, bin, binI, binS, binB, eq1, eqB, lit, sameK, kn, unI, mxA, mnA, mkAgg, fits, partN, partA, resN, retV, allVal, isVal, allCell, isCell, okVal, okCell, cellsOf, fillN, rowsN, cellsN, bnd, lohi, offAt, overL, segL, leave, NodeOK, List.cons_append, List.nil_append, List.append_nil, catA, anys, lenA])
  simp only [decide_eq_true_eq, decide_eq_false_iff_not]
  refine ⟨fun h1 => ?_, fun h1 => ⟨fun h2 => ?_, fun h2 => ⟨fun h3 => ?_, fun h3 => ⟨fun h4 => ?_, fun h4 => ?_⟩⟩⟩⟩
  · rw [no (by unfold turnB; rw [decide_eq_false (by omega)]; rfl)]
    ((repeat (with_reducible refine And.intro ?_ ?_; focus (simp; done))); refine ⟨[], rfl, _, _, ?_, ?_, rfl, rfl⟩ <;> simp [Wk, mtc, mtc0, mtc0L, mtcL, mtcO, mtcOs, cutM, takeE, stA, rl, renV, renL, ren1, ren1L, ren, rens, renO, Nat.blt, lenO, getO, setO, setL, anys, okS, endM, endH, idxN, takeE, pickE, catO, rl, renV, renL, ren1, ren1L, ren, rens, renO, Nat.blt, lenO, getO, setO, setL, anys, u8s])
  · rw [no (by unfold turnB; rw [decide_eq_false (by omega)]; rfl)]
    ((repeat (with_reducible refine And.intro ?_ ?_; focus (simp; done))); refine ⟨[], rfl, _, _, ?_, ?_, rfl, rfl⟩ <;> simp [Wk, mtc, mtc0, mtc0L, mtcL, mtcO, mtcOs, cutM, takeE, stA, rl, renV, renL, ren1, ren1L, ren, rens, renO, Nat.blt, lenO, getO, setO, setL, anys, okS, endM, endH, idxN, takeE, pickE, catO, rl, renV, renL, ren1, ren1L, ren, rens, renO, Nat.blt, lenO, getO, setO, setL, anys, u8s])
  · rw [no (nfx (by omega))]
    ((repeat (with_reducible refine And.intro ?_ ?_; focus (simp; done))); refine ⟨[], rfl, _, _, ?_, ?_, rfl, rfl⟩ <;> simp [Wk, mtc, mtc0, mtc0L, mtcL, mtcO, mtcOs, cutM, takeE, stA, rl, renV, renL, ren1, ren1L, ren, rens, renO, Nat.blt, lenO, getO, setO, setL, anys, okS, endM, endH, idxN, takeE, pickE, catO, rl, renV, renL, ren1, ren1L, ren, rens, renO, Nat.blt, lenO, getO, setO, setL, anys, u8s])
  · rw [no (nfx (by omega))]
    ((repeat (with_reducible refine And.intro ?_ ?_; focus (simp; done))); refine ⟨[], rfl, _, _, ?_, ?_, rfl, rfl⟩ <;> simp [Wk, mtc, mtc0, mtc0L, mtcL, mtcO, mtcOs, cutM, takeE, stA, rl, renV, renL, ren1, ren1L, ren, rens, renO, Nat.blt, lenO, getO, setO, setL, anys, okS, endM, endH, idxN, takeE, pickE, catO, rl, renV, renL, ren1, ren1L, ren, rens, renO, Nat.blt, lenO, getO, setO, setL, anys, u8s])
  obtain ⟨t1, t2, t3, t4⟩ := turn_all ⟨old, by omega⟩ ⟨node.toNat, by omega⟩
  simp only at t1 t2 t3 t4
  have hf : fineB old = true := by simp [fineB]; omega
  have ht : turnB old node = fineB (old ^^^ 2 ^ node.toNat) := by unfold turnB; rw [decide_eq_true (by omega), hf]; rfl
  refine aw_loopU (α := Nat) (fun k => k ≤ node.toNat) (fun k => [(7, .int .i64 (k : Nat)), (6, .int .u64 (2 ^ k : Nat))]) (fun k => []) (fun k => node.toNat - k) (0) (Nat.zero_le _) ?_ fun x hx => ?_
  · (simp only [wrC, wrOs, keepT, memN, setsL, setsO, setL, setO, snocO, List.cons_append, List.nil_append, List.append_nil, Nat.reduceAdd, Nat.zero_add, Wk, mtc, mtc0, mtc0L, mtcL, mtcO, mtcOs, cutM, takeE, stA, rl, renV, renL, ren1, ren1L, ren, rens, renO, Nat.blt, lenO, getO, setO, setL, anys, u8s]; simp [u8s])
  (simp only [wrC, wrOs, keepT, memN, setsL, setsO, setL, setO, snocO, List.cons_append, List.nil_append, List.append_nil, Nat.reduceAdd, Nat.zero_add, u8s]; (refine eval_sound 2000 _ _ _ ?_; simp only [and, Nat.reduceAdd, Nat.reduceSub, Nat.reduceMul, eval, nf, nfO, opN, appTo, rowsV, getL, setL, getO, setO, snocO, lenO, putL, ev, evs, ifEq, killV, killL, kill1, kill1L, kill, kills, killO, killOs, bin, binI, binS, binB, eq1, eqB, lit, sameK, kn, unI, mxA, mnA, mkAgg, fits, partN, partA, resN, retV, allVal, isVal, allCell, isCell, okVal, okCell, cellsOf, fillN, rowsN, cellsN, bnd, lohi, offAt, overL, segL, leave, NodeOK, List.cons_append, List.nil_append, List.append_nil, catA, anys, lenA]))
  simp only [decide_eq_true_eq, decide_eq_false_iff_not]
  have hp : 2 ^ x ≤ 64 := by
    have : 2 ^ x ≤ 2 ^ 6 := Nat.pow_le_pow_right (by omega) (by omega)
    omega
  have hp1 : 1 ≤ 2 ^ x := Nat.one_le_two_pow
  refine ⟨fun g1 => ?_, fun g1 => ?_⟩
  · have e1 : IntKind.u64.wrap (2 * ((2 ^ x : Nat) : Int)) = ((2 ^ (x + 1) : Nat) : Int) := by
      rw [show (2 : Int) * ((2 ^ x : Nat) : Int) = ((2 ^ (x + 1) : Nat) : Int) by rw [Nat.pow_succ]; omega]
      exact wruN (by rw [Nat.pow_succ]; omega)
    rw [e1, wr64 (n := (x : Int) + 1) (by omega) (by omega)]
    refine ⟨x + 1, by omega, by omega, ?_⟩
    (simp only [wrC, wrOs, keepT, memN, setsL, setsO, setL, setO, snocO, List.cons_append, List.nil_append, List.append_nil, Nat.reduceAdd, Nat.zero_add, Wk, mtc, mtc0, mtc0L, mtcL, mtcO, mtcOs, cutM, takeE, stA, rl, renV, renL, ren1, ren1L, ren, rens, renO, Nat.blt, lenO, getO, setO, setL, anys, u8s]; simp [u8s])
  · have hx2 : x = node.toNat := by omega
    rw [← hx2] at t1 t2 t3 t4 ht
    have hv : turnV old node = .tup [.int .u64 (if turnB old node = true then old ^^^ 2 ^ x else 0 : Nat), .bool (turnB old node)] := by unfold turnV turnS; rw [← hx2]
    rw [hv]
    clear hv
    generalize turnB old node = TB at *
    generalize 2 ^ x = U at *
    have d1 : (old : Int).tdiv ((U : Nat) : Int) = ((old / U : Nat) : Int) := by
      rw [Int.tdiv_eq_ediv_of_nonneg (by omega)]
      exact (Int.natCast_ediv old U).symm
    have hQ : old / U ≤ 127 := by have := Nat.div_le_self old U; omega
    have hle : old / U % 2 = 1 → U ≤ old := by
      intro g2
      apply Decidable.byContradiction
      intro h
      rw [Nat.div_eq_of_lt (by omega)] at g2
      simp at g2
    rw [d1]
    clear d1
    generalize old / U = Q at *
    have d2 : IntKind.u64.wrap ((Q : Nat) : Int) = (Q : Int) := wruN (by omega)
    have d3 : ((Q : Nat) : Int).tmod 2 = ((Q % 2 : Nat) : Int) := by
      have := Int.tmod_eq_emod_of_nonneg (a := (Q : Int)) (b := 2) (by omega)
      rw [this]; omega
    have d4 : IntKind.u64.wrap ((old : Int) + ((U : Nat) : Int)) = ((old + U : Nat) : Int) := sumN (by omega)
    rw [d2, d3, d4]
    generalize old ^^^ U = V at *
    have hVB : TB = (((V : Nat) : Int) != 0) := by
      rw [ht, Bool.eq_iff_iff]
      simp [fineB]
      omega
    have hVV : (if TB = true then V else 0) = V := by
      split
      · rfl
      · rename_i h
        rw [hVB] at h
        have : V = 0 := by simpa using h
        rw [this]
    rw [hVV]
    refine ⟨by omega, by decide, fun g2 => ?_, fun g2 => ?_⟩
    · have g2 : Q % 2 = 1 := by simp at g2; omega
      rw [if_pos g2] at t3
      have := hle g2
      have d5 : IntKind.u64.wrap ((old : Int) - ((U : Nat) : Int)) = ((old - U : Nat) : Int) := by
        rw [show (old : Int) - ((U : Nat) : Int) = ((old - U : Nat) : Int) by omega]; exact wruN (by omega)
      rw [d5, t3, ← hVB]
      ((repeat (with_reducible refine And.intro ?_ ?_; focus (simp; done))); refine ⟨[], rfl, _, _, ?_, ?_, rfl, rfl⟩ <;> simp [Wk, mtc, mtc0, mtc0L, mtcL, mtcO, mtcOs, cutM, takeE, stA, rl, renV, renL, ren1, ren1L, ren, rens, renO, Nat.blt, lenO, getO, setO, setL, anys, okS, endM, endH, idxN, takeE, pickE, catO, rl, renV, renL, ren1, ren1L, ren, rens, renO, Nat.blt, lenO, getO, setO, setL, anys, u8s])
    · have g2 : ¬ Q % 2 = 1 := by simp at g2; omega
      rw [if_neg g2] at t3
      rw [t3, ← hVB]
      ((repeat (with_reducible refine And.intro ?_ ?_; focus (simp; done))); refine ⟨[], rfl, _, _, ?_, ?_, rfl, rfl⟩ <;> simp [Wk, mtc, mtc0, mtc0L, mtcL, mtcO, mtcOs, cutM, takeE, stA, rl, renV, renL, ren1, ren1L, ren, rens, renO, Nat.blt, lenO, getO, setO, setL, anys, okS, endM, endH, idxN, takeE, pickE, catO, rl, renV, renL, ren1, ren1L, ren, rens, renO, Nat.blt, lenO, getO, setO, setL, anys, u8s])
theorem mblives : ACalls Try.prog 19 [] [] (fun r hs => r = .bool true ∧ hs = []) := by
  have h1 := turn_c 7 3 (by omega)
  rw [show turnV 7 3 = .tup [.int .u64 (15 : Nat), .bool true] by unfold turnV turnS; rw [show turnB 7 3 = true by decide]; rfl] at h1
  have h2 := item_c 15 5
  rw [show itemV 15 5 = .tup [itA 5 2 (oneS 15), .bool true] by unfold itemV; rw [show fineB 15 = true by decide]; rfl] at h2
  have h3 := of_c 5 2 (oneS 15)
  rw [show ofW 2 (oneS 15) = .tup [.int .u64 (15 : Nat), .bool true] by unfold ofW; rw [show ofB 2 (oneS 15) = true by decide]; rfl] at h3
  refine acalls_weak (acalls_of (fn := Try.f19) (A := a19) Try.func19 ok_19 en_19 ?_)
  dsimp only [a19, u8s]
  (refine eval_sound 2000 _ _ _ ?_; simp only [and, Nat.reduceAdd, Nat.reduceSub, Nat.reduceMul, eval, nf, nfO, opN, appTo, rowsV, getL, setL, getO, setO, snocO, lenO, putL, ev, evs, ifEq, killV, killL, kill1, kill1L, kill, kills, killO, killOs, bin, binI, binS, binB, eq1, eqB, lit, sameK, kn, unI, mxA, mnA, mkAgg, fits, partN, partA, resN, retV, allVal, isVal, allCell, isCell, okVal, okCell, cellsOf, fillN, rowsN, cellsN, bnd, lohi, offAt, overL, segL, leave, NodeOK, List.cons_append, List.nil_append, List.append_nil, catA, anys, lenA])
  ((repeat (with_reducible refine And.intro ?_ ?_; focus (simp; done))); refine aw_call (h1) [] rfl (by simp [upM, nthN, matchO, rens, ren, ren1, ren1L, renL, renV, renO, rl, lenO, getO, Nat.blt, mtc, mtc0, mtc0L, u8s]) rfl (by simp [upM, nthN, matchO, rens, ren, ren1, ren1L, renL, renV, renO, rl, lenO, getO, Nat.blt, mtc, mtc0, mtc0L, u8s]) rfl (fun r hs hp hl => ?_); obtain ⟨rfl, rfl⟩ := hp; simp only [snocO, upM, nthN, putAll, snocAll, killsA, killOsA, grows, putL, rl, renV, renL, ren1, ren1L, ren, rens, renO, Nat.blt, lenO, getO, setO, setL, anys, u8s]; (refine eval_sound 2000 _ _ _ ?_; simp only [and, Nat.reduceAdd, Nat.reduceSub, Nat.reduceMul, eval, nf, nfO, opN, appTo, rowsV, getL, setL, getO, setO, snocO, lenO, putL, ev, evs, ifEq, killV, killL, kill1, kill1L, kill, kills, killO, killOs, bin, binI, binS, binB, eq1, eqB, lit, sameK, kn, unI, mxA, mnA, mkAgg, fits, partN, partA, resN, retV, allVal, isVal, allCell, isCell, okVal, okCell, cellsOf, fillN, rowsN, cellsN, bnd, lohi, offAt, overL, segL, leave, NodeOK, List.cons_append, List.nil_append, List.append_nil, catA, anys, lenA]))
  (repeat (with_reducible refine And.intro ?_ ?_; focus (simp; done)))
  ((repeat (with_reducible refine And.intro ?_ ?_; focus (simp; done))); refine aw_call (h2) [] rfl (by simp [upM, nthN, matchO, rens, ren, ren1, ren1L, renL, renV, renO, rl, lenO, getO, Nat.blt, mtc, mtc0, mtc0L, itA]) rfl (by simp [upM, nthN, matchO, rens, ren, ren1, ren1L, renL, renV, renO, rl, lenO, getO, Nat.blt, mtc, mtc0, mtc0L, itA]) rfl (fun r hs hp hl => ?_); obtain ⟨rfl, rfl⟩ := hp; simp only [snocO, upM, nthN, putAll, snocAll, killsA, killOsA, grows, putL, rl, renV, renL, ren1, ren1L, ren, rens, renO, Nat.blt, lenO, getO, setO, setL, anys, itA]; (refine eval_sound 2000 _ _ _ ?_; simp only [and, Nat.reduceAdd, Nat.reduceSub, Nat.reduceMul, eval, nf, nfO, opN, appTo, rowsV, getL, setL, getO, setO, snocO, lenO, putL, ev, evs, ifEq, killV, killL, kill1, kill1L, kill, kills, killO, killOs, bin, binI, binS, binB, eq1, eqB, lit, sameK, kn, unI, mxA, mnA, mkAgg, fits, partN, partA, resN, retV, allVal, isVal, allCell, isCell, okVal, okCell, cellsOf, fillN, rowsN, cellsN, bnd, lohi, offAt, overL, segL, leave, NodeOK, List.cons_append, List.nil_append, List.append_nil, catA, anys, lenA]))
  (repeat (with_reducible refine And.intro ?_ ?_; focus (simp; done)))
  ((repeat (with_reducible refine And.intro ?_ ?_; focus (simp; done))); refine aw_call (h3) [] rfl (by simp [upM, nthN, matchO, rens, ren, ren1, ren1L, renL, renV, renO, rl, lenO, getO, Nat.blt, mtc, mtc0, mtc0L, itA]) rfl (by simp [upM, nthN, matchO, rens, ren, ren1, ren1L, renL, renV, renO, rl, lenO, getO, Nat.blt, mtc, mtc0, mtc0L, itA]) rfl (fun r hs hp hl => ?_); obtain ⟨rfl, rfl⟩ := hp; simp only [snocO, upM, nthN, putAll, snocAll, killsA, killOsA, grows, putL, rl, renV, renL, ren1, ren1L, ren, rens, renO, Nat.blt, lenO, getO, setO, setL, anys, itA]; (refine eval_sound 2000 _ _ _ ?_; simp only [and, Nat.reduceAdd, Nat.reduceSub, Nat.reduceMul, eval, nf, nfO, opN, appTo, rowsV, getL, setL, getO, setO, snocO, lenO, putL, ev, evs, ifEq, killV, killL, kill1, kill1L, kill, kills, killO, killOs, bin, binI, binS, binB, eq1, eqB, lit, sameK, kn, unI, mxA, mnA, mkAgg, fits, partN, partA, resN, retV, allVal, isVal, allCell, isCell, okVal, okCell, cellsOf, fillN, rowsN, cellsN, bnd, lohi, offAt, overL, segL, leave, NodeOK, List.cons_append, List.nil_append, List.append_nil, catA, anys, lenA]))
  (repeat' (first | (with_reducible refine And.intro ?_ ?_) | (with_reducible intro _)))
  all_goals first
    | (simp; done)
    | (((repeat (with_reducible refine And.intro ?_ ?_; focus (simp; done))); refine ⟨[], rfl, _, _, ?_, ?_, rfl, rfl⟩ <;> simp [Wk, mtc, mtc0, mtc0L, mtcL, mtcO, mtcOs, cutM, takeE, stA, rl, renV, renL, ren1, ren1L, ren, rens, renO, Nat.blt, lenO, getO, setO, setL, anys, okS, endM, endH, idxN, takeE, pickE, catO, rl, renV, renL, ren1, ren1L, ren, rens, renO, Nat.blt, lenO, getO, setO, setL, anys, itA]); done)
    | (exfalso; simp_all; done)
end Go.Proofs.Ytikogdkjmnpfcaa.S
