/- The document's marks. -/
import Derived.Test.YtapfediapkklnaaDoorMk2
namespace Go.Proofs.YtapfediapkklnaaDoor.S
open Go.Lib
set_option linter.all false
set_option maxRecDepth 100000
theorem rhas_c (m : Mk) (n : Nat) (h : MkOK m) (hn : n < 18446744073709551616) : ACalls Tryd.prog 17 [mkA m, .int .u64 n] [] (fun r hs => r = .bool (hasM m n) ∧ hs = []) := by
  obtain ⟨hl, hb⟩ := h
  refine acalls_weak (acalls_of (fn := Tryd.f17) (A := a17) Tryd.func17 ok_17 en_17 ?_)
  dsimp only [a17, mkA]
  (refine eval_sound 2000 _ _ _ ?_; simp only [and, Nat.reduceAdd, Nat.reduceSub, Nat.reduceMul, eval, nf, nfO, opN, appTo, rowsV, getL, setL, getO, setO, snocO, lenO, putL, ev, evs, ifEq, killV, killL, kill1, kill1L, kill, kills, killO, killOs, bin, binI, binS, binB, eq1, eqB, lit, sameK, kn, unI, mxA, mnA, mkAgg, fits, partN, partA, resN, retV, allVal, isVal, allCell, isCell, okVal, okCell, cellsOf, fillN, rowsN, cellsN, bnd, lohi, offAt, overL, segL, leave, NodeOK, List.cons_append, List.nil_append, List.append_nil, catA, anys, lenA])
  simp only [decide_eq_true_eq, decide_eq_false_iff_not]
  refine ⟨fun h1 => ?_, fun h1 => ?_⟩
  · have : hasM m n = true := by unfold hasM; simp; left; omega
    ((repeat (with_reducible refine And.intro ?_ ?_; focus (simp; done))); refine ⟨[], rfl, _, _, ?_, ?_, rfl, rfl⟩ <;> simp [Wk, mtc, mtc0, mtc0L, mtcL, mtcO, mtcOs, cutM, takeE, stA, rl, renV, renL, ren1, ren1L, ren, rens, renO, Nat.blt, lenO, getO, setO, setL, anys, okS, endM, endH, idxN, takeE, pickE, catO, rl, renV, renL, ren1, ren1L, ren, rens, renO, Nat.blt, lenO, getO, setO, setL, anys, this])
  · have e1 : IntKind.u64.wrap ((n : Int) - m.l) = ((n - m.l : Nat) : Int) := by
      rw [show (n : Int) - m.l = ((n - m.l : Nat) : Int) by omega]; exact wruN (by omega)
    have e2 : IntKind.u64.wrap (((n - m.l : Nat) : Int) - 1) = ((n - m.l - 1 : Nat) : Int) := by
      rw [show ((n - m.l : Nat) : Int) - 1 = ((n - m.l - 1 : Nat) : Int) by omega]; exact wruN (by omega)
    rw [e1, e2, shrN _ _ hb]
    have e3 : IntKind.u64.wrap ((BitVec.ofInt IntKind.u64.bits ((m.b >>> (n - m.l - 1) : Nat) : Int) &&& BitVec.ofInt IntKind.u64.bits 1).toNat : Int) = (((m.b >>> (n - m.l - 1)) &&& 1 : Nat) : Int) :=
      andN (b := 1) (shr_lt _ _ hb) (by decide)
    rw [e3]
    have e4 : ((((m.b >>> (n - m.l - 1)) &&& 1 : Nat) : Int) == 1) = m.b.testBit (n - m.l - 1) := by
      rw [← bit_and, Bool.eq_iff_iff, beq_iff_eq, beq_iff_eq]
      omega
    rw [e4]
    refine ⟨fun h2 => ⟨by omega, ?_⟩, fun h2 => ?_⟩
    · have : hasM m n = m.b.testBit (n - m.l - 1) := by
        unfold hasM
        rw [decide_eq_false (by omega), decide_eq_true (by omega)]
        simp
      ((repeat (with_reducible refine And.intro ?_ ?_; focus (simp; done))); refine ⟨[], rfl, _, _, ?_, ?_, rfl, rfl⟩ <;> simp [Wk, mtc, mtc0, mtc0L, mtcL, mtcO, mtcOs, cutM, takeE, stA, rl, renV, renL, ren1, ren1L, ren, rens, renO, Nat.blt, lenO, getO, setO, setL, anys, okS, endM, endH, idxN, takeE, pickE, catO, rl, renV, renL, ren1, ren1L, ren, rens, renO, Nat.blt, lenO, getO, setO, setL, anys, this])
    · have : hasM m n = false := by
        unfold hasM
        rw [decide_eq_false (by omega), decide_eq_false (by omega)]
        rfl
      ((repeat (with_reducible refine And.intro ?_ ?_; focus (simp; done))); refine ⟨[], rfl, _, _, ?_, ?_, rfl, rfl⟩ <;> simp [Wk, mtc, mtc0, mtc0L, mtcL, mtcO, mtcOs, cutM, takeE, stA, rl, renV, renL, ren1, ren1L, ren, rens, renO, Nat.blt, lenO, getO, setO, setL, anys, okS, endM, endH, idxN, takeE, pickE, catO, rl, renV, renL, ren1, ren1L, ren, rens, renO, Nat.blt, lenO, getO, setO, setL, anys, this])
def topN (m : Mk) : Nat → Nat
  | 0 => m.l
  | k + 1 => if hasM m (m.l + (k + 1)) = true then m.l + (k + 1) else topN m k
theorem bitLen_eq (y k : Nat) (hk : k < 64) (h1 : 2 ^ k ≤ y) (h2 : y < 2 ^ (k + 1)) : Lib.bitLen y = k + 1 := by
  have h3 : y < 2 ^ 64 := Nat.lt_of_lt_of_le h2 (Nat.pow_le_pow_right (by omega) (by omega))
  rw [Lib.bitLen_shift k y h1 h3]
  have : y / 2 ^ k = 1 := by
    rw [Nat.div_eq_iff (Nat.two_pow_pos k)]
    rw [Nat.pow_succ] at h2
    omega
  rw [this]
  rfl
theorem topN_eq (m : Mk) : ∀ k, k ≤ 64 → topN m k = m.l + Lib.bitLen (m.b % 2 ^ k)
  | 0, _ => by simp [topN, Nat.mod_one, show Lib.bitLen 0 = 0 from rfl]
  | k + 1, hk => by
    have ih := topN_eq m k (by omega)
    have hh : hasM m (m.l + (k + 1)) = m.b.testBit k := by
      unfold hasM
      rw [decide_eq_false (by omega), decide_eq_true (by omega), show m.l + (k + 1) - m.l - 1 = k by omega]
      simp
    have hm : m.b % 2 ^ (k + 1) = m.b % 2 ^ k + 2 ^ k * (m.b / 2 ^ k % 2) := Nat.mod_mul
    have hlt : m.b % 2 ^ k < 2 ^ k := Nat.mod_lt _ (Nat.two_pow_pos k)
    unfold topN
    rw [hh, Nat.testBit_eq_decide_div_mod_eq]
    by_cases hb : m.b / 2 ^ k % 2 = 1
    · rw [if_pos (by simpa using hb), hm, hb, Nat.mul_one, bitLen_eq _ k (by omega) (by omega) (by rw [Nat.pow_succ]; omega)]
    · have : m.b / 2 ^ k % 2 = 0 := by omega
      rw [if_neg (by simpa using hb), hm, this, ih]
      simp
theorem topN_top (m : Mk) (h : m.b < 18446744073709551616) : topN m 64 = topM m := by
  rw [topN_eq m 64 (Nat.le_refl _), Nat.mod_eq_of_lt h]
  rfl
theorem topN_le (m : Mk) : ∀ k, topN m k ≤ m.l + k
  | 0 => Nat.le_refl _
  | k + 1 => by
    unfold topN
    split
    · omega
    · have := topN_le m k; omega
theorem rtop_c (m : Mk) (h : MkOK m) (hl : m.l ≤ 4611686018427387840) : ACalls Tryd.prog 21 [mkA m] [] (fun r hs => r = .int .u64 (topM m) ∧ hs = []) := by
  rw [← topN_top m h.2]
  refine acalls_weak (acalls_of (fn := Tryd.f21) (A := a21) Tryd.func21 ok_21 en_21 ?_)
  dsimp only [a21, mkA]
  (refine eval_sound 2000 _ _ _ ?_; simp only [and, Nat.reduceAdd, Nat.reduceSub, Nat.reduceMul, eval, nf, nfO, opN, appTo, rowsV, getL, setL, getO, setO, snocO, lenO, putL, ev, evs, ifEq, killV, killL, kill1, kill1L, kill, kills, killO, killOs, bin, binI, binS, binB, eq1, eqB, lit, sameK, kn, unI, mxA, mnA, mkAgg, fits, partN, partA, resN, retV, allVal, isVal, allCell, isCell, okVal, okCell, cellsOf, fillN, rowsN, cellsN, bnd, lohi, offAt, overL, segL, leave, NodeOK, List.cons_append, List.nil_append, List.append_nil, catA, anys, lenA])
  refine aw_loopU (α := Nat) (fun k => k ≤ 64) (fun k => [(3, .int .u64 (topN m k : Nat)), (4, .int .u64 (k + 1 : Nat))]) (fun k => []) (fun k => 64 - k) (0) (Nat.zero_le _) ?_ fun x hx => ?_
  · (simp only [wrC, wrOs, keepT, memN, setsL, setsO, setL, setO, snocO, List.cons_append, List.nil_append, List.append_nil, Nat.reduceAdd, Nat.zero_add, Wk, mtc, mtc0, mtc0L, mtcL, mtcO, mtcOs, cutM, takeE, stA, rl, renV, renL, ren1, ren1L, ren, rens, renO, Nat.blt, lenO, getO, setO, setL, anys, mkA, topN]; simp [mkA, topN])
  (simp only [wrC, wrOs, keepT, memN, setsL, setsO, setL, setO, snocO, List.cons_append, List.nil_append, List.append_nil, Nat.reduceAdd, Nat.zero_add, mkA]; (refine eval_sound 2000 _ _ _ ?_; simp only [and, Nat.reduceAdd, Nat.reduceSub, Nat.reduceMul, eval, nf, nfO, opN, appTo, rowsV, getL, setL, getO, setO, snocO, lenO, putL, ev, evs, ifEq, killV, killL, kill1, kill1L, kill, kills, killO, killOs, bin, binI, binS, binB, eq1, eqB, lit, sameK, kn, unI, mxA, mnA, mkAgg, fits, partN, partA, resN, retV, allVal, isVal, allCell, isCell, okVal, okCell, cellsOf, fillN, rowsN, cellsN, bnd, lohi, offAt, overL, segL, leave, NodeOK, List.cons_append, List.nil_append, List.append_nil, catA, anys, lenA]))
  simp only [decide_eq_true_eq, decide_eq_false_iff_not]
  have hnat : ((x : Nat) : Int) = x := rfl
  refine ⟨fun h1 => ?_, fun h1 => ?_⟩
  · have e1 : IntKind.u64.wrap ((m.l : Int) + ((x + 1 : Nat) : Int)) = ((m.l + (x + 1) : Nat) : Int) := by
      rw [show (m.l : Int) + ((x + 1 : Nat) : Int) = ((m.l + (x + 1) : Nat) : Int) by omega]; exact wruN (by omega)
    have e2 : IntKind.u64.wrap (((x + 1 : Nat) : Int) + 1) = ((x + 1 + 1 : Nat) : Int) := by
      rw [show ((x + 1 : Nat) : Int) + 1 = ((x + 1 + 1 : Nat) : Int) by omega]; exact wruN (by omega)
    rw [e1]
    have hH := rhas_c m (m.l + (x + 1)) h (by omega)
    ((repeat (with_reducible refine And.intro ?_ ?_; focus (simp; done))); refine aw_call (hH) [] rfl (by simp [upM, nthN, matchO, rens, ren, ren1, ren1L, renL, renV, renO, rl, lenO, getO, Nat.blt, mtc, mtc0, mtc0L, mkA]) rfl (by simp [upM, nthN, matchO, rens, ren, ren1, ren1L, renL, renV, renO, rl, lenO, getO, Nat.blt, mtc, mtc0, mtc0L, mkA]) rfl (fun r hs hp hl => ?_); obtain ⟨rfl, rfl⟩ := hp; simp only [snocO, upM, nthN, putAll, snocAll, killsA, killOsA, grows, putL, rl, renV, renL, ren1, ren1L, ren, rens, renO, Nat.blt, lenO, getO, setO, setL, anys, mkA]; (refine eval_sound 2000 _ _ _ ?_; simp only [and, Nat.reduceAdd, Nat.reduceSub, Nat.reduceMul, eval, nf, nfO, opN, appTo, rowsV, getL, setL, getO, setO, snocO, lenO, putL, ev, evs, ifEq, killV, killL, kill1, kill1L, kill, kills, killO, killOs, bin, binI, binS, binB, eq1, eqB, lit, sameK, kn, unI, mxA, mnA, mkAgg, fits, partN, partA, resN, retV, allVal, isVal, allCell, isCell, okVal, okCell, cellsOf, fillN, rowsN, cellsN, bnd, lohi, offAt, overL, segL, leave, NodeOK, List.cons_append, List.nil_append, List.append_nil, catA, anys, lenA]))
    rw [e1, e2]
    refine ⟨fun h2 => ⟨x + 1, by omega, by omega, ?_⟩, fun h2 => ⟨x + 1, by omega, by omega, ?_⟩⟩
    · have : topN m (x + 1) = m.l + (x + 1) := by simp only [topN]; rw [if_pos h2]
      rw [this]
      (simp only [wrC, wrOs, keepT, memN, setsL, setsO, setL, setO, snocO, List.cons_append, List.nil_append, List.append_nil, Nat.reduceAdd, Nat.zero_add, Wk, mtc, mtc0, mtc0L, mtcL, mtcO, mtcOs, cutM, takeE, stA, rl, renV, renL, ren1, ren1L, ren, rens, renO, Nat.blt, lenO, getO, setO, setL, anys, mkA]; simp [mkA])
    · have : topN m (x + 1) = topN m x := by simp only [topN]; rw [if_neg (by simp [h2])]
      rw [this]
      (simp only [wrC, wrOs, keepT, memN, setsL, setsO, setL, setO, snocO, List.cons_append, List.nil_append, List.append_nil, Nat.reduceAdd, Nat.zero_add, Wk, mtc, mtc0, mtc0L, mtcL, mtcO, mtcOs, cutM, takeE, stA, rl, renV, renL, ren1, ren1L, ren, rens, renO, Nat.blt, lenO, getO, setO, setL, anys, mkA]; simp [mkA])
  · have : x = 64 := by omega
    subst this
    ((repeat (with_reducible refine And.intro ?_ ?_; focus (simp; done))); refine ⟨[], rfl, _, _, ?_, ?_, rfl, rfl⟩ <;> simp [Wk, mtc, mtc0, mtc0L, mtcL, mtcO, mtcOs, cutM, takeE, stA, rl, renV, renL, ren1, ren1L, ren, rens, renO, Nat.blt, lenO, getO, setO, setL, anys, okS, endM, endH, idxN, takeE, pickE, catO, rl, renV, renL, ren1, ren1L, ren, rens, renO, Nat.blt, lenO, getO, setO, setL, anys, mkA])
theorem rgood_c (m : Mk) (h : MkOK m) : ACalls Tryd.prog 16 [mkA m] [] (fun r hs => r = .bool (goodM m) ∧ hs = []) := by
  refine acalls_weak (acalls_of (fn := Tryd.f16) (A := a16) Tryd.func16 ok_16 en_16 ?_)
  dsimp only [a16, mkA]
  (refine eval_sound 2000 _ _ _ ?_; simp only [and, Nat.reduceAdd, Nat.reduceSub, Nat.reduceMul, eval, nf, nfO, opN, appTo, rowsV, getL, setL, getO, setO, snocO, lenO, putL, ev, evs, ifEq, killV, killL, kill1, kill1L, kill, kills, killO, killOs, bin, binI, binS, binB, eq1, eqB, lit, sameK, kn, unI, mxA, mnA, mkAgg, fits, partN, partA, resN, retV, allVal, isVal, allCell, isCell, okVal, okCell, cellsOf, fillN, rowsN, cellsN, bnd, lohi, offAt, overL, segL, leave, NodeOK, List.cons_append, List.nil_append, List.append_nil, catA, anys, lenA])
  have e1 : ((m.b : Int).tmod 2 == 0) = !m.b.testBit 0 := by
    rw [Int.tmod_eq_emod_of_nonneg (by omega), Nat.testBit_zero, Bool.eq_iff_iff]
    simp
    omega
  rw [e1]
  refine ⟨fun h1 => ⟨by decide, fun h2 => ?_, fun h2 => ?_⟩, fun h1 => ?_⟩
  · have h1 : m.l ≤ 4611686018427387840 := by simp at h1; omega
    have hT := rtop_c m h h1
    ((repeat (with_reducible refine And.intro ?_ ?_; focus (simp; done))); refine aw_call (hT) [] rfl (by simp [upM, nthN, matchO, rens, ren, ren1, ren1L, renL, renV, renO, rl, lenO, getO, Nat.blt, mtc, mtc0, mtc0L, mkA]) rfl (by simp [upM, nthN, matchO, rens, ren, ren1, ren1L, renL, renV, renO, rl, lenO, getO, Nat.blt, mtc, mtc0, mtc0L, mkA]) rfl (fun r hs hp hl => ?_); obtain ⟨rfl, rfl⟩ := hp; simp only [snocO, upM, nthN, putAll, snocAll, killsA, killOsA, grows, putL, rl, renV, renL, ren1, ren1L, ren, rens, renO, Nat.blt, lenO, getO, setO, setL, anys, mkA]; (refine eval_sound 2000 _ _ _ ?_; simp only [and, Nat.reduceAdd, Nat.reduceSub, Nat.reduceMul, eval, nf, nfO, opN, appTo, rowsV, getL, setL, getO, setO, snocO, lenO, putL, ev, evs, ifEq, killV, killL, kill1, kill1L, kill, kills, killO, killOs, bin, binI, binS, binB, eq1, eqB, lit, sameK, kn, unI, mxA, mnA, mkAgg, fits, partN, partA, resN, retV, allVal, isVal, allCell, isCell, okVal, okCell, cellsOf, fillN, rowsN, cellsN, bnd, lohi, offAt, overL, segL, leave, NodeOK, List.cons_append, List.nil_append, List.append_nil, catA, anys, lenA]))
    have e2 : goodM m = decide (((topM m : Nat) : Int) ≤ 4611686018427387840) := by
      unfold goodM
      rw [h2, decide_eq_true h1]
      simp only [Bool.true_and]
      exact decide_eq_decide.2 (by omega)
    ((repeat (with_reducible refine And.intro ?_ ?_; focus (simp; done))); refine ⟨[], rfl, _, _, ?_, ?_, rfl, rfl⟩ <;> simp [Wk, mtc, mtc0, mtc0L, mtcL, mtcO, mtcOs, cutM, takeE, stA, rl, renV, renL, ren1, ren1L, ren, rens, renO, Nat.blt, lenO, getO, setO, setL, anys, okS, endM, endH, idxN, takeE, pickE, catO, rl, renV, renL, ren1, ren1L, ren, rens, renO, Nat.blt, lenO, getO, setO, setL, anys, e2])
  · have : goodM m = false := by unfold goodM; rw [h2]; simp
    ((repeat (with_reducible refine And.intro ?_ ?_; focus (simp; done))); refine ⟨[], rfl, _, _, ?_, ?_, rfl, rfl⟩ <;> simp [Wk, mtc, mtc0, mtc0L, mtcL, mtcO, mtcOs, cutM, takeE, stA, rl, renV, renL, ren1, ren1L, ren, rens, renO, Nat.blt, lenO, getO, setO, setL, anys, okS, endM, endH, idxN, takeE, pickE, catO, rl, renV, renL, ren1, ren1L, ren, rens, renO, Nat.blt, lenO, getO, setO, setL, anys, this])
  · have : goodM m = false := by unfold goodM; simp at h1 ⊢; intro h3; omega
    ((repeat (with_reducible refine And.intro ?_ ?_; focus (simp; done))); refine ⟨[], rfl, _, _, ?_, ?_, rfl, rfl⟩ <;> simp [Wk, mtc, mtc0, mtc0L, mtcL, mtcO, mtcOs, cutM, takeE, stA, rl, renV, renL, ren1, ren1L, ren, rens, renO, Nat.blt, lenO, getO, setO, setL, anys, okS, endM, endH, idxN, takeE, pickE, catO, rl, renV, renL, ren1, ren1L, ren, rens, renO, Nat.blt, lenO, getO, setO, setL, anys, this])
end Go.Proofs.YtapfediapkklnaaDoor.S
