/- The document's marks, made. -/
import Derived.Test.YtapfediapkklnaaDoorMk3
namespace Go.Proofs.YtapfediapkklnaaDoor.S
open Go.Lib
set_option linter.all false
set_option maxRecDepth 100000
def climb (P : Nat → Bool) : Nat → Nat → Nat
  | 0, x => x
  | f + 1, x => if P (x + 1) = true then climb P f (x + 1) else x
def bitsOf (P : Nat → Bool) (low : Nat) : Nat → Nat
  | 0 => 0
  | k + 1 => bitsOf P low k + (if P (low + 1 + k) = true then 2 ^ k else 0)
theorem bitsOf_lt (P : Nat → Bool) (low : Nat) : ∀ k, bitsOf P low k < 2 ^ k
  | 0 => by simp [bitsOf]
  | k + 1 => by
    have := bitsOf_lt P low k
    simp only [bitsOf, Nat.pow_succ]
    split <;> omega
def madeM (P : Nat → Bool) (low : Nat) : Mk := ⟨climb P (4611686018427387840 - low) low, bitsOf P (climb P (4611686018427387840 - low) low) 64⟩
def PM (a b : Mk) (n : Nat) (x : Nat) : Bool := hasM a x || (hasM b x || x == n)
theorem climb_le (P : Nat → Bool) : ∀ f x, climb P f x ≤ x + f
  | 0, x => Nat.le_refl _
  | f + 1, x => by
    unfold climb; split
    · have := climb_le P f (x + 1); omega
    · omega
theorem pow64 {k : Nat} (h : k ≤ 63) : 2 ^ k < 18446744073709551616 := Nat.pow_lt_pow_right (a := 2) (n := 64) (by omega) (by omega)
theorem rmade_c (a b : Mk) (low n : Nat) (ha : MkOK a) (hb : MkOK b) (hl : low ≤ 4611686018427387840) (hn : n < 18446744073709551616) : ACalls Tryd.prog 28 [.int .u64 low, mkA a, mkA b, .int .u64 n] [] (fun r hs => r = mkA (madeM (PM a b n) low) ∧ hs = []) := by
  refine acalls_weak (acalls_of (fn := Tryd.f28) (A := a28) Tryd.func28 ok_28 en_28 ?_)
  dsimp only [a28, mkA]
  (refine eval_sound 2000 _ _ _ ?_; simp only [and, Nat.reduceAdd, Nat.reduceSub, Nat.reduceMul, eval, nf, nfO, opN, appTo, rowsV, getL, setL, getO, setO, snocO, lenO, putL, ev, evs, ifEq, killV, killL, kill1, kill1L, kill, kills, killO, killOs, bin, binI, binS, binB, eq1, eqB, lit, sameK, kn, unI, mxA, mnA, mkAgg, fits, partN, partA, resN, retV, allVal, isVal, allCell, isCell, okVal, okCell, cellsOf, fillN, rowsN, cellsN, bnd, lohi, offAt, overL, segL, leave, NodeOK, List.cons_append, List.nil_append, List.append_nil, catA, anys, lenA])
  refine aw_loopU (α := Nat) (fun x => x ≤ 4611686018427387840 ∧ climb (PM a b n) (4611686018427387840 - x) x = climb (PM a b n) (4611686018427387840 - low) low) (fun x => [(0, .int .u64 (x : Nat))]) (fun k => []) (fun x => 4611686018427387840 - x) (low) (⟨hl, rfl⟩) ?_ fun x hx => ?_
  · (simp only [wrC, wrOs, keepT, memN, setsL, setsO, setL, setO, snocO, List.cons_append, List.nil_append, List.append_nil, Nat.reduceAdd, Nat.zero_add, Wk, mtc, mtc0, mtc0L, mtcL, mtcO, mtcOs, cutM, takeE, stA, rl, renV, renL, ren1, ren1L, ren, rens, renO, Nat.blt, lenO, getO, setO, setL, anys, mkA]; simp [mkA])
  obtain ⟨hx, hc⟩ := hx
  (simp only [wrC, wrOs, keepT, memN, setsL, setsO, setL, setO, snocO, List.cons_append, List.nil_append, List.append_nil, Nat.reduceAdd, Nat.zero_add, mkA]; (refine eval_sound 2000 _ _ _ ?_; simp only [and, Nat.reduceAdd, Nat.reduceSub, Nat.reduceMul, eval, nf, nfO, opN, appTo, rowsV, getL, setL, getO, setO, snocO, lenO, putL, ev, evs, ifEq, killV, killL, kill1, kill1L, kill, kills, killO, killOs, bin, binI, binS, binB, eq1, eqB, lit, sameK, kn, unI, mxA, mnA, mkAgg, fits, partN, partA, resN, retV, allVal, isVal, allCell, isCell, okVal, okCell, cellsOf, fillN, rowsN, cellsN, bnd, lohi, offAt, overL, segL, leave, NodeOK, List.cons_append, List.nil_append, List.append_nil, catA, anys, lenA]))
  simp only [decide_eq_true_eq, decide_eq_false_iff_not]
  have e1 : IntKind.u64.wrap ((x : Int) + 1) = ((x + 1 : Nat) : Int) := by
    rw [show (x : Int) + 1 = ((x + 1 : Nat) : Int) by omega]; exact wruN (by omega)
  rw [e1]
  have hA := rhas_c a (x + 1) ha (by omega)
  have hB := rhas_c b (x + 1) hb (by omega)
  refine ⟨fun h1 => ?_, fun h1 => ?_⟩
  · have step : PM a b n (x + 1) = true → climb (PM a b n) (4611686018427387840 - (x + 1)) (x + 1) = climb (PM a b n) (4611686018427387840 - low) low := fun hp => by
      rw [← hc, show 4611686018427387840 - x = (4611686018427387840 - (x + 1)) + 1 by omega]
      show _ = if PM a b n (x + 1) = true then _ else _
      rw [if_pos hp]
    have stop : PM a b n (x + 1) = false → x = climb (PM a b n) (4611686018427387840 - low) low := fun hp => by
      rw [← hc, show 4611686018427387840 - x = (4611686018427387840 - (x + 1)) + 1 by omega]
      show _ = if PM a b n (x + 1) = true then _ else _
      rw [if_neg (by simp [hp])]
    ((repeat (with_reducible refine And.intro ?_ ?_; focus (simp; done))); refine aw_call (hA) [] rfl (by simp [upM, nthN, matchO, rens, ren, ren1, ren1L, renL, renV, renO, rl, lenO, getO, Nat.blt, mtc, mtc0, mtc0L, mkA]) rfl (by simp [upM, nthN, matchO, rens, ren, ren1, ren1L, renL, renV, renO, rl, lenO, getO, Nat.blt, mtc, mtc0, mtc0L, mkA]) rfl (fun r hs hp hl => ?_); obtain ⟨rfl, rfl⟩ := hp; simp only [snocO, upM, nthN, putAll, snocAll, killsA, killOsA, grows, putL, rl, renV, renL, ren1, ren1L, ren, rens, renO, Nat.blt, lenO, getO, setO, setL, anys, mkA]; (refine eval_sound 2000 _ _ _ ?_; simp only [and, Nat.reduceAdd, Nat.reduceSub, Nat.reduceMul, eval, nf, nfO, opN, appTo, rowsV, getL, setL, getO, setO, snocO, lenO, putL, ev, evs, ifEq, killV, killL, kill1, kill1L, kill, kills, killO, killOs, bin, binI, binS, binB, eq1, eqB, lit, sameK, kn, unI, mxA, mnA, mkAgg, fits, partN, partA, resN, retV, allVal, isVal, allCell, isCell, okVal, okCell, cellsOf, fillN, rowsN, cellsN, bnd, lohi, offAt, overL, segL, leave, NodeOK, List.cons_append, List.nil_append, List.append_nil, catA, anys, lenA]))
    refine ⟨fun h2 => ⟨x + 1, ⟨by omega, step (by simp [PM, h2])⟩, by omega, ?_⟩, fun h2 => ?_⟩
    · rw [e1]
      (simp only [wrC, wrOs, keepT, memN, setsL, setsO, setL, setO, snocO, List.cons_append, List.nil_append, List.append_nil, Nat.reduceAdd, Nat.zero_add, Wk, mtc, mtc0, mtc0L, mtcL, mtcO, mtcOs, cutM, takeE, stA, rl, renV, renL, ren1, ren1L, ren, rens, renO, Nat.blt, lenO, getO, setO, setL, anys, mkA]; simp [mkA])
    rw [e1]
    ((repeat (with_reducible refine And.intro ?_ ?_; focus (simp; done))); refine aw_call (hB) [] rfl (by simp [upM, nthN, matchO, rens, ren, ren1, ren1L, renL, renV, renO, rl, lenO, getO, Nat.blt, mtc, mtc0, mtc0L, mkA]) rfl (by simp [upM, nthN, matchO, rens, ren, ren1, ren1L, renL, renV, renO, rl, lenO, getO, Nat.blt, mtc, mtc0, mtc0L, mkA]) rfl (fun r hs hp hl => ?_); obtain ⟨rfl, rfl⟩ := hp; simp only [snocO, upM, nthN, putAll, snocAll, killsA, killOsA, grows, putL, rl, renV, renL, ren1, ren1L, ren, rens, renO, Nat.blt, lenO, getO, setO, setL, anys, mkA]; (refine eval_sound 2000 _ _ _ ?_; simp only [and, Nat.reduceAdd, Nat.reduceSub, Nat.reduceMul, eval, nf, nfO, opN, appTo, rowsV, getL, setL, getO, setO, snocO, lenO, putL, ev, evs, ifEq, killV, killL, kill1, kill1L, kill, kills, killO, killOs, bin, binI, binS, binB, eq1, eqB, lit, sameK, kn, unI, mxA, mnA, mkAgg, fits, partN, partA, resN, retV, allVal, isVal, allCell, isCell, okVal, okCell, cellsOf, fillN, rowsN, cellsN, bnd, lohi, offAt, overL, segL, leave, NodeOK, List.cons_append, List.nil_append, List.append_nil, catA, anys, lenA]))
    rw [e1]
    refine ⟨fun h3 => ⟨x + 1, ⟨by omega, step (by simp [PM, h3])⟩, by omega, ?_⟩, fun h3 => ⟨fun h4 => ⟨x + 1, ⟨by omega, step ?_⟩, by omega, ?_⟩, fun h4 => ?_⟩⟩
    · (simp only [wrC, wrOs, keepT, memN, setsL, setsO, setL, setO, snocO, List.cons_append, List.nil_append, List.append_nil, Nat.reduceAdd, Nat.zero_add, Wk, mtc, mtc0, mtc0L, mtcL, mtcO, mtcOs, cutM, takeE, stA, rl, renV, renL, ren1, ren1L, ren, rens, renO, Nat.blt, lenO, getO, setO, setL, anys, mkA]; simp [mkA])
    · have h4 : x + 1 = n := by simp at h4; omega
      simp [PM, h4]
    · (simp only [wrC, wrOs, keepT, memN, setsL, setsO, setL, setO, snocO, List.cons_append, List.nil_append, List.append_nil, Nat.reduceAdd, Nat.zero_add, Wk, mtc, mtc0, mtc0L, mtcL, mtcO, mtcOs, cutM, takeE, stA, rl, renV, renL, ren1, ren1L, ren, rens, renO, Nat.blt, lenO, getO, setO, setL, anys, mkA]; simp [mkA])
    have hL := stop (by
      have h4 : ¬ x + 1 = n := by simp at h4; omega
      simp [PM, h2, h3, h4])
    have hx2 : x ≤ 4611686018427387840 := hx
    obtain ⟨L, rfl⟩ : ∃ L, L = x := ⟨x, rfl⟩
    refine ⟨by simp, ?_⟩
    refine aw_loopU (α := Nat) (fun x => x ≤ 64) (fun x => [(10, .int .u64 (2 ^ x % 18446744073709551616 : Nat)), (11, .int .u64 (x : Nat))]) (fun x => [(3, .arr 34 [.int .u64 (L : Nat), .int .u64 (bitsOf (PM a b n) L x : Nat)])]) (fun x => 64 - x) (0) (Nat.zero_le _) ?_ fun x hx => ?_
    · (simp only [wrC, wrOs, keepT, memN, setsL, setsO, setL, setO, snocO, List.cons_append, List.nil_append, List.append_nil, Nat.reduceAdd, Nat.zero_add, Wk, mtc, mtc0, mtc0L, mtcL, mtcO, mtcOs, cutM, takeE, stA, rl, renV, renL, ren1, ren1L, ren, rens, renO, Nat.blt, lenO, getO, setO, setL, anys, mkA, bitsOf]; simp [mkA, bitsOf])
    (simp only [wrC, wrOs, keepT, memN, setsL, setsO, setL, setO, snocO, List.cons_append, List.nil_append, List.append_nil, Nat.reduceAdd, Nat.zero_add, mkA]; (refine eval_sound 2000 _ _ _ ?_; simp only [and, Nat.reduceAdd, Nat.reduceSub, Nat.reduceMul, eval, nf, nfO, opN, appTo, rowsV, getL, setL, getO, setO, snocO, lenO, putL, ev, evs, ifEq, killV, killL, kill1, kill1L, kill, kills, killO, killOs, bin, binI, binS, binB, eq1, eqB, lit, sameK, kn, unI, mxA, mnA, mkAgg, fits, partN, partA, resN, retV, allVal, isVal, allCell, isCell, okVal, okCell, cellsOf, fillN, rowsN, cellsN, bnd, lohi, offAt, overL, segL, leave, NodeOK, List.cons_append, List.nil_append, List.append_nil, catA, anys, lenA]))
    simp only [decide_eq_true_eq, decide_eq_false_iff_not]
    have f1 : IntKind.u64.wrap (((L + 1 : Nat) : Int) + (x : Nat)) = ((L + 1 + x : Nat) : Int) := by
      rw [show ((L + 1 : Nat) : Int) + (x : Nat) = ((L + 1 + x : Nat) : Int) by omega]; exact wruN (by omega)
    have f2 : IntKind.u64.wrap ((x : Int) + 1) = ((x + 1 : Nat) : Int) := by
      rw [show (x : Int) + 1 = ((x + 1 : Nat) : Int) by omega]; exact wruN (by omega)
    have f3 : IntKind.u64.wrap (2 * ((2 ^ x % 18446744073709551616 : Nat) : Int)) = ((2 ^ (x + 1) % 18446744073709551616 : Nat) : Int) := by
      rw [IntKind.wrap_u64, Nat.pow_succ]
      omega
    have hlt := bitsOf_lt (PM a b n) L x
    have hsucc : bitsOf (PM a b n) L (x + 1) = bitsOf (PM a b n) L x + (if PM a b n (L + 1 + x) = true then 2 ^ x else 0) := rfl
    rw [e1, f1]
    have hA2 := rhas_c a (L + 1 + x) ha (by omega)
    have hB2 := rhas_c b (L + 1 + x) hb (by omega)
    refine ⟨fun g1 => ?_, fun g1 => ?_⟩
    · have hk64 : x ≤ 63 := by omega
      have hp64 := pow64 hk64
      have f4 : ((2 ^ x % 18446744073709551616 : Nat) : Int) = ((2 ^ x : Nat) : Int) := by rw [Nat.mod_eq_of_lt hp64]
      have f5 : IntKind.u64.wrap (((bitsOf (PM a b n) L x : Nat) : Int) + ((2 ^ x % 18446744073709551616 : Nat) : Int)) = ((bitsOf (PM a b n) L x + 2 ^ x : Nat) : Int) := by
        rw [f4, show ((bitsOf (PM a b n) L x : Nat) : Int) + ((2 ^ x : Nat) : Int) = ((bitsOf (PM a b n) L x + 2 ^ x : Nat) : Int) by omega]
        refine wruN ?_
        have : 2 ^ x + 2 ^ x ≤ 2 ^ 64 := by rw [← Nat.two_mul, ← Nat.pow_succ']; exact Nat.pow_le_pow_right (by omega) (by omega)
        omega
      have yes : PM a b n (L + 1 + x) = true → bitsOf (PM a b n) L (x + 1) = bitsOf (PM a b n) L x + 2 ^ x := fun hp => by rw [hsucc, if_pos hp]
      have no : PM a b n (L + 1 + x) = false → bitsOf (PM a b n) L (x + 1) = bitsOf (PM a b n) L x := fun hp => by rw [hsucc, if_neg (by simp [hp])]; rfl
      ((repeat (with_reducible refine And.intro ?_ ?_; focus (simp; done))); refine aw_call (hA2) [] rfl (by simp [upM, nthN, matchO, rens, ren, ren1, ren1L, renL, renV, renO, rl, lenO, getO, Nat.blt, mtc, mtc0, mtc0L, mkA]) rfl (by simp [upM, nthN, matchO, rens, ren, ren1, ren1L, renL, renV, renO, rl, lenO, getO, Nat.blt, mtc, mtc0, mtc0L, mkA]) rfl (fun r hs hp hl => ?_); obtain ⟨rfl, rfl⟩ := hp; simp only [snocO, upM, nthN, putAll, snocAll, killsA, killOsA, grows, putL, rl, renV, renL, ren1, ren1L, ren, rens, renO, Nat.blt, lenO, getO, setO, setL, anys, mkA]; (refine eval_sound 2000 _ _ _ ?_; simp only [and, Nat.reduceAdd, Nat.reduceSub, Nat.reduceMul, eval, nf, nfO, opN, appTo, rowsV, getL, setL, getO, setO, snocO, lenO, putL, ev, evs, ifEq, killV, killL, kill1, kill1L, kill, kills, killO, killOs, bin, binI, binS, binB, eq1, eqB, lit, sameK, kn, unI, mxA, mnA, mkAgg, fits, partN, partA, resN, retV, allVal, isVal, allCell, isCell, okVal, okCell, cellsOf, fillN, rowsN, cellsN, bnd, lohi, offAt, overL, segL, leave, NodeOK, List.cons_append, List.nil_append, List.append_nil, catA, anys, lenA]))
      refine ⟨fun g2 => ⟨x + 1, by omega, by omega, ?_⟩, fun g2 => ?_⟩
      · rw [f2, f3, f5, ← yes (by simp [PM, g2])]
        (simp only [wrC, wrOs, keepT, memN, setsL, setsO, setL, setO, snocO, List.cons_append, List.nil_append, List.append_nil, Nat.reduceAdd, Nat.zero_add, Wk, mtc, mtc0, mtc0L, mtcL, mtcO, mtcOs, cutM, takeE, stA, rl, renV, renL, ren1, ren1L, ren, rens, renO, Nat.blt, lenO, getO, setO, setL, anys, mkA]; simp [mkA])
      ((repeat (with_reducible refine And.intro ?_ ?_; focus (simp; done))); refine aw_call (hB2) [] rfl (by simp [upM, nthN, matchO, rens, ren, ren1, ren1L, renL, renV, renO, rl, lenO, getO, Nat.blt, mtc, mtc0, mtc0L, mkA]) rfl (by simp [upM, nthN, matchO, rens, ren, ren1, ren1L, renL, renV, renO, rl, lenO, getO, Nat.blt, mtc, mtc0, mtc0L, mkA]) rfl (fun r hs hp hl => ?_); obtain ⟨rfl, rfl⟩ := hp; simp only [snocO, upM, nthN, putAll, snocAll, killsA, killOsA, grows, putL, rl, renV, renL, ren1, ren1L, ren, rens, renO, Nat.blt, lenO, getO, setO, setL, anys, mkA]; (refine eval_sound 2000 _ _ _ ?_; simp only [and, Nat.reduceAdd, Nat.reduceSub, Nat.reduceMul, eval, nf, nfO, opN, appTo, rowsV, getL, setL, getO, setO, snocO, lenO, putL, ev, evs, ifEq, killV, killL, kill1, kill1L, kill, kills, killO, killOs, bin, binI, binS, binB, eq1, eqB, lit, sameK, kn, unI, mxA, mnA, mkAgg, fits, partN, partA, resN, retV, allVal, isVal, allCell, isCell, okVal, okCell, cellsOf, fillN, rowsN, cellsN, bnd, lohi, offAt, overL, segL, leave, NodeOK, List.cons_append, List.nil_append, List.append_nil, catA, anys, lenA]))
      refine ⟨fun g3 => ⟨x + 1, by omega, by omega, ?_⟩, fun g3 => ⟨fun g4 => ⟨x + 1, by omega, by omega, ?_⟩, fun g4 => ⟨x + 1, by omega, by omega, ?_⟩⟩⟩
      · rw [f2, f3, f5, ← yes (by simp [PM, g3])]
        (simp only [wrC, wrOs, keepT, memN, setsL, setsO, setL, setO, snocO, List.cons_append, List.nil_append, List.append_nil, Nat.reduceAdd, Nat.zero_add, Wk, mtc, mtc0, mtc0L, mtcL, mtcO, mtcOs, cutM, takeE, stA, rl, renV, renL, ren1, ren1L, ren, rens, renO, Nat.blt, lenO, getO, setO, setL, anys, mkA]; simp [mkA])
      · have g4 : L + 1 + x = n := by (try simp at g4); omega
        rw [f2, f3, f5, ← yes (by simp [PM, g4])]
        (simp only [wrC, wrOs, keepT, memN, setsL, setsO, setL, setO, snocO, List.cons_append, List.nil_append, List.append_nil, Nat.reduceAdd, Nat.zero_add, Wk, mtc, mtc0, mtc0L, mtcL, mtcO, mtcOs, cutM, takeE, stA, rl, renV, renL, ren1, ren1L, ren, rens, renO, Nat.blt, lenO, getO, setO, setL, anys, mkA]; simp [mkA])
      · have g4 : ¬ L + 1 + x = n := by rw [beq_eq_false_iff_ne] at g4; omega
        rw [f2, f3, ← no (by simp [PM, g2, g3, g4])]
        (simp only [wrC, wrOs, keepT, memN, setsL, setsO, setL, setO, snocO, List.cons_append, List.nil_append, List.append_nil, Nat.reduceAdd, Nat.zero_add, Wk, mtc, mtc0, mtc0L, mtcL, mtcO, mtcOs, cutM, takeE, stA, rl, renV, renL, ren1, ren1L, ren, rens, renO, Nat.blt, lenO, getO, setO, setL, anys, mkA]; simp [mkA])
    · have : x = 64 := by omega
      subst this
      have hm : madeM (PM a b n) low = ⟨L, bitsOf (PM a b n) L 64⟩ := by unfold madeM; rw [← hL]
      rw [hm]
      ((repeat (with_reducible refine And.intro ?_ ?_; focus (simp; done))); refine ⟨[], rfl, _, _, ?_, ?_, rfl, rfl⟩ <;> simp [Wk, mtc, mtc0, mtc0L, mtcL, mtcO, mtcOs, cutM, takeE, stA, rl, renV, renL, ren1, ren1L, ren, rens, renO, Nat.blt, lenO, getO, setO, setL, anys, okS, endM, endH, idxN, takeE, pickE, catO, rl, renV, renL, ren1, ren1L, ren, rens, renO, Nat.blt, lenO, getO, setO, setL, anys, mkA])
  · have hL : x = climb (PM a b n) (4611686018427387840 - low) low := by
      rw [← hc, show 4611686018427387840 - x = 0 by omega]
      rfl
    have hx2 : x ≤ 4611686018427387840 := hx
    obtain ⟨L, rfl⟩ : ∃ L, L = x := ⟨x, rfl⟩
    refine ⟨by simp, ?_⟩
    refine aw_loopU (α := Nat) (fun x => x ≤ 64) (fun x => [(10, .int .u64 (2 ^ x % 18446744073709551616 : Nat)), (11, .int .u64 (x : Nat))]) (fun x => [(3, .arr 34 [.int .u64 (L : Nat), .int .u64 (bitsOf (PM a b n) L x : Nat)])]) (fun x => 64 - x) (0) (Nat.zero_le _) ?_ fun x hx => ?_
    · (simp only [wrC, wrOs, keepT, memN, setsL, setsO, setL, setO, snocO, List.cons_append, List.nil_append, List.append_nil, Nat.reduceAdd, Nat.zero_add, Wk, mtc, mtc0, mtc0L, mtcL, mtcO, mtcOs, cutM, takeE, stA, rl, renV, renL, ren1, ren1L, ren, rens, renO, Nat.blt, lenO, getO, setO, setL, anys, mkA, bitsOf]; simp [mkA, bitsOf])
    (simp only [wrC, wrOs, keepT, memN, setsL, setsO, setL, setO, snocO, List.cons_append, List.nil_append, List.append_nil, Nat.reduceAdd, Nat.zero_add, mkA]; (refine eval_sound 2000 _ _ _ ?_; simp only [and, Nat.reduceAdd, Nat.reduceSub, Nat.reduceMul, eval, nf, nfO, opN, appTo, rowsV, getL, setL, getO, setO, snocO, lenO, putL, ev, evs, ifEq, killV, killL, kill1, kill1L, kill, kills, killO, killOs, bin, binI, binS, binB, eq1, eqB, lit, sameK, kn, unI, mxA, mnA, mkAgg, fits, partN, partA, resN, retV, allVal, isVal, allCell, isCell, okVal, okCell, cellsOf, fillN, rowsN, cellsN, bnd, lohi, offAt, overL, segL, leave, NodeOK, List.cons_append, List.nil_append, List.append_nil, catA, anys, lenA]))
    simp only [decide_eq_true_eq, decide_eq_false_iff_not]
    have f1 : IntKind.u64.wrap (((L + 1 : Nat) : Int) + (x : Nat)) = ((L + 1 + x : Nat) : Int) := by
      rw [show ((L + 1 : Nat) : Int) + (x : Nat) = ((L + 1 + x : Nat) : Int) by omega]; exact wruN (by omega)
    have f2 : IntKind.u64.wrap ((x : Int) + 1) = ((x + 1 : Nat) : Int) := by
      rw [show (x : Int) + 1 = ((x + 1 : Nat) : Int) by omega]; exact wruN (by omega)
    have f3 : IntKind.u64.wrap (2 * ((2 ^ x % 18446744073709551616 : Nat) : Int)) = ((2 ^ (x + 1) % 18446744073709551616 : Nat) : Int) := by
      rw [IntKind.wrap_u64, Nat.pow_succ]
      omega
    have hlt := bitsOf_lt (PM a b n) L x
    have hsucc : bitsOf (PM a b n) L (x + 1) = bitsOf (PM a b n) L x + (if PM a b n (L + 1 + x) = true then 2 ^ x else 0) := rfl
    rw [e1, f1]
    have hA2 := rhas_c a (L + 1 + x) ha (by omega)
    have hB2 := rhas_c b (L + 1 + x) hb (by omega)
    refine ⟨fun g1 => ?_, fun g1 => ?_⟩
    · have hk64 : x ≤ 63 := by omega
      have hp64 := pow64 hk64
      have f4 : ((2 ^ x % 18446744073709551616 : Nat) : Int) = ((2 ^ x : Nat) : Int) := by rw [Nat.mod_eq_of_lt hp64]
      have f5 : IntKind.u64.wrap (((bitsOf (PM a b n) L x : Nat) : Int) + ((2 ^ x % 18446744073709551616 : Nat) : Int)) = ((bitsOf (PM a b n) L x + 2 ^ x : Nat) : Int) := by
        rw [f4, show ((bitsOf (PM a b n) L x : Nat) : Int) + ((2 ^ x : Nat) : Int) = ((bitsOf (PM a b n) L x + 2 ^ x : Nat) : Int) by omega]
        refine wruN ?_
        have : 2 ^ x + 2 ^ x ≤ 2 ^ 64 := by rw [← Nat.two_mul, ← Nat.pow_succ']; exact Nat.pow_le_pow_right (by omega) (by omega)
        omega
      have yes : PM a b n (L + 1 + x) = true → bitsOf (PM a b n) L (x + 1) = bitsOf (PM a b n) L x + 2 ^ x := fun hp => by rw [hsucc, if_pos hp]
      have no : PM a b n (L + 1 + x) = false → bitsOf (PM a b n) L (x + 1) = bitsOf (PM a b n) L x := fun hp => by rw [hsucc, if_neg (by simp [hp])]; rfl
      ((repeat (with_reducible refine And.intro ?_ ?_; focus (simp; done))); refine aw_call (hA2) [] rfl (by simp [upM, nthN, matchO, rens, ren, ren1, ren1L, renL, renV, renO, rl, lenO, getO, Nat.blt, mtc, mtc0, mtc0L, mkA]) rfl (by simp [upM, nthN, matchO, rens, ren, ren1, ren1L, renL, renV, renO, rl, lenO, getO, Nat.blt, mtc, mtc0, mtc0L, mkA]) rfl (fun r hs hp hl => ?_); obtain ⟨rfl, rfl⟩ := hp; simp only [snocO, upM, nthN, putAll, snocAll, killsA, killOsA, grows, putL, rl, renV, renL, ren1, ren1L, ren, rens, renO, Nat.blt, lenO, getO, setO, setL, anys, mkA]; (refine eval_sound 2000 _ _ _ ?_; simp only [and, Nat.reduceAdd, Nat.reduceSub, Nat.reduceMul, eval, nf, nfO, opN, appTo, rowsV, getL, setL, getO, setO, snocO, lenO, putL, ev, evs, ifEq, killV, killL, kill1, kill1L, kill, kills, killO, killOs, bin, binI, binS, binB, eq1, eqB, lit, sameK, kn, unI, mxA, mnA, mkAgg, fits, partN, partA, resN, retV, allVal, isVal, allCell, isCell, okVal, okCell, cellsOf, fillN, rowsN, cellsN, bnd, lohi, offAt, overL, segL, leave, NodeOK, List.cons_append, List.nil_append, List.append_nil, catA, anys, lenA]))
      refine ⟨fun g2 => ⟨x + 1, by omega, by omega, ?_⟩, fun g2 => ?_⟩
      · rw [f2, f3, f5, ← yes (by simp [PM, g2])]
        (simp only [wrC, wrOs, keepT, memN, setsL, setsO, setL, setO, snocO, List.cons_append, List.nil_append, List.append_nil, Nat.reduceAdd, Nat.zero_add, Wk, mtc, mtc0, mtc0L, mtcL, mtcO, mtcOs, cutM, takeE, stA, rl, renV, renL, ren1, ren1L, ren, rens, renO, Nat.blt, lenO, getO, setO, setL, anys, mkA]; simp [mkA])
      ((repeat (with_reducible refine And.intro ?_ ?_; focus (simp; done))); refine aw_call (hB2) [] rfl (by simp [upM, nthN, matchO, rens, ren, ren1, ren1L, renL, renV, renO, rl, lenO, getO, Nat.blt, mtc, mtc0, mtc0L, mkA]) rfl (by simp [upM, nthN, matchO, rens, ren, ren1, ren1L, renL, renV, renO, rl, lenO, getO, Nat.blt, mtc, mtc0, mtc0L, mkA]) rfl (fun r hs hp hl => ?_); obtain ⟨rfl, rfl⟩ := hp; simp only [snocO, upM, nthN, putAll, snocAll, killsA, killOsA, grows, putL, rl, renV, renL, ren1, ren1L, ren, rens, renO, Nat.blt, lenO, getO, setO, setL, anys, mkA]; (refine eval_sound 2000 _ _ _ ?_; simp only [and, Nat.reduceAdd, Nat.reduceSub, Nat.reduceMul, eval, nf, nfO, opN, appTo, rowsV, getL, setL, getO, setO, snocO, lenO, putL, ev, evs, ifEq, killV, killL, kill1, kill1L, kill, kills, killO, killOs, bin, binI, binS, binB, eq1, eqB, lit, sameK, kn, unI, mxA, mnA, mkAgg, fits, partN, partA, resN, retV, allVal, isVal, allCell, isCell, okVal, okCell, cellsOf, fillN, rowsN, cellsN, bnd, lohi, offAt, overL, segL, leave, NodeOK, List.cons_append, List.nil_append, List.append_nil, catA, anys, lenA]))
      refine ⟨fun g3 => ⟨x + 1, by omega, by omega, ?_⟩, fun g3 => ⟨fun g4 => ⟨x + 1, by omega, by omega, ?_⟩, fun g4 => ⟨x + 1, by omega, by omega, ?_⟩⟩⟩
      · rw [f2, f3, f5, ← yes (by simp [PM, g3])]
        (simp only [wrC, wrOs, keepT, memN, setsL, setsO, setL, setO, snocO, List.cons_append, List.nil_append, List.append_nil, Nat.reduceAdd, Nat.zero_add, Wk, mtc, mtc0, mtc0L, mtcL, mtcO, mtcOs, cutM, takeE, stA, rl, renV, renL, ren1, ren1L, ren, rens, renO, Nat.blt, lenO, getO, setO, setL, anys, mkA]; simp [mkA])
      · have g4 : L + 1 + x = n := by (try simp at g4); omega
        rw [f2, f3, f5, ← yes (by simp [PM, g4])]
        (simp only [wrC, wrOs, keepT, memN, setsL, setsO, setL, setO, snocO, List.cons_append, List.nil_append, List.append_nil, Nat.reduceAdd, Nat.zero_add, Wk, mtc, mtc0, mtc0L, mtcL, mtcO, mtcOs, cutM, takeE, stA, rl, renV, renL, ren1, ren1L, ren, rens, renO, Nat.blt, lenO, getO, setO, setL, anys, mkA]; simp [mkA])
      · have g4 : ¬ L + 1 + x = n := by rw [beq_eq_false_iff_ne] at g4; omega
        rw [f2, f3, ← no (by simp [PM, g2, g3, g4])]
        (simp only [wrC, wrOs, keepT, memN, setsL, setsO, setL, setO, snocO, List.cons_append, List.nil_append, List.append_nil, Nat.reduceAdd, Nat.zero_add, Wk, mtc, mtc0, mtc0L, mtcL, mtcO, mtcOs, cutM, takeE, stA, rl, renV, renL, ren1, ren1L, ren, rens, renO, Nat.blt, lenO, getO, setO, setL, anys, mkA]; simp [mkA])
    · have : x = 64 := by omega
      subst this
      have hm : madeM (PM a b n) low = ⟨L, bitsOf (PM a b n) L 64⟩ := by unfold madeM; rw [← hL]
      rw [hm]
      ((repeat (with_reducible refine And.intro ?_ ?_; focus (simp; done))); refine ⟨[], rfl, _, _, ?_, ?_, rfl, rfl⟩ <;> simp [Wk, mtc, mtc0, mtc0L, mtcL, mtcO, mtcOs, cutM, takeE, stA, rl, renV, renL, ren1, ren1L, ren, rens, renO, Nat.blt, lenO, getO, setO, setL, anys, okS, endM, endH, idxN, takeE, pickE, catO, rl, renV, renL, ren1, ren1L, ren, rens, renO, Nat.blt, lenO, getO, setO, setL, anys, mkA])
end Go.Proofs.YtapfediapkklnaaDoor.S
