/- Decrees: names, what a kind has, which may be. -/
import Derived.Test.YtikogdkjmnpfcaaDcO
namespace Go.Proofs.Ytikogdkjmnpfcaa.S
set_option linter.all false
set_option maxRecDepth 100000
theorem bs_eq (s t : ByteArray) : (s == t) = decide (s = t) := by
  cases s with | mk a =>
  cases t with | mk b =>
  show (a == b) = _
  rw [Bool.eq_iff_iff]
  simp
structure Dc where
  k : Int
  c : Int
  r : Int
  nm : ByteArray
  b : Int
  n : Int
  ch : Int
  e : Int
  sp : Int
def emS : ByteArray := ⟨#[]⟩
def dcA (d : Dc) : AV := .arr [.int .i64 d.k, .int .u64 d.c, .int .u64 d.r, .str d.nm, .int .u32 d.b, .int .i64 d.n, .int .u64 d.ch, .int .u64 d.e, .int .u64 d.sp]
def charB (c : Nat) : Bool := decide (c = 45 ∨ (97 ≤ c ∧ c ≤ 122) ∨ (48 ≤ c ∧ c ≤ 57))
def nameB (s : ByteArray) : Bool := (List.range s.size).all (fun i => charB (bt s i)) && decide (1 ≤ s.size ∧ s.size ≤ 16)
theorem bt_lt (s : ByteArray) (i : Nat) : bt s i < 256 := by unfold bt; exact UInt8.toNat_lt _
theorem in_c (c lo hi : Int) : ACalls Try.prog 87 [.int .u8 c, .int .u8 lo, .int .u8 hi] [] (fun r hs => r = .bool (decide (lo ≤ c ∧ c ≤ hi)) ∧ hs = []) := by
  refine acalls_weak (acalls_of (fn := Try.f87) (A := a87) Try.func87 ok_87 en_87 ?_)
  dsimp only [a87, u8s]
  (refine eval_sound 2000 _ _ _ ?_; simp (maxSteps := 1000000) only [and, Nat.reduceAdd, Nat.reduceSub, Nat.reduceMul, eval, nf, nfO, opN, appTo, rowsV, getL, setL, getO, setO, snocO, lenO, putL, ev, evs, ifEq, killV, killL, kill1, kill1L, kill, kills, killO, killOs, bin, binI, binS, binB, eq1, eqB, lit, sameK, kn, unI, mxA, mnA, mkAgg, fits, partN, partA, resN, retV, allVal, isVal, allCell, isCell, okVal, okCell, cellsOf, fillN, rowsN, cellsN, bnd, lohi, offAt, overL, segL, leave, NodeOK, List.cons_append, List.nil_append, List.append_nil, catA, anys, lenA])
  refine ⟨fun h1 => ?_, fun h1 => ?_⟩
  · have h1 : lo ≤ c := by simpa using h1
    have : decide (lo ≤ c ∧ c ≤ hi) = decide (c ≤ hi) := decide_eq_decide.2 (by omega)
    ((repeat (with_reducible refine And.intro ?_ ?_; focus (simp; done))); refine ⟨[], rfl, _, _, ?_, ?_, rfl, rfl⟩ <;> simp [Wk, mtc, mtc0, mtc0L, mtcL, mtcO, mtcOs, cutM, takeE, stA, rl, renV, renL, ren1, ren1L, ren, rens, renO, Nat.blt, lenO, getO, setO, setL, anys, okS, endM, endH, idxN, takeE, pickE, catO, rl, renV, renL, ren1, ren1L, ren, rens, renO, Nat.blt, lenO, getO, setO, setL, anys, this])
  · have h1 : ¬ lo ≤ c := by simp at h1; omega
    have : decide (lo ≤ c ∧ c ≤ hi) = false := decide_eq_false (by omega)
    ((repeat (with_reducible refine And.intro ?_ ?_; focus (simp; done))); refine ⟨[], rfl, _, _, ?_, ?_, rfl, rfl⟩ <;> simp [Wk, mtc, mtc0, mtc0L, mtcL, mtcO, mtcOs, cutM, takeE, stA, rl, renV, renL, ren1, ren1L, ren, rens, renO, Nat.blt, lenO, getO, setO, setL, anys, okS, endM, endH, idxN, takeE, pickE, catO, rl, renV, renL, ren1, ren1L, ren, rens, renO, Nat.blt, lenO, getO, setO, setL, anys, this])
theorem all_succ (p : Nat → Bool) (k : Nat) : (List.range (k + 1)).all p = ((List.range k).all p && p k) := by
  rw [List.range_succ, List.all_append]; simp
theorem all_no {p : Nat → Bool} {n x : Nat} (hx : x < n) (h : p x = false) : (List.range n).all p = false := by
  rw [List.all_eq_false]
  exact ⟨x, List.mem_range.2 hx, by simp [h]⟩
theorem name_c (s : ByteArray) (hs : s.size ≤ 1000) : ACalls Try.prog 64 [.str s] [] (fun r hs => r = .bool (nameB s) ∧ hs = []) := by
  refine acalls_weak (acalls_of (fn := Try.f64) (A := a64) Try.func64 ok_64 en_64 ?_)
  dsimp only [a64, u8s]
  (refine eval_sound 2000 _ _ _ ?_; simp (maxSteps := 1000000) only [and, Nat.reduceAdd, Nat.reduceSub, Nat.reduceMul, eval, nf, nfO, opN, appTo, rowsV, getL, setL, getO, setO, snocO, lenO, putL, ev, evs, ifEq, killV, killL, kill1, kill1L, kill, kills, killO, killOs, bin, binI, binS, binB, eq1, eqB, lit, sameK, kn, unI, mxA, mnA, mkAgg, fits, partN, partA, resN, retV, allVal, isVal, allCell, isCell, okVal, okCell, cellsOf, fillN, rowsN, cellsN, bnd, lohi, offAt, overL, segL, leave, NodeOK, List.cons_append, List.nil_append, List.append_nil, catA, anys, lenA])
  refine aw_loopU (α := Nat) (fun k => k ≤ s.size ∧ (List.range k).all (fun i => charB (bt s i)) = true) (fun k => [(8, .int .i64 (k : Nat))]) (fun k => []) (fun k => s.size - k) (0) (⟨Nat.zero_le _, rfl⟩) ?_ fun x hx => ?_
  · (simp only [wrC, wrOs, keepT, memN, setsL, setsO, setL, setO, snocO, List.cons_append, List.nil_append, List.append_nil, Nat.reduceAdd, Nat.zero_add, Wk, mtc, mtc0, mtc0L, mtcL, mtcO, mtcOs, cutM, takeE, stA, rl, renV, renL, ren1, ren1L, ren, rens, renO, Nat.blt, lenO, getO, setO, setL, anys, u8s]; simp [u8s])
  obtain ⟨hx, hj⟩ := hx
  have hb := bt_lt s x
  have h1 := in_c (bt s x : Nat) 97 122
  have h2 := in_c (bt s x : Nat) 48 57
  (simp only [wrC, wrOs, keepT, memN, setsL, setsO, setL, setO, snocO, List.cons_append, List.nil_append, List.append_nil, Nat.reduceAdd, Nat.zero_add, u8s]; (refine eval_sound 2000 _ _ _ ?_; simp (maxSteps := 1000000) only [and, Nat.reduceAdd, Nat.reduceSub, Nat.reduceMul, eval, nf, nfO, opN, appTo, rowsV, getL, setL, getO, setO, snocO, lenO, putL, ev, evs, ifEq, killV, killL, kill1, kill1L, kill, kills, killO, killOs, bin, binI, binS, binB, eq1, eqB, lit, sameK, kn, unI, mxA, mnA, mkAgg, fits, partN, partA, resN, retV, allVal, isVal, allCell, isCell, okVal, okCell, cellsOf, fillN, rowsN, cellsN, bnd, lohi, offAt, overL, segL, leave, NodeOK, List.cons_append, List.nil_append, List.append_nil, catA, anys, lenA]))
  simp only [decide_eq_true_eq, decide_eq_false_iff_not, Int.toNat_natCast]
  refine ⟨fun h4 => ⟨⟨by omega, by omega⟩, ?_⟩, fun h4 => ?_⟩
  · have hk : x < s.size := by omega
    have go : charB (bt s x) = true → (List.range (x + 1)).all (fun i => charB (bt s i)) = true := fun h => by rw [all_succ, hj, h]; rfl
    have no : charB (bt s x) = false → nameB s = false := fun h => by unfold nameB; rw [all_no hk h]; rfl
    have w := wr64 (n := (x : Int) + 1) (by omega) (by omega)
    refine ⟨fun g1 => ?_, fun g1 => ?_⟩
    · have g1 : ¬ bt s x = 45 := by simp at g1; omega
      ((repeat (with_reducible refine And.intro ?_ ?_; focus (simp; done))); refine aw_call (h1) [] rfl (by simp [upM, nthN, matchO, rens, ren, ren1, ren1L, renL, renV, renO, rl, lenO, getO, Nat.blt, mtc, mtc0, mtc0L]) rfl (by simp [upM, nthN, matchO, rens, ren, ren1, ren1L, renL, renV, renO, rl, lenO, getO, Nat.blt, mtc, mtc0, mtc0L]) rfl (fun r hs hp hl => ?_); obtain ⟨rfl, rfl⟩ := hp; simp only [snocO, upM, nthN, putAll, snocAll, killsA, killOsA, grows, putL, rl, renV, renL, ren1, ren1L, ren, rens, renO, Nat.blt, lenO, getO, setO, setL, anys]; (refine eval_sound 2000 _ _ _ ?_; simp (maxSteps := 1000000) only [and, Nat.reduceAdd, Nat.reduceSub, Nat.reduceMul, eval, nf, nfO, opN, appTo, rowsV, getL, setL, getO, setO, snocO, lenO, putL, ev, evs, ifEq, killV, killL, kill1, kill1L, kill, kills, killO, killOs, bin, binI, binS, binB, eq1, eqB, lit, sameK, kn, unI, mxA, mnA, mkAgg, fits, partN, partA, resN, retV, allVal, isVal, allCell, isCell, okVal, okCell, cellsOf, fillN, rowsN, cellsN, bnd, lohi, offAt, overL, segL, leave, NodeOK, List.cons_append, List.nil_append, List.append_nil, catA, anys, lenA]))
      refine ⟨fun g2 => ?_, fun g2 => ?_⟩
      · have g2 : ¬ (97 ≤ bt s x ∧ bt s x ≤ 122) := by simp at g2; omega
        ((repeat (with_reducible refine And.intro ?_ ?_; focus (simp; done))); refine aw_call (h2) [] rfl (by simp [upM, nthN, matchO, rens, ren, ren1, ren1L, renL, renV, renO, rl, lenO, getO, Nat.blt, mtc, mtc0, mtc0L]) rfl (by simp [upM, nthN, matchO, rens, ren, ren1, ren1L, renL, renV, renO, rl, lenO, getO, Nat.blt, mtc, mtc0, mtc0L]) rfl (fun r hs hp hl => ?_); obtain ⟨rfl, rfl⟩ := hp; simp only [snocO, upM, nthN, putAll, snocAll, killsA, killOsA, grows, putL, rl, renV, renL, ren1, ren1L, ren, rens, renO, Nat.blt, lenO, getO, setO, setL, anys]; (refine eval_sound 2000 _ _ _ ?_; simp (maxSteps := 1000000) only [and, Nat.reduceAdd, Nat.reduceSub, Nat.reduceMul, eval, nf, nfO, opN, appTo, rowsV, getL, setL, getO, setO, snocO, lenO, putL, ev, evs, ifEq, killV, killL, kill1, kill1L, kill, kills, killO, killOs, bin, binI, binS, binB, eq1, eqB, lit, sameK, kn, unI, mxA, mnA, mkAgg, fits, partN, partA, resN, retV, allVal, isVal, allCell, isCell, okVal, okCell, cellsOf, fillN, rowsN, cellsN, bnd, lohi, offAt, overL, segL, leave, NodeOK, List.cons_append, List.nil_append, List.append_nil, catA, anys, lenA]))
        refine ⟨fun g3 => ?_, fun g3 => ?_⟩
        · have g3 : ¬ (48 ≤ bt s x ∧ bt s x ≤ 57) := by simp at g3; omega
          rw [no (by simp only [charB, decide_eq_false_iff_not]; omega)]
          ((repeat (with_reducible refine And.intro ?_ ?_; focus (simp; done))); refine ⟨[], rfl, _, _, ?_, ?_, rfl, rfl⟩ <;> simp [Wk, mtc, mtc0, mtc0L, mtcL, mtcO, mtcOs, cutM, takeE, stA, rl, renV, renL, ren1, ren1L, ren, rens, renO, Nat.blt, lenO, getO, setO, setL, anys, okS, endM, endH, idxN, takeE, pickE, catO, rl, renV, renL, ren1, ren1L, ren, rens, renO, Nat.blt, lenO, getO, setO, setL, anys, u8s])
        · have g3 : (48 ≤ bt s x ∧ bt s x ≤ 57) := by simp at g3; omega
          rw [w]
          refine ⟨x + 1, ⟨by omega, go (by simp only [charB, decide_eq_true_eq]; omega)⟩, by omega, ?_⟩
          (simp only [wrC, wrOs, keepT, memN, setsL, setsO, setL, setO, snocO, List.cons_append, List.nil_append, List.append_nil, Nat.reduceAdd, Nat.zero_add, Wk, mtc, mtc0, mtc0L, mtcL, mtcO, mtcOs, cutM, takeE, stA, rl, renV, renL, ren1, ren1L, ren, rens, renO, Nat.blt, lenO, getO, setO, setL, anys, u8s]; simp [u8s])
      · have g2 : (97 ≤ bt s x ∧ bt s x ≤ 122) := by simp at g2; omega
        rw [w]
        refine ⟨x + 1, ⟨by omega, go (by simp only [charB, decide_eq_true_eq]; omega)⟩, by omega, ?_⟩
        (simp only [wrC, wrOs, keepT, memN, setsL, setsO, setL, setO, snocO, List.cons_append, List.nil_append, List.append_nil, Nat.reduceAdd, Nat.zero_add, Wk, mtc, mtc0, mtc0L, mtcL, mtcO, mtcOs, cutM, takeE, stA, rl, renV, renL, ren1, ren1L, ren, rens, renO, Nat.blt, lenO, getO, setO, setL, anys, u8s]; simp [u8s])
    · have g1 : bt s x = 45 := by simp at g1; omega
      rw [w]
      refine ⟨x + 1, ⟨by omega, go (by simp only [charB, decide_eq_true_eq]; omega)⟩, by omega, ?_⟩
      (simp only [wrC, wrOs, keepT, memN, setsL, setsO, setL, setO, snocO, List.cons_append, List.nil_append, List.append_nil, Nat.reduceAdd, Nat.zero_add, Wk, mtc, mtc0, mtc0L, mtcL, mtcO, mtcOs, cutM, takeE, stA, rl, renV, renL, ren1, ren1L, ren, rens, renO, Nat.blt, lenO, getO, setO, setL, anys, u8s]; simp [u8s])
  · have : x = s.size := by omega
    subst this
    refine ⟨fun g1 => ?_, fun g1 => ?_⟩
    · have : nameB s = decide ((s.size : Int) ≤ 16) := by unfold nameB; rw [hj, Bool.true_and]; exact decide_eq_decide.2 (by omega)
      ((repeat (with_reducible refine And.intro ?_ ?_; focus (simp; done))); refine ⟨[], rfl, _, _, ?_, ?_, rfl, rfl⟩ <;> simp [Wk, mtc, mtc0, mtc0L, mtcL, mtcO, mtcOs, cutM, takeE, stA, rl, renV, renL, ren1, ren1L, ren, rens, renO, Nat.blt, lenO, getO, setO, setL, anys, okS, endM, endH, idxN, takeE, pickE, catO, rl, renV, renL, ren1, ren1L, ren, rens, renO, Nat.blt, lenO, getO, setO, setL, anys, this])
    · have : nameB s = false := by unfold nameB; rw [decide_eq_false (show ¬ (1 ≤ s.size ∧ s.size ≤ 16) by omega)]; simp
      ((repeat (with_reducible refine And.intro ?_ ?_; focus (simp; done))); refine ⟨[], rfl, _, _, ?_, ?_, rfl, rfl⟩ <;> simp [Wk, mtc, mtc0, mtc0L, mtcL, mtcO, mtcOs, cutM, takeE, stA, rl, renV, renL, ren1, ren1L, ren, rens, renO, Nat.blt, lenO, getO, setO, setL, anys, okS, endM, endH, idxN, takeE, pickE, catO, rl, renV, renL, ren1, ren1L, ren, rens, renO, Nat.blt, lenO, getO, setO, setL, anys, this])
theorem rname_c (s : ByteArray) (hs : s.size ≤ 1000) : ACalls Try.prog 66 [.str s] [] (fun r hs => r = .bool (nameB s) ∧ hs = []) := by
  refine acalls_weak (acalls_of (fn := Try.f66) (A := a66) Try.func66 ok_66 en_66 ?_)
  dsimp only [a66, u8s]
  (refine eval_sound 2000 _ _ _ ?_; simp (maxSteps := 1000000) only [and, Nat.reduceAdd, Nat.reduceSub, Nat.reduceMul, eval, nf, nfO, opN, appTo, rowsV, getL, setL, getO, setO, snocO, lenO, putL, ev, evs, ifEq, killV, killL, kill1, kill1L, kill, kills, killO, killOs, bin, binI, binS, binB, eq1, eqB, lit, sameK, kn, unI, mxA, mnA, mkAgg, fits, partN, partA, resN, retV, allVal, isVal, allCell, isCell, okVal, okCell, cellsOf, fillN, rowsN, cellsN, bnd, lohi, offAt, overL, segL, leave, NodeOK, List.cons_append, List.nil_append, List.append_nil, catA, anys, lenA])
  refine aw_loopU (α := Nat) (fun k => k ≤ s.size ∧ (List.range k).all (fun i => charB (bt s i)) = true) (fun k => [(3, .int .i64 (k : Nat))]) (fun k => []) (fun k => s.size - k) (0) (⟨Nat.zero_le _, rfl⟩) ?_ fun x hx => ?_
  · (simp only [wrC, wrOs, keepT, memN, setsL, setsO, setL, setO, snocO, List.cons_append, List.nil_append, List.append_nil, Nat.reduceAdd, Nat.zero_add, Wk, mtc, mtc0, mtc0L, mtcL, mtcO, mtcOs, cutM, takeE, stA, rl, renV, renL, ren1, ren1L, ren, rens, renO, Nat.blt, lenO, getO, setO, setL, anys, u8s]; simp [u8s])
  obtain ⟨hx, hj⟩ := hx
  have hb := bt_lt s x
  (simp only [wrC, wrOs, keepT, memN, setsL, setsO, setL, setO, snocO, List.cons_append, List.nil_append, List.append_nil, Nat.reduceAdd, Nat.zero_add, u8s]; (refine eval_sound 2000 _ _ _ ?_; simp (maxSteps := 1000000) only [and, Nat.reduceAdd, Nat.reduceSub, Nat.reduceMul, eval, nf, nfO, opN, appTo, rowsV, getL, setL, getO, setO, snocO, lenO, putL, ev, evs, ifEq, killV, killL, kill1, kill1L, kill, kills, killO, killOs, bin, binI, binS, binB, eq1, eqB, lit, sameK, kn, unI, mxA, mnA, mkAgg, fits, partN, partA, resN, retV, allVal, isVal, allCell, isCell, okVal, okCell, cellsOf, fillN, rowsN, cellsN, bnd, lohi, offAt, overL, segL, leave, NodeOK, List.cons_append, List.nil_append, List.append_nil, catA, anys, lenA]))
  simp only [decide_eq_true_eq, decide_eq_false_iff_not, Int.toNat_natCast]
  refine ⟨fun h4 => ⟨⟨by omega, by omega⟩, ?_⟩, fun h4 => ?_⟩
  · have hk : x < s.size := by omega
    have go : charB (bt s x) = true → (List.range (x + 1)).all (fun i => charB (bt s i)) = true := fun h => by rw [all_succ, hj, h]; rfl
    have no : charB (bt s x) = false → nameB s = false := fun h => by unfold nameB; rw [all_no hk h]; rfl
    have w := wr64 (n := (x : Int) + 1) (by omega) (by omega)
    rw [w]
    simp only [Bool.not_eq_eq_eq_not, Bool.not_true, Bool.not_false, beq_iff_eq, beq_eq_false_iff_ne, decide_eq_true_eq, decide_eq_false_iff_not, bne_iff_ne, ne_eq, Decidable.not_not]
    (repeat' (first | (refine ⟨fun _ => ?_, fun _ => ?_⟩) | (with_reducible refine And.intro ?_ ?_; focus (simp; done))))
    all_goals first
      | exact ⟨x + 1, ⟨by omega, go (by simp only [charB, decide_eq_true_eq]; omega)⟩, by omega, by (simp only [wrC, wrOs, keepT, memN, setsL, setsO, setL, setO, snocO, List.cons_append, List.nil_append, List.append_nil, Nat.reduceAdd, Nat.zero_add, Wk, mtc, mtc0, mtc0L, mtcL, mtcO, mtcOs, cutM, takeE, stA, rl, renV, renL, ren1, ren1L, ren, rens, renO, Nat.blt, lenO, getO, setO, setL, anys, u8s]; simp [u8s])⟩
      | (rw [no (by simp only [charB, decide_eq_false_iff_not]; omega)]
         ((repeat (with_reducible refine And.intro ?_ ?_; focus (simp; done))); refine ⟨[], rfl, _, _, ?_, ?_, rfl, rfl⟩ <;> simp [Wk, mtc, mtc0, mtc0L, mtcL, mtcO, mtcOs, cutM, takeE, stA, rl, renV, renL, ren1, ren1L, ren, rens, renO, Nat.blt, lenO, getO, setO, setL, anys, okS, endM, endH, idxN, takeE, pickE, catO, rl, renV, renL, ren1, ren1L, ren, rens, renO, Nat.blt, lenO, getO, setO, setL, anys, u8s]))
      | (exfalso; omega)
      | skip
  · have : x = s.size := by omega
    subst this
    refine ⟨fun g1 => ?_, fun g1 => ?_⟩
    · have : nameB s = decide ((s.size : Int) ≤ 16) := by unfold nameB; rw [hj, Bool.true_and]; exact decide_eq_decide.2 (by omega)
      ((repeat (with_reducible refine And.intro ?_ ?_; focus (simp; done))); refine ⟨[], rfl, _, _, ?_, ?_, rfl, rfl⟩ <;> simp [Wk, mtc, mtc0, mtc0L, mtcL, mtcO, mtcOs, cutM, takeE, stA, rl, renV, renL, ren1, ren1L, ren, rens, renO, Nat.blt, lenO, getO, setO, setL, anys, okS, endM, endH, idxN, takeE, pickE, catO, rl, renV, renL, ren1, ren1L, ren, rens, renO, Nat.blt, lenO, getO, setO, setL, anys, this])
    · have : nameB s = false := by unfold nameB; rw [decide_eq_false (show ¬ (1 ≤ s.size ∧ s.size ≤ 16) by omega)]; simp
      ((repeat (with_reducible refine And.intro ?_ ?_; focus (simp; done))); refine ⟨[], rfl, _, _, ?_, ?_, rfl, rfl⟩ <;> simp [Wk, mtc, mtc0, mtc0L, mtcL, mtcO, mtcOs, cutM, takeE, stA, rl, renV, renL, ren1, ren1L, ren, rens, renO, Nat.blt, lenO, getO, setO, setL, anys, okS, endM, endH, idxN, takeE, pickE, catO, rl, renV, renL, ren1, ren1L, ren, rens, renO, Nat.blt, lenO, getO, setO, setL, anys, this])
def ownD (d : Dc) : Dc := ⟨d.k, d.c, d.r, if d.k = 1 ∨ d.k = 2 ∨ d.k = 3 then d.nm else emS, if d.k = 1 ∨ d.k = 2 then d.b else 0, if d.k = 4 ∨ d.k = 6 then d.n else 0, if d.k = 6 ∨ d.k = 7 then d.ch else 0, if d.k = 6 then d.e else 0, if d.k = 6 then d.sp else 0⟩
def GoodD (d : Dc) : Prop := 1 ≤ d.k ∧ d.k ≤ 7 ∧ d.c ≤ 8 ∧ (d.c = 0 ↔ d.r = 0) ∧ 0 ≤ d.n ∧ d.n ≤ 15 ∧ (d.k ≤ 3 → nameB d.nm = true) ∧ (3 < d.k → d.nm = emS) ∧ (2 < d.k → d.b = 0) ∧ (d.k ≠ 4 → d.k ≠ 6 → d.n = 0) ∧ (d.k < 6 → d.ch = 0) ∧ (d.k ≠ 6 → d.e = 0 ∧ d.sp = 0)
instance (d : Dc) : Decidable (GoodD d) := by unfold GoodD; infer_instance
theorem own_c (d : Dc) : ACalls Try.prog 65 [dcA d] [] (fun r hs => r = dcA (ownD d) ∧ hs = []) := by
  obtain ⟨k, c, r, nm, b, n, ch, e, sp⟩ := d
  refine acalls_weak (acalls_of (fn := Try.f65) (A := a65) Try.func65 ok_65 en_65 ?_)
  dsimp only [a65, dcA]
  (refine eval_sound 2000 _ _ _ ?_; simp (maxSteps := 1000000) only [and, Nat.reduceAdd, Nat.reduceSub, Nat.reduceMul, eval, nf, nfO, opN, appTo, rowsV, getL, setL, getO, setO, snocO, lenO, putL, ev, evs, ifEq, killV, killL, kill1, kill1L, kill, kills, killO, killOs, bin, binI, binS, binB, eq1, eqB, lit, sameK, kn, unI, mxA, mnA, mkAgg, fits, partN, partA, resN, retV, allVal, isVal, allCell, isCell, okVal, okCell, cellsOf, fillN, rowsN, cellsN, bnd, lohi, offAt, overL, segL, leave, NodeOK, List.cons_append, List.nil_append, List.append_nil, catA, anys, lenA])
  simp only [beq_iff_eq, beq_eq_false_iff_ne]
  (repeat' (first | (refine ⟨fun _ => ?_, fun _ => ?_⟩) | (with_reducible refine And.intro ?_ ?_; focus (simp; done))))
  all_goals first
    | (((repeat (with_reducible refine And.intro ?_ ?_; focus (simp; done))); refine ⟨[], rfl, _, _, ?_, ?_, rfl, rfl⟩ <;> simp [Wk, mtc, mtc0, mtc0L, mtcL, mtcO, mtcOs, cutM, takeE, stA, rl, renV, renL, ren1, ren1L, ren, rens, renO, Nat.blt, lenO, getO, setO, setL, anys, okS, endM, endH, idxN, takeE, pickE, catO, rl, renV, renL, ren1, ren1L, ren, rens, renO, Nat.blt, lenO, getO, setO, setL, anys, ownD, emS, *]); done)
    | (refine aw_dregA (show Try.prog.follows .mixedOrders = true by kernel_rfl) 3 [(7, ⟨.any, [(2, .arr 61 [.int .i64 k, .int .u64 c, .int .u64 r, .str emS, .int .u32 0, .int .i64 0, .int .u64 ch, .int .u64 0, .int .u64 0])], [], []⟩), (9, ⟨.any, [(2, .arr 61 [.int .i64 k, .int .u64 c, .int .u64 r, .str emS, .int .u32 0, .int .i64 0, .int .u64 ch, .int .u64 e, .int .u64 0])], [], []⟩), (11, ⟨.any, [(2, .arr 61 [.int .i64 k, .int .u64 c, .int .u64 r, .str emS, .int .u32 0, .int .i64 0, .int .u64 ch, .int .u64 e, .int .u64 sp])], [], []⟩)] ?_ ?_ ?_
       · kernel_rfl
       · simp only [emS]
         (simp only [AllOps, OpOK, mkR, autoV, autoR, labV, lkD, vOf, preT, preO, setTs, preV, wrt, memN, usesO, usesT, opT, optT, opsT, ptsT, setHs, objF, updD, newO, lkO, lkF, keysO, keysF, visN, deads, getL, setL, getO, setO, lenO, lenA, anys, setDs, setWr, setFr, endO, catD, List.getD_cons_zero, List.getD_cons_succ, List.getElem?_cons_zero, List.getElem?_cons_succ, List.cons_append, List.nil_append, List.append_nil, Nat.reduceAdd, Nat.reduceSub, and, Nat.reduceAdd, Nat.reduceSub, Nat.reduceMul, eval, nf, nfO, opN, appTo, rowsV, getL, setL, getO, setO, snocO, lenO, putL, ev, evs, ifEq, killV, killL, kill1, kill1L, kill, kills, killO, killOs, bin, binI, binS, binB, eq1, eqB, lit, sameK, kn, unI, mxA, mnA, mkAgg, fits, partN, partA, resN, retV, allVal, isVal, allCell, isCell, okVal, okCell, cellsOf, fillN, rowsN, cellsN, bnd, lohi, offAt, overL, segL, leave, NodeOK, List.cons_append, List.nil_append, List.append_nil, catA, anys, lenA]; and_intros) <;> (first | exact trivial | ((refine eval_sound 2000 _ _ _ ?_; simp (maxSteps := 1000000) only [and, Nat.reduceAdd, Nat.reduceSub, Nat.reduceMul, eval, nf, nfO, opN, appTo, rowsV, getL, setL, getO, setO, snocO, lenO, putL, ev, evs, ifEq, killV, killL, kill1, kill1L, kill, kills, killO, killOs, bin, binI, binS, binB, eq1, eqB, lit, sameK, kn, unI, mxA, mnA, mkAgg, fits, partN, partA, resN, retV, allVal, isVal, allCell, isCell, okVal, okCell, cellsOf, fillN, rowsN, cellsN, bnd, lohi, offAt, overL, segL, leave, NodeOK, List.cons_append, List.nil_append, List.append_nil, catA, anys, lenA]); try simp only [JR, dstOK, wrOK, frOK, rdOK, getL, getO]; try simp only [JR, dstOK, wrOK, frOK, rdOK, sig, sigF, isGrowB, mtc, mtc0, mtc0L, mtcO, mtcL, memN, Nat.blt, rl, renV, renL, ren1, ren1L, ren, rens, renO, Nat.blt, lenO, getO, setO, setL, anys]; try simp))
       · simp only [emS]
         (simp only [AllOps, OpOK, mkR, autoV, autoR, labV, lkD, vOf, preT, preO, setTs, preV, wrt, memN, usesO, usesT, opT, optT, opsT, ptsT, setHs, objF, updD, newO, lkO, lkF, keysO, keysF, visN, deads, getL, setL, getO, setO, lenO, lenA, anys, setDs, setWr, setFr, endO, catD, List.getD_cons_zero, List.getD_cons_succ, List.getElem?_cons_zero, List.getElem?_cons_succ, List.cons_append, List.nil_append, List.append_nil, Nat.reduceAdd, Nat.reduceSub, and, Nat.reduceAdd, Nat.reduceSub, Nat.reduceMul, eval, nf, nfO, opN, appTo, rowsV, getL, setL, getO, setO, snocO, lenO, putL, ev, evs, ifEq, killV, killL, kill1, kill1L, kill, kills, killO, killOs, bin, binI, binS, binB, eq1, eqB, lit, sameK, kn, unI, mxA, mnA, mkAgg, fits, partN, partA, resN, retV, allVal, isVal, allCell, isCell, okVal, okCell, cellsOf, fillN, rowsN, cellsN, bnd, lohi, offAt, overL, segL, leave, NodeOK, List.cons_append, List.nil_append, List.append_nil, catA, anys, lenA]; (refine eval_sound 2000 _ _ _ ?_; simp (maxSteps := 1000000) only [and, Nat.reduceAdd, Nat.reduceSub, Nat.reduceMul, eval, nf, nfO, opN, appTo, rowsV, getL, setL, getO, setO, snocO, lenO, putL, ev, evs, ifEq, killV, killL, kill1, kill1L, kill, kills, killO, killOs, bin, binI, binS, binB, eq1, eqB, lit, sameK, kn, unI, mxA, mnA, mkAgg, fits, partN, partA, resN, retV, allVal, isVal, allCell, isCell, okVal, okCell, cellsOf, fillN, rowsN, cellsN, bnd, lohi, offAt, overL, segL, leave, NodeOK, List.cons_append, List.nil_append, List.append_nil, catA, anys, lenA]))
         (repeat (with_reducible refine And.intro ?_ ?_; focus (simp; done)))
         ((repeat (with_reducible refine And.intro ?_ ?_; focus (simp; done))); refine ⟨[], rfl, _, _, ?_, ?_, rfl, rfl⟩ <;> simp [Wk, mtc, mtc0, mtc0L, mtcL, mtcO, mtcOs, cutM, takeE, stA, rl, renV, renL, ren1, ren1L, ren, rens, renO, Nat.blt, lenO, getO, setO, setL, anys, okS, endM, endH, idxN, takeE, pickE, catO, rl, renV, renL, ren1, ren1L, ren, rens, renO, Nat.blt, lenO, getO, setO, setL, anys, ownD, emS, *]))
end Go.Proofs.Ytikogdkjmnpfcaa.S
