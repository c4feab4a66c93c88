/- The document's marks: set, over, join; and that they are the program's. -/
import Derived.Test.YtapfediapkklnaaDoorMk4
namespace Go.Proofs.YtapfediapkklnaaDoor.S
open Go.Lib
set_option linter.all false
set_option maxRecDepth 100000
def rsetM (m : Mk) (n : Nat) : Mk × Int := if n > m.l + 64 ∨ n > 4611686018427387840 then (m, 30) else (madeM (PM m m n) m.l, 0)
def roverM (m : Mk) (low : Nat) : Mk := if low > 4611686018427387840 then m else madeM (PM m m 0) (max m.l low)
def rjoinM (a b : Mk) : Mk := madeM (PM a b 0) (max a.l b.l)
theorem rset_c (m : Mk) (n : Nat) (h : MkOK m) (hl : m.l ≤ 4611686018427387840) (hn : n < 18446744073709551616) : ACalls Tryd.prog 11 [mkA m, .int .u64 n] [] (fun r hs => r = .tup [mkA (rsetM m n).1, .int .i64 (rsetM m n).2] ∧ hs = []) := by
  have hM := rmade_c m m m.l n h h hl hn
  refine acalls_weak (acalls_of (fn := Tryd.f11) (A := a11) Tryd.func11 ok_11 en_11 ?_)
  dsimp only [a11, mkA]
  (refine eval_sound 2000 _ _ _ ?_; simp only [and, Nat.reduceAdd, Nat.reduceSub, Nat.reduceMul, eval, nf, nfO, opN, appTo, rowsV, getL, setL, getO, setO, snocO, lenO, putL, ev, evs, ifEq, killV, killL, kill1, kill1L, kill, kills, killO, killOs, bin, binI, binS, binB, eq1, eqB, lit, sameK, kn, unI, mxA, mnA, mkAgg, fits, partN, partA, resN, retV, allVal, isVal, allCell, isCell, okVal, okCell, cellsOf, fillN, rowsN, cellsN, bnd, lohi, offAt, overL, segL, leave, NodeOK, List.cons_append, List.nil_append, List.append_nil, catA, anys, lenA])
  have e1 : IntKind.u64.wrap ((m.l : Int) + 64) = ((m.l + 64 : Nat) : Int) := by
    rw [show (m.l : Int) + 64 = ((m.l + 64 : Nat) : Int) by omega]; exact wruN (by omega)
  rw [e1]
  simp only [decide_eq_true_eq, decide_eq_false_iff_not]
  refine ⟨fun h1 => ?_, fun h1 => ⟨fun h2 => ?_, fun h2 => ?_⟩⟩
  · have : rsetM m n = (m, 30) := if_pos (.inl (by omega))
    rw [this]
    ((repeat (with_reducible refine And.intro ?_ ?_; focus (simp; done))); refine ⟨[], rfl, _, _, ?_, ?_, rfl, rfl⟩ <;> simp [Wk, mtc, mtc0, mtc0L, mtcL, mtcO, mtcOs, cutM, takeE, stA, rl, renV, renL, ren1, ren1L, ren, rens, renO, Nat.blt, lenO, getO, setO, setL, anys, okS, endM, endH, idxN, takeE, pickE, catO, rl, renV, renL, ren1, ren1L, ren, rens, renO, Nat.blt, lenO, getO, setO, setL, anys, mkA])
  · have : rsetM m n = (m, 30) := if_pos (.inr (by omega))
    rw [this]
    ((repeat (with_reducible refine And.intro ?_ ?_; focus (simp; done))); refine ⟨[], rfl, _, _, ?_, ?_, rfl, rfl⟩ <;> simp [Wk, mtc, mtc0, mtc0L, mtcL, mtcO, mtcOs, cutM, takeE, stA, rl, renV, renL, ren1, ren1L, ren, rens, renO, Nat.blt, lenO, getO, setO, setL, anys, okS, endM, endH, idxN, takeE, pickE, catO, rl, renV, renL, ren1, ren1L, ren, rens, renO, Nat.blt, lenO, getO, setO, setL, anys, mkA])
  · have : rsetM m n = (madeM (PM m m n) m.l, 0) := if_neg (by omega)
    rw [this]
    ((repeat (with_reducible refine And.intro ?_ ?_; focus (simp; done))); refine aw_call (hM) [] rfl (by simp [upM, nthN, matchO, rens, ren, ren1, ren1L, renL, renV, renO, rl, lenO, getO, Nat.blt, mtc, mtc0, mtc0L, mkA]) rfl (by simp [upM, nthN, matchO, rens, ren, ren1, ren1L, renL, renV, renO, rl, lenO, getO, Nat.blt, mtc, mtc0, mtc0L, mkA]) rfl (fun r hs hp hl => ?_); obtain ⟨rfl, rfl⟩ := hp; simp only [snocO, upM, nthN, putAll, snocAll, killsA, killOsA, grows, putL, rl, renV, renL, ren1, ren1L, ren, rens, renO, Nat.blt, lenO, getO, setO, setL, anys, mkA]; (refine eval_sound 2000 _ _ _ ?_; simp only [and, Nat.reduceAdd, Nat.reduceSub, Nat.reduceMul, eval, nf, nfO, opN, appTo, rowsV, getL, setL, getO, setO, snocO, lenO, putL, ev, evs, ifEq, killV, killL, kill1, kill1L, kill, kills, killO, killOs, bin, binI, binS, binB, eq1, eqB, lit, sameK, kn, unI, mxA, mnA, mkAgg, fits, partN, partA, resN, retV, allVal, isVal, allCell, isCell, okVal, okCell, cellsOf, fillN, rowsN, cellsN, bnd, lohi, offAt, overL, segL, leave, NodeOK, List.cons_append, List.nil_append, List.append_nil, catA, anys, lenA]))
    ((repeat (with_reducible refine And.intro ?_ ?_; focus (simp; done))); refine ⟨[], rfl, _, _, ?_, ?_, rfl, rfl⟩ <;> simp [Wk, mtc, mtc0, mtc0L, mtcL, mtcO, mtcOs, cutM, takeE, stA, rl, renV, renL, ren1, ren1L, ren, rens, renO, Nat.blt, lenO, getO, setO, setL, anys, okS, endM, endH, idxN, takeE, pickE, catO, rl, renV, renL, ren1, ren1L, ren, rens, renO, Nat.blt, lenO, getO, setO, setL, anys, mkA])
theorem rover_c (m : Mk) (low : Nat) (h : MkOK m) (hl : m.l ≤ 4611686018427387840) (hw : low < 18446744073709551616) : ACalls Tryd.prog 14 [mkA m, .int .u64 low] [] (fun r hs => r = mkA (roverM m low) ∧ hs = []) := by
  refine acalls_weak (acalls_of (fn := Tryd.f14) (A := a14) Tryd.func14 ok_14 en_14 ?_)
  dsimp only [a14, mkA]
  (refine eval_sound 2000 _ _ _ ?_; simp only [and, Nat.reduceAdd, Nat.reduceSub, Nat.reduceMul, eval, nf, nfO, opN, appTo, rowsV, getL, setL, getO, setO, snocO, lenO, putL, ev, evs, ifEq, killV, killL, kill1, kill1L, kill, kills, killO, killOs, bin, binI, binS, binB, eq1, eqB, lit, sameK, kn, unI, mxA, mnA, mkAgg, fits, partN, partA, resN, retV, allVal, isVal, allCell, isCell, okVal, okCell, cellsOf, fillN, rowsN, cellsN, bnd, lohi, offAt, overL, segL, leave, NodeOK, List.cons_append, List.nil_append, List.append_nil, catA, anys, lenA])
  simp only [decide_eq_true_eq, decide_eq_false_iff_not]
  refine ⟨fun h1 => ?_, fun h1 => ?_⟩
  · have : roverM m low = m := if_pos (by omega)
    rw [this]
    ((repeat (with_reducible refine And.intro ?_ ?_; focus (simp; done))); refine ⟨[], rfl, _, _, ?_, ?_, rfl, rfl⟩ <;> simp [Wk, mtc, mtc0, mtc0L, mtcL, mtcO, mtcOs, cutM, takeE, stA, rl, renV, renL, ren1, ren1L, ren, rens, renO, Nat.blt, lenO, getO, setO, setL, anys, okS, endM, endH, idxN, takeE, pickE, catO, rl, renV, renL, ren1, ren1L, ren, rens, renO, Nat.blt, lenO, getO, setO, setL, anys, mkA])
  · have : roverM m low = madeM (PM m m 0) (max m.l low) := if_neg (by omega)
    rw [this]
    have e1 : (if (low : Int) > m.l then (low : Int) else (m.l : Int)) = ((max m.l low : Nat) : Int) := by split <;> omega
    rw [e1]
    have hM := rmade_c m m (max m.l low) 0 h h (by omega) (by omega)
    ((repeat (with_reducible refine And.intro ?_ ?_; focus (simp; done))); refine aw_call (hM) [] rfl (by simp [upM, nthN, matchO, rens, ren, ren1, ren1L, renL, renV, renO, rl, lenO, getO, Nat.blt, mtc, mtc0, mtc0L, mkA]) rfl (by simp [upM, nthN, matchO, rens, ren, ren1, ren1L, renL, renV, renO, rl, lenO, getO, Nat.blt, mtc, mtc0, mtc0L, mkA]) rfl (fun r hs hp hl => ?_); obtain ⟨rfl, rfl⟩ := hp; simp only [snocO, upM, nthN, putAll, snocAll, killsA, killOsA, grows, putL, rl, renV, renL, ren1, ren1L, ren, rens, renO, Nat.blt, lenO, getO, setO, setL, anys, mkA]; (refine eval_sound 2000 _ _ _ ?_; simp only [and, Nat.reduceAdd, Nat.reduceSub, Nat.reduceMul, eval, nf, nfO, opN, appTo, rowsV, getL, setL, getO, setO, snocO, lenO, putL, ev, evs, ifEq, killV, killL, kill1, kill1L, kill, kills, killO, killOs, bin, binI, binS, binB, eq1, eqB, lit, sameK, kn, unI, mxA, mnA, mkAgg, fits, partN, partA, resN, retV, allVal, isVal, allCell, isCell, okVal, okCell, cellsOf, fillN, rowsN, cellsN, bnd, lohi, offAt, overL, segL, leave, NodeOK, List.cons_append, List.nil_append, List.append_nil, catA, anys, lenA]))
    ((repeat (with_reducible refine And.intro ?_ ?_; focus (simp; done))); refine ⟨[], rfl, _, _, ?_, ?_, rfl, rfl⟩ <;> simp [Wk, mtc, mtc0, mtc0L, mtcL, mtcO, mtcOs, cutM, takeE, stA, rl, renV, renL, ren1, ren1L, ren, rens, renO, Nat.blt, lenO, getO, setO, setL, anys, okS, endM, endH, idxN, takeE, pickE, catO, rl, renV, renL, ren1, ren1L, ren, rens, renO, Nat.blt, lenO, getO, setO, setL, anys, mkA])
theorem rjoin_c (a b : Mk) (ha : MkOK a) (hb : MkOK b) (hal : a.l ≤ 4611686018427387840) (hbl : b.l ≤ 4611686018427387840) : ACalls Tryd.prog 15 [mkA a, mkA b] [] (fun r hs => r = mkA (rjoinM a b) ∧ hs = []) := by
  refine acalls_weak (acalls_of (fn := Tryd.f15) (A := a15) Tryd.func15 ok_15 en_15 ?_)
  dsimp only [a15, mkA]
  (refine eval_sound 2000 _ _ _ ?_; simp only [and, Nat.reduceAdd, Nat.reduceSub, Nat.reduceMul, eval, nf, nfO, opN, appTo, rowsV, getL, setL, getO, setO, snocO, lenO, putL, ev, evs, ifEq, killV, killL, kill1, kill1L, kill, kills, killO, killOs, bin, binI, binS, binB, eq1, eqB, lit, sameK, kn, unI, mxA, mnA, mkAgg, fits, partN, partA, resN, retV, allVal, isVal, allCell, isCell, okVal, okCell, cellsOf, fillN, rowsN, cellsN, bnd, lohi, offAt, overL, segL, leave, NodeOK, List.cons_append, List.nil_append, List.append_nil, catA, anys, lenA])
  have e1 : (if (b.l : Int) > a.l then (b.l : Int) else (a.l : Int)) = ((max a.l b.l : Nat) : Int) := by split <;> omega
  rw [e1]
  have hM := rmade_c a b (max a.l b.l) 0 ha hb (by omega) (by omega)
  ((repeat (with_reducible refine And.intro ?_ ?_; focus (simp; done))); refine aw_call (hM) [] rfl (by simp [upM, nthN, matchO, rens, ren, ren1, ren1L, renL, renV, renO, rl, lenO, getO, Nat.blt, mtc, mtc0, mtc0L, mkA]) rfl (by simp [upM, nthN, matchO, rens, ren, ren1, ren1L, renL, renV, renO, rl, lenO, getO, Nat.blt, mtc, mtc0, mtc0L, mkA]) rfl (fun r hs hp hl => ?_); obtain ⟨rfl, rfl⟩ := hp; simp only [snocO, upM, nthN, putAll, snocAll, killsA, killOsA, grows, putL, rl, renV, renL, ren1, ren1L, ren, rens, renO, Nat.blt, lenO, getO, setO, setL, anys, mkA]; (refine eval_sound 2000 _ _ _ ?_; simp only [and, Nat.reduceAdd, Nat.reduceSub, Nat.reduceMul, eval, nf, nfO, opN, appTo, rowsV, getL, setL, getO, setO, snocO, lenO, putL, ev, evs, ifEq, killV, killL, kill1, kill1L, kill, kills, killO, killOs, bin, binI, binS, binB, eq1, eqB, lit, sameK, kn, unI, mxA, mnA, mkAgg, fits, partN, partA, resN, retV, allVal, isVal, allCell, isCell, okVal, okCell, cellsOf, fillN, rowsN, cellsN, bnd, lohi, offAt, overL, segL, leave, NodeOK, List.cons_append, List.nil_append, List.append_nil, catA, anys, lenA]))
  ((repeat (with_reducible refine And.intro ?_ ?_; focus (simp; done))); refine ⟨[], rfl, _, _, ?_, ?_, rfl, rfl⟩ <;> simp [Wk, mtc, mtc0, mtc0L, mtcL, mtcO, mtcOs, cutM, takeE, stA, rl, renV, renL, ren1, ren1L, ren, rens, renO, Nat.blt, lenO, getO, setO, setL, anys, okS, endM, endH, idxN, takeE, pickE, catO, rl, renV, renL, ren1, ren1L, ren, rens, renO, Nat.blt, lenO, getO, setO, setL, anys, mkA, rjoinM])
/- plain -/
theorem has_low {m : Mk} {n : Nat} (h : n ≤ m.l) : hasM m n = true := by unfold hasM; rw [decide_eq_true h]; rfl
theorem has_bit (m : Mk) (k : Nat) (hk : k < 64) : hasM m (m.l + 1 + k) = m.b.testBit k := by
  unfold hasM
  rw [decide_eq_false (by omega), decide_eq_true (by omega), show m.l + 1 + k - m.l - 1 = k by omega]
  rfl
theorem has_far {m : Mk} {n : Nat} (h : n > m.l + 64) : hasM m n = false := by
  unfold hasM
  rw [decide_eq_false (by omega), decide_eq_false (by omega)]
  rfl
theorem top_bit (m : Mk) (h : m.b < 18446744073709551616) (n : Nat) (hn : n > topM m) : hasM m n = false := by
  have ht : ∀ k, k ≤ 64 → ∀ n, n > topN m k → n ≤ m.l + k → hasM m n = false := by
    intro k
    induction k with
    | zero => intro _ n h1 h2; simp [topN] at h1; omega
    | succ k ih =>
      intro hk n h1 h2
      unfold topN at h1
      split at h1
      · omega
      · rename_i hh
        by_cases e : n = m.l + (k + 1)
        · subst e; simpa using hh
        · exact ih (by omega) n h1 (by omega)
  by_cases h2 : n ≤ m.l + 64
  · exact ht 64 (Nat.le_refl _) n (by rw [topN_top m h]; exact hn) h2
  · exact has_far (by omega)
/-- Good marks: nothing above what there may be, the next one not marked. -/
structure Gd (m : Mk) : Prop where
  b : m.b < 18446744073709551616
  l : m.l ≤ 4611686018427387840
  z : hasM m (m.l + 1) = false
  t : ∀ n, hasM m n = true → n ≤ 4611686018427387840
theorem gd_of {m : Mk} (h : MkOK m) (hg : goodM m = true) : Gd m := by
  unfold goodM at hg
  simp only [Bool.and_eq_true, decide_eq_true_eq, Bool.not_eq_true'] at hg
  obtain ⟨h1, h2, h3⟩ := hg
  refine ⟨h.2, h1, ?_, fun n hn => ?_⟩
  · have := has_bit m 0 (by omega)
    rw [h2] at this
    exact this
  · by_cases h4 : n > topM m
    · rw [top_bit m h.2 n h4] at hn; cases hn
    · omega
theorem good_of {m : Mk} (h : Gd m) : goodM m = true := by
  unfold goodM
  simp only [Bool.and_eq_true, decide_eq_true_eq, Bool.not_eq_true']
  refine ⟨h.l, ?_, ?_⟩
  · have := has_bit m 0 (by omega)
    rw [← this]; exact h.z
  · have hm : hasM m (topM m) = true := by
      rw [← topN_top m h.b]
      have : ∀ k, k ≤ 64 → hasM m (topN m k) = true := by
        intro k
        induction k with
        | zero => intro _; exact has_low (Nat.le_refl _)
        | succ k ih =>
          intro hk
          unfold topN
          split
          · assumption
          · exact ih (by omega)
      exact this 64 (Nat.le_refl _)
    exact h.t _ hm
/-- Good marks that mark the same are the same. -/
theorem gd_eq {m k : Mk} (hm : Gd m) (hk : Gd k) (h : ∀ n, hasM m n = hasM k n) : m = k := by
  have hl : m.l = k.l := by
    rcases Nat.lt_trichotomy m.l k.l with h1 | h1 | h1
    · have := h (m.l + 1); rw [hm.z, has_low (by omega)] at this; cases this
    · exact h1
    · have := h (k.l + 1); rw [hk.z, has_low (by omega)] at this; cases this
  have hb : m.b = k.b := by
    apply Nat.eq_of_testBit_eq
    intro i
    by_cases hi : i < 64
    · rw [← has_bit m i hi, ← has_bit k i hi, hl]; exact h _
    · rw [Nat.testBit_lt_two_pow (Nat.lt_of_lt_of_le hm.b (Nat.pow_le_pow_right (n := 2) (i := 64) (by omega) (by omega))), Nat.testBit_lt_two_pow (Nat.lt_of_lt_of_le hk.b (Nat.pow_le_pow_right (n := 2) (i := 64) (by omega) (by omega)))]
  cases m; cases k; simp_all
end Go.Proofs.YtapfediapkklnaaDoor.S
