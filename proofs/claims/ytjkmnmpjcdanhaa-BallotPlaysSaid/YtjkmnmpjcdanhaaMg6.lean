/- Contracts of merge: what a new leader goes on with. -/
import Derived.Test.YtjkmnmpjcdanhaaMg5
namespace Go.Proofs.Ytjkmnmpjcdanhaa.S
set_option linter.all false
set_option maxRecDepth 100000
set_option maxHeartbeats 2000000
theorem manyT_spec (L : List En) (base : Int) : ∀ k, (∀ j : Nat, 1 ≤ j → j ≤ k → (best L (base + j)).isSome = true → j ≤ manyT L base k) ∧ (manyT L base k = 0 ∨ 1 ≤ manyT L base k ∧ (best L (base + (manyT L base k : Nat))).isSome = true)
  | 0 => ⟨fun j h1 h2 => by omega, .inl rfl⟩
  | k + 1 => by
    obtain ⟨h1, h2⟩ := manyT_spec L base k
    by_cases hs : (best L (base + ((k + 1 : Nat) : Int))).isSome = true
    · have e : manyT L base (k + 1) = k + 1 := by show (if _ then _ else _) = _; rw [if_pos hs]
      rw [e]
      exact ⟨fun j _ hj _ => hj, .inr ⟨by omega, hs⟩⟩
    · have e : manyT L base (k + 1) = manyT L base k := by show (if _ then _ else _) = _; rw [if_neg hs]
      rw [e]
      refine ⟨fun j hj1 hj2 hj3 => ?_, h2⟩
      by_cases hj : j = k + 1
      · subst hj; exact absurd hj3 hs
      · exact h1 j hj1 (by omega) hj3
theorem many_eq {L : List En} {base : Int} {m : Nat} (h1 : ∀ j : Nat, 1 ≤ j → j ≤ 192 → (best L (base + j)).isSome = true → j ≤ m) (h2 : m = 0 ∨ 1 ≤ m ∧ m ≤ 192 ∧ (best L (base + (m : Nat))).isSome = true) : many L base = m := by
  obtain ⟨g1, g2⟩ := manyT_spec L base 192
  have hle := many_le L base
  unfold many at *
  apply Nat.le_antisymm
  · rcases g2 with g2 | ⟨g2, g3⟩
    · omega
    · exact h1 _ g2 hle g3
  · rcases h2 with h2 | ⟨h2, h3, h4⟩
    · omega
    · exact g1 m h2 h3 h4
def wantM (base i : Int) : Bool := decide (IntKind.u64.wrap (IntKind.u64.wrap (i - base) - 1) < 192)
theorem wantM_eq {base i : Int} (hb : 0 ≤ base ∧ base ≤ 4611686018427387904) (hi : U64 i) : wantM base i = true ↔ base < i ∧ i ≤ base + 192 := by
  unfold wantM
  rw [decide_eq_true_eq]
  unfold U64 at hi
  by_cases h : base ≤ i
  · rw [wru (n := i - base) (by omega) (by omega)]
    by_cases h2 : i = base
    · subst h2
      rw [Int.sub_self, show IntKind.u64.wrap (0 - 1) = 18446744073709551615 by decide]
      omega
    · rw [wru (n := i - base - 1) (by omega) (by omega)]; omega
  · have e : IntKind.u64.wrap (i - base) = i - base + 18446744073709551616 := by
      rw [IntKind.wrap_u64]; omega
    rw [e, wru (by omega) (by omega)]
    omega
theorem merge1_c (b i : Int) : ACalls Try.prog 63 [.int .u64 i, .ptr 0 0] [.arr 22 [.int .u64 b]] (fun r hs => r = .bool (wantM b i) ∧ hs = [.arr 22 [.int .u64 b]]) := by
  refine acalls_weak (acalls_of (fn := Try.f63) (A := a63) Try.func63 ok_63 en_63 ?_)
  dsimp only [a63, enA]
  (refine eval_sound 2000 _ _ _ ?_; simp (maxSteps := 1000000) only [ptrL, lenV, Bool.not_true, Bool.not_false, lookR, valOf, asGrow, jump, findA, restA, and, Nat.reduceAdd, Nat.reduceSub, Nat.reduceMul, Int.reduceToNat, eval, nf, nfO, opN, appTo, rowsV, getL, setL, getO, setO, snocO, lenO, putL, ev, evs, ifEq, killV, killL, kill1, kill1L, kill, kills, killO, killOs, bin, binI, binS, binB, eq1, eqB, lit, sameK, kn, unI, mxA, mnA, mkAgg, fits, partN, partA, resN, retV, allVal, isVal, allCell, isCell, okVal, okCell, cellsOf, fillN, rowsN, cellsN, bnd, lohi, offAt, overL, segL, leave, NodeOK, List.cons_append, List.nil_append, List.append_nil, catA, anys, lenA])
  ((repeat (with_reducible refine And.intro ?_ ?_; focus (simp; done))); refine ⟨[], rfl, _, _, ?_, ?_, rfl, rfl⟩ <;> simp [Wk, mtc, mtcS, mtcSL, mtc0, mtc0L, mtcL, mtcO, mtcOs, cutM, takeE, stA, rl, renV, renL, ren1, ren1L, ren, rens, renO, Nat.blt, lenO, getO, setO, setL, anys, okS, endM, endH, idxN, takeE, pickE, catO, rl, renV, renL, ren1, ren1L, ren, rens, renO, Nat.blt, lenO, getO, setO, setL, anys, wantM])
theorem nd_len : ∀ (s l : List Nat), s.Nodup → (∀ x ∈ s, x ∈ l) → s.length ≤ l.length
  | [], _, _, _ => Nat.zero_le _
  | a :: s, l, h, hs => by
    obtain ⟨h1, h2⟩ := List.nodup_cons.1 h
    have h3 := nd_len s (l.erase a) h2 fun x hx => (List.mem_erase_of_ne (fun e => h1 (by rw [← e]; exact hx))).2 (hs x (by simp [hx]))
    have h4 : a ∈ l := hs a (by simp)
    have h5 := List.length_pos_of_mem h4
    rw [List.length_erase_of_mem h4] at h3
    rw [List.length_cons]
    omega
theorem Mp.stamp_key {l : List (Nat × Int × AV)} (h : (l.map (·.1)).Nodup) {b : Nat} {n m : Int} {v u : AV} (h1 : (b, n, v) ∈ l) (h2 : (b, m, u) ∈ l) : n = m := by
  induction l with
  | nil => cases h1
  | cons a l ih =>
    obtain ⟨h3, h4⟩ := List.nodup_cons.1 h
    rcases List.mem_cons.1 h1 with e1 | h1
    · rcases List.mem_cons.1 h2 with e2 | h2
      · rw [← e1] at e2; cases e2; rfl
      · exact absurd (List.mem_map_of_mem (f := fun x => x.1) h2) (by rw [← e1] at h3; exact h3)
    · rcases List.mem_cons.1 h2 with e2 | h2
      · exact absurd (List.mem_map_of_mem (f := fun x => x.1) h1) (by rw [← e2] at h3; exact h3)
      · exact ih h4 h1 h2
theorem noop_c (i t s : Int) : ACalls Try.prog 64 [.int .u64 i, .int .u64 t, .int .u64 s] [] (fun r hs => r = enA ⟨i, t, s, 2, lk0, ⟨#[]⟩, []⟩ ∧ hs = []) := by
  refine acalls_weak (acalls_of (fn := Try.f64) (A := a64) Try.func64 ok_64 en_64 ?_)
  dsimp only [a64, enA]
  (refine eval_sound 2000 _ _ _ ?_; simp (maxSteps := 1000000) only [ptrL, lenV, Bool.not_true, Bool.not_false, lookR, valOf, asGrow, jump, findA, restA, and, Nat.reduceAdd, Nat.reduceSub, Nat.reduceMul, Int.reduceToNat, eval, nf, nfO, opN, appTo, rowsV, getL, setL, getO, setO, snocO, lenO, putL, ev, evs, ifEq, killV, killL, kill1, kill1L, kill, kills, killO, killOs, bin, binI, binS, binB, eq1, eqB, lit, sameK, kn, unI, mxA, mnA, mkAgg, fits, partN, partA, resN, retV, allVal, isVal, allCell, isCell, okVal, okCell, cellsOf, fillN, rowsN, cellsN, bnd, lohi, offAt, overL, segL, leave, NodeOK, List.cons_append, List.nil_append, List.append_nil, catA, anys, lenA])
  (repeat (with_reducible refine And.intro ?_ ?_; focus (simp; done)))
  ((repeat (with_reducible refine And.intro ?_ ?_; focus (simp; done))); refine ⟨[], rfl, _, _, ?_, ?_, rfl, rfl⟩ <;> simp [Wk, mtc, mtcS, mtcSL, mtc0, mtc0L, mtcL, mtcO, mtcOs, cutM, takeE, stA, rl, renV, renL, ren1, ren1L, ren, rens, renO, Nat.blt, lenO, getO, setO, setL, anys, okS, endM, endH, idxN, takeE, pickE, catO, rl, renV, renL, ren1, ren1L, ren, rens, renO, Nat.blt, lenO, getO, setO, setL, anys, lk0])
theorem again2_c (e : En) (i t s : Int) : ACalls Try.prog 65 [enA e, .int .u64 i, .int .u64 t, .int .u64 s] [] (fun r hs => r = enA ⟨i, t, s, e.k, e.l, e.d, []⟩ ∧ hs = []) := by
  refine acalls_weak (acalls_of (fn := Try.f65) (A := a65) Try.func65 ok_65 en_65 ?_)
  dsimp only [a65, enA]
  (refine eval_sound 2000 _ _ _ ?_; simp (maxSteps := 1000000) only [ptrL, lenV, Bool.not_true, Bool.not_false, lookR, valOf, asGrow, jump, findA, restA, and, Nat.reduceAdd, Nat.reduceSub, Nat.reduceMul, Int.reduceToNat, eval, nf, nfO, opN, appTo, rowsV, getL, setL, getO, setO, snocO, lenO, putL, ev, evs, ifEq, killV, killL, kill1, kill1L, kill, kills, killO, killOs, bin, binI, binS, binB, eq1, eqB, lit, sameK, kn, unI, mxA, mnA, mkAgg, fits, partN, partA, resN, retV, allVal, isVal, allCell, isCell, okVal, okCell, cellsOf, fillN, rowsN, cellsN, bnd, lohi, offAt, overL, segL, leave, NodeOK, List.cons_append, List.nil_append, List.append_nil, catA, anys, lenA])
  (repeat (with_reducible refine And.intro ?_ ?_; focus (simp; done)))
  ((repeat (with_reducible refine And.intro ?_ ?_; focus (simp; done))); refine ⟨[], rfl, _, _, ?_, ?_, rfl, rfl⟩ <;> simp [Wk, mtc, mtcS, mtcSL, mtc0, mtc0L, mtcL, mtcO, mtcOs, cutM, takeE, stA, rl, renV, renL, ren1, ren1L, ren, rens, renO, Nat.blt, lenO, getO, setO, setL, anys, okS, endM, endH, idxN, takeE, pickE, catO, rl, renV, renL, ren1, ren1L, ren, rens, renO, Nat.blt, lenO, getO, setO, setL, anys, lk0])
theorem merge0 (all : List (List En)) (ha : Few all) (base term n : Int) (hb : 0 ≤ base ∧ base ≤ 4611686018427387904) : ACalls Try.prog 39 [.int .u64 base, .int .u64 term, .int .i64 n, .ro 1 (listsR all)] [] (fun r hs => r = .own 0 ∧ hs = [.grow 72 10 ((mrgL all.flatten base term n).map enR)]) := by
  have hW : WOK 63 base (wantM base) := fun i _ => merge1_c base i
  have hMM := many_le all.flatten base
  refine acalls_weak (acalls_of (fn := Try.f39) (A := a39) Try.func39 ok_39 en_39 ?_)
  dsimp only [a39, enA]
  (refine eval_sound 2000 _ _ _ ?_; simp (maxSteps := 1000000) only [ptrL, lenV, Bool.not_true, Bool.not_false, lookR, valOf, asGrow, jump, findA, restA, and, Nat.reduceAdd, Nat.reduceSub, Nat.reduceMul, Int.reduceToNat, eval, nf, nfO, opN, appTo, rowsV, getL, setL, getO, setO, snocO, lenO, putL, ev, evs, ifEq, killV, killL, kill1, kill1L, kill, kills, killO, killOs, bin, binI, binS, binB, eq1, eqB, lit, sameK, kn, unI, mxA, mnA, mkAgg, fits, partN, partA, resN, retV, allVal, isVal, allCell, isCell, okVal, okCell, cellsOf, fillN, rowsN, cellsN, bnd, lohi, offAt, overL, segL, leave, NodeOK, List.cons_append, List.nil_append, List.append_nil, catA, anys, lenA])
  ((repeat (with_reducible refine And.intro ?_ ?_; focus (simp; done))); refine aw_call (better_c all 63 base (wantM base) hW ha) [1, 0] rfl (by simp [upM, nthN, matchO, rens, ren, ren1, ren1L, renL, renV, renO, rl, lenO, getO, Nat.blt, mtc, mtcS, mtcSL, mtc0, mtc0L, enA]) rfl (by simp [upM, nthN, matchO, rens, ren, ren1, ren1L, renL, renV, renO, rl, lenO, getO, Nat.blt, mtc, mtcS, mtcSL, mtc0, mtc0L, enA]) rfl (fun r hs hp hl => ?_); obtain ⟨M, hM, rfl, rfl⟩ := hp; simp only [snocO, upM, nthN, putAll, snocAll, killsA, killOsA, grows, putL, rl, renV, renL, ren1, ren1L, ren, rens, renO, Nat.blt, lenO, getO, setO, setL, anys, enA]; (refine eval_sound 2000 _ _ _ ?_; simp (maxSteps := 1000000) only [ptrL, lenV, Bool.not_true, Bool.not_false, lookR, valOf, asGrow, jump, findA, restA, and, Nat.reduceAdd, Nat.reduceSub, Nat.reduceMul, Int.reduceToNat, eval, nf, nfO, opN, appTo, rowsV, getL, setL, getO, setO, snocO, lenO, putL, ev, evs, ifEq, killV, killL, kill1, kill1L, kill, kills, killO, killOs, bin, binI, binS, binB, eq1, eqB, lit, sameK, kn, unI, mxA, mnA, mkAgg, fits, partN, partA, resN, retV, allVal, isVal, allCell, isCell, okVal, okCell, cellsOf, fillN, rowsN, cellsN, bnd, lohi, offAt, overL, segL, leave, NodeOK, List.cons_append, List.nil_append, List.append_nil, catA, anys, lenA]))
  unfold mrgL
  generalize hLL : all.flatten = L at *
  have hok : ∀ o ∈ L, EnOK o := fun o ho => ha.ok o (by rw [hLL]; exact ho)
  have hkey : ∀ e ∈ M.es, base < e.2.1 ∧ e.2.1 ≤ base + 192 ∧ (best L e.2.1).isSome = true := by
    rintro ⟨b, ix, v⟩ he
    have h1 := hM ix
    rw [Mp.look_of he] at h1
    unfold mF at h1
    split at h1
    · rename_i hw
      cases hb2 : best L ix with
      | none => rw [show bestF L ix L = best L ix from rfl, hb2] at h1; simp at h1
      | some o =>
        obtain ⟨ho1, ho2⟩ := best_mem hb2
        have hu := (hok o ho1).i
        rw [ho2] at hu
        obtain ⟨w1, w2⟩ := (wantM_eq hb hu).1 hw
        exact ⟨w1, w2, rfl⟩
    · simp at h1
  have hlook : ∀ k : Nat, k < 192 → M.look (base + 1 + k) = (best L (base + 1 + k)).map enV := by
    intro k hk
    rw [hM]
    unfold mF
    rw [if_pos ((wantM_eq hb ⟨by omega, by omega⟩).2 ⟨by omega, by omega⟩)]
    rfl
  have hnd := M.nd
  refine aw_loopU (α := List Nat × Nat) (fun s => s.2 ≤ 192 ∧ (∀ e ∈ M.es, e.1 ∈ s.1 → e.2.1 ≤ base + s.2) ∧ (s.2 = 0 ∨ 1 ≤ s.2 ∧ (best L (base + s.2)).isSome = true) ∧ s.1.Nodup ∧ (∀ x ∈ s.1, x ∈ M.es.map (·.1))) (fun s => [(10, .int .i64 s.2)]) (fun s => [(2, .iter (.mp 1) M.clock s.1)]) (fun s => M.es.length - s.1.length) (([], 0)) (⟨by omega, by simp, .inl rfl, by simp, by simp⟩) ?_ fun q hq => ?_
  · (simp only [wrC, wrOs, keepT, memN, setsL, setsO, setL, setO, snocO, List.cons_append, List.nil_append, List.append_nil, Nat.reduceAdd, Nat.zero_add, Wk, mtc, mtcS, mtcSL, mtc0, mtc0L, mtcL, mtcO, mtcOs, cutM, takeE, stA, rl, renV, renL, ren1, ren1L, ren, rens, renO, Nat.blt, lenO, getO, setO, setL, anys, enA]; simp [enA])
  obtain ⟨seen, mx⟩ := q
  obtain ⟨hq1, hq2, hq3, hq4, hq5⟩ := hq
  simp only [] at hq1 hq2 hq3 hq4 hq5
  (simp only [wrC, wrOs, keepT, memN, setsL, setsO, setL, setO, snocO, List.cons_append, List.nil_append, List.append_nil, Nat.reduceAdd, Nat.zero_add, enA]; (refine eval_sound 2000 _ _ _ ?_; simp (maxSteps := 1000000) only [ptrL, lenV, Bool.not_true, Bool.not_false, lookR, valOf, asGrow, jump, findA, restA, and, Nat.reduceAdd, Nat.reduceSub, Nat.reduceMul, Int.reduceToNat, eval, nf, nfO, opN, appTo, rowsV, getL, setL, getO, setO, snocO, lenO, putL, ev, evs, ifEq, killV, killL, kill1, kill1L, kill, kills, killO, killOs, bin, binI, binS, binB, eq1, eqB, lit, sameK, kn, unI, mxA, mnA, mkAgg, fits, partN, partA, resN, retV, allVal, isVal, allCell, isCell, okVal, okCell, cellsOf, fillN, rowsN, cellsN, bnd, lohi, offAt, overL, segL, leave, NodeOK, List.cons_append, List.nil_append, List.append_nil, catA, anys, lenA]))
  refine ⟨trivial, fun e he hne => ?_, fun hall => ?_⟩
  · obtain ⟨k1, k2, k3⟩ := hkey e he
    obtain ⟨d, hd⟩ : ∃ d : Nat, e.2.1 = base + d := ⟨(e.2.1 - base).toNat, by omega⟩
    have hnd2 : (seen ++ [e.1]).Nodup := by
      rw [List.nodup_append]
      exact ⟨hq4, by simp, fun a ha b hb2 => by simp at hb2; subst hb2; exact fun h => hne (h ▸ ha)⟩
    have hin2 : ∀ x ∈ seen ++ [e.1], x ∈ M.es.map (·.1) := fun x hx => by
      rcases List.mem_append.1 hx with h | h
      · exact hq5 x h
      · simp at h; subst h; exact List.mem_map_of_mem he
    have hsub := nd_len _ _ hnd2 hin2
    (refine eval_sound 2000 _ _ _ ?_; simp (maxSteps := 1000000) only [ptrL, lenV, Bool.not_true, Bool.not_false, lookR, valOf, asGrow, jump, findA, restA, and, Nat.reduceAdd, Nat.reduceSub, Nat.reduceMul, Int.reduceToNat, eval, nf, nfO, opN, appTo, rowsV, getL, setL, getO, setO, snocO, lenO, putL, ev, evs, ifEq, killV, killL, kill1, kill1L, kill, kills, killO, killOs, bin, binI, binS, binB, eq1, eqB, lit, sameK, kn, unI, mxA, mnA, mkAgg, fits, partN, partA, resN, retV, allVal, isVal, allCell, isCell, okVal, okCell, cellsOf, fillN, rowsN, cellsN, bnd, lohi, offAt, overL, segL, leave, NodeOK, List.cons_append, List.nil_append, List.append_nil, catA, anys, lenA])
    (repeat (with_reducible refine And.intro ?_ ?_; focus (simp; done)))
    refine ⟨e, he, seen, rfl, ?_⟩
    (refine eval_sound 2000 _ _ _ ?_; simp (maxSteps := 1000000) only [ptrL, lenV, Bool.not_true, Bool.not_false, lookR, valOf, asGrow, jump, findA, restA, and, Nat.reduceAdd, Nat.reduceSub, Nat.reduceMul, Int.reduceToNat, eval, nf, nfO, opN, appTo, rowsV, getL, setL, getO, setO, snocO, lenO, putL, ev, evs, ifEq, killV, killL, kill1, kill1L, kill, kills, killO, killOs, bin, binI, binS, binB, eq1, eqB, lit, sameK, kn, unI, mxA, mnA, mkAgg, fits, partN, partA, resN, retV, allVal, isVal, allCell, isCell, okVal, okCell, cellsOf, fillN, rowsN, cellsN, bnd, lohi, offAt, overL, segL, leave, NodeOK, List.cons_append, List.nil_append, List.append_nil, catA, anys, lenA])
    (repeat (with_reducible refine And.intro ?_ ?_; focus (simp; done)))
    rw [hd, show base + (d : Int) - base = d by omega, wru (n := (d : Int)) (by omega) (by omega), wr64 (n := (d : Int)) (by omega) (by omega)]
    rw [hd] at k3
    refine ⟨(seen ++ [e.1], max mx d), ⟨?_, ?_, ?_, hnd2, hin2⟩, ?_, ?_⟩
    · simp only []; omega
    · intro e2 he2 hin
      simp only [] at hin ⊢
      rcases List.mem_append.1 hin with h | h
      · have := hq2 e2 he2 h; omega
      · have h0 : e2.1 = e.1 := by simpa using h
        obtain ⟨b1, n1, v1⟩ := e
        obtain ⟨b2, n2, v2⟩ := e2
        simp only [] at h0 hd ⊢
        subst h0
        have := Mp.stamp_key hnd he he2
        omega
    · simp only []
      rcases Nat.le_total d mx with h | h
      · rw [Nat.max_eq_left h]; exact hq3
      · rw [Nat.max_eq_right h]; exact .inr ⟨by omega, k3⟩
    · simp only [List.length_append, List.length_singleton, List.length_map] at hsub ⊢; omega
    · rw [show (if (d : Int) > (mx : Int) then (d : Int) else (mx : Int)) = ((max mx d : Nat) : Int) by split <;> omega]
      (simp only [wrC, wrOs, keepT, memN, setsL, setsO, setL, setO, snocO, List.cons_append, List.nil_append, List.append_nil, Nat.reduceAdd, Nat.zero_add, Wk, mtc, mtcS, mtcSL, mtc0, mtc0L, mtcL, mtcO, mtcOs, cutM, takeE, stA, rl, renV, renL, ren1, ren1L, ren, rens, renO, Nat.blt, lenO, getO, setO, setL, anys, enA]; simp [enA])
  · have hmx : many L base = mx := many_eq (fun j h1 h2 h3 => by
      have hw : wantM base (base + j) = true := (wantM_eq hb ⟨by omega, by omega⟩).2 ⟨by omega, by omega⟩
      have h4 := hM (base + j)
      unfold mF at h4
      rw [if_pos hw] at h4
      obtain ⟨o, ho⟩ := Option.isSome_iff_exists.1 h3
      rw [show bestF L (base + (j : Int)) L = best L (base + j) from rfl, ho] at h4
      obtain ⟨b, hb3⟩ := Mp.look_some h4
      have := hq2 _ hb3 (hall _ hb3)
      simp only [] at this
      omega) (by rcases hq3 with h | ⟨h1, h2⟩
                 · exact .inl h
                 · exact .inr ⟨h1, hq1, h2⟩)
    clear hq2 hq3 hq4 hq5 hall hkey
    (refine eval_sound 2000 _ _ _ ?_; simp (maxSteps := 1000000) only [ptrL, lenV, Bool.not_true, Bool.not_false, lookR, valOf, asGrow, jump, findA, restA, and, Nat.reduceAdd, Nat.reduceSub, Nat.reduceMul, Int.reduceToNat, eval, nf, nfO, opN, appTo, rowsV, getL, setL, getO, setO, snocO, lenO, putL, ev, evs, ifEq, killV, killL, kill1, kill1L, kill, kills, killO, killOs, bin, binI, binS, binB, eq1, eqB, lit, sameK, kn, unI, mxA, mnA, mkAgg, fits, partN, partA, resN, retV, allVal, isVal, allCell, isCell, okVal, okCell, cellsOf, fillN, rowsN, cellsN, bnd, lohi, offAt, overL, segL, leave, NodeOK, List.cons_append, List.nil_append, List.append_nil, catA, anys, lenA])
    (repeat (with_reducible refine And.intro ?_ ?_; focus (simp; done)))
    refine aw_trans (trans_nil 8 72 10 (by simp) rfl) ?_
    simp only [lenO, snocO, setL]
    (refine eval_sound 2000 _ _ _ ?_; simp (maxSteps := 1000000) only [ptrL, lenV, Bool.not_true, Bool.not_false, lookR, valOf, asGrow, jump, findA, restA, and, Nat.reduceAdd, Nat.reduceSub, Nat.reduceMul, Int.reduceToNat, eval, nf, nfO, opN, appTo, rowsV, getL, setL, getO, setO, snocO, lenO, putL, ev, evs, ifEq, killV, killL, kill1, kill1L, kill, kills, killO, killOs, bin, binI, binS, binB, eq1, eqB, lit, sameK, kn, unI, mxA, mnA, mkAgg, fits, partN, partA, resN, retV, allVal, isVal, allCell, isCell, okVal, okCell, cellsOf, fillN, rowsN, cellsN, bnd, lohi, offAt, overL, segL, leave, NodeOK, List.cons_append, List.nil_append, List.append_nil, catA, anys, lenA])
    rw [hmx]
    refine aw_loopU (α := Nat) (fun k => k ≤ mx) (fun k => [(8, .own 3), (35, .int .i64 k)]) (fun k => [(3, .grow 72 10 ((mrgT L base term n mx k).map enR))]) (fun k => mx - k) (0) (Nat.zero_le _) ?_ fun k hk => ?_
    · (simp only [wrC, wrOs, keepT, memN, setsL, setsO, setL, setO, snocO, List.cons_append, List.nil_append, List.append_nil, Nat.reduceAdd, Nat.zero_add, Wk, mtc, mtcS, mtcSL, mtc0, mtc0L, mtcL, mtcO, mtcOs, cutM, takeE, stA, rl, renV, renL, ren1, ren1L, ren, rens, renO, Nat.blt, lenO, getO, setO, setL, anys, enA, mrgT]; simp [enA, mrgT])
    (simp only [wrC, wrOs, keepT, memN, setsL, setsO, setL, setO, snocO, List.cons_append, List.nil_append, List.append_nil, Nat.reduceAdd, Nat.zero_add, enA]; (refine eval_sound 2000 _ _ _ ?_; simp (maxSteps := 1000000) only [ptrL, lenV, Bool.not_true, Bool.not_false, lookR, valOf, asGrow, jump, findA, restA, and, Nat.reduceAdd, Nat.reduceSub, Nat.reduceMul, Int.reduceToNat, eval, nf, nfO, opN, appTo, rowsV, getL, setL, getO, setO, snocO, lenO, putL, ev, evs, ifEq, killV, killL, kill1, kill1L, kill, kills, killO, killOs, bin, binI, binS, binB, eq1, eqB, lit, sameK, kn, unI, mxA, mnA, mkAgg, fits, partN, partA, resN, retV, allVal, isVal, allCell, isCell, okVal, okCell, cellsOf, fillN, rowsN, cellsN, bnd, lohi, offAt, overL, segL, leave, NodeOK, List.cons_append, List.nil_append, List.append_nil, catA, anys, lenA]))
    simp only [decide_eq_true_eq, decide_eq_false_iff_not]
    refine ⟨fun h1 => ?_, fun h1 => ?_⟩
    · have hk2 : k < mx := by omega
      have hlen := mrgT_len L base term n mx k
      have hmk := make_c (mrgT L base term n mx k) n (by omega)
      have hrl := rowL_len (mrgT L base term n mx k) n
      have w2 : IntKind.u64.wrap (IntKind.u64.wrap (base + 1) + IntKind.u64.wrap k) = base + 1 + k := by rw [wru (n := base + 1) (by omega) (by omega), wru (n := (k : Int)) (by omega) (by omega), wru (by omega) (by omega)]
      have w3 : IntKind.u64.wrap (IntKind.u64.wrap (base + IntKind.u64.wrap mx) + 1) = base + mx + 1 := by rw [wru (n := (mx : Int)) (by omega) (by omega), wru (n := base + (mx : Int)) (by omega) (by omega), wru (by omega) (by omega)]
      have w4 : IntKind.i64.wrap ((k : Int) + 1) = ((k + 1 : Nat) : Int) := by rw [wr64 (by omega) (by omega)]; rfl
      have hlk := hlook k (by omega)
      rw [w2, hlk]
      have hE : mrgT L base term n mx (k + 1) = mrgT L base term n mx k ++ [mrgE L base term n mx (mrgT L base term n mx k) k] := rfl
      unfold mrgE at hE
      generalize mrgT L base term n mx k = out at *
      cases hbest : best L (base + 1 + (k : Int)) with
      | none =>
        rw [hbest] at hE
        refine ⟨fun v hv => by simp at hv, fun _ => ?_⟩
        (refine eval_sound 2000 _ _ _ ?_; simp (maxSteps := 1000000) only [ptrL, lenV, Bool.not_true, Bool.not_false, lookR, valOf, asGrow, jump, findA, restA, and, Nat.reduceAdd, Nat.reduceSub, Nat.reduceMul, Int.reduceToNat, eval, nf, nfO, opN, appTo, rowsV, getL, setL, getO, setO, snocO, lenO, putL, ev, evs, ifEq, killV, killL, kill1, kill1L, kill, kills, killO, killOs, bin, binI, binS, binB, eq1, eqB, lit, sameK, kn, unI, mxA, mnA, mkAgg, fits, partN, partA, resN, retV, allVal, isVal, allCell, isCell, okVal, okCell, cellsOf, fillN, rowsN, cellsN, bnd, lohi, offAt, overL, segL, leave, NodeOK, List.cons_append, List.nil_append, List.append_nil, catA, anys, lenA])
        rw [w3]
        ((repeat (with_reducible refine And.intro ?_ ?_; focus (simp; done))); refine aw_call (noop_c (base + 1 + k) term (base + mx + 1)) [] rfl (by simp [upM, nthN, matchO, rens, ren, ren1, ren1L, renL, renV, renO, rl, lenO, getO, Nat.blt, mtc, mtcS, mtcSL, mtc0, mtc0L, enA]) rfl (by simp [upM, nthN, matchO, rens, ren, ren1, ren1L, renL, renV, renO, rl, lenO, getO, Nat.blt, mtc, mtcS, mtcSL, mtc0, mtc0L, enA]) rfl (fun r hs hp hl => ?_); obtain ⟨rfl, rfl⟩ := hp; simp only [snocO, upM, nthN, putAll, snocAll, killsA, killOsA, grows, putL, rl, renV, renL, ren1, ren1L, ren, rens, renO, Nat.blt, lenO, getO, setO, setL, anys, enA]; (refine eval_sound 2000 _ _ _ ?_; simp (maxSteps := 1000000) only [ptrL, lenV, Bool.not_true, Bool.not_false, lookR, valOf, asGrow, jump, findA, restA, and, Nat.reduceAdd, Nat.reduceSub, Nat.reduceMul, Int.reduceToNat, eval, nf, nfO, opN, appTo, rowsV, getL, setL, getO, setO, snocO, lenO, putL, ev, evs, ifEq, killV, killL, kill1, kill1L, kill, kills, killO, killOs, bin, binI, binS, binB, eq1, eqB, lit, sameK, kn, unI, mxA, mnA, mkAgg, fits, partN, partA, resN, retV, allVal, isVal, allCell, isCell, okVal, okCell, cellsOf, fillN, rowsN, cellsN, bnd, lohi, offAt, overL, segL, leave, NodeOK, List.cons_append, List.nil_append, List.append_nil, catA, anys, lenA]))
        (repeat (with_reducible refine And.intro ?_ ?_; focus (simp; done)))
        refine acall_lend 3 _ _ _ rfl hmk rfl (by simp [mtcL, mtc, mtc0, mapA, frz, frz1, frzV, ifEq]) (fun r hs' h => ?_)
        obtain ⟨rfl, rfl⟩ := h
        refine ⟨rfl, fun j hj => ?_, ?_⟩
        · have : j = 0 := by simp [lenO] at hj; exact hj
          subst this
          intro row hrow a ha'
          obtain ⟨x, _, rfl⟩ := List.mem_map.1 hrow
          simp [lkR] at ha'
          rcases ha' with rfl | rfl | rfl | rfl <;> rfl
        simp only [catO, mapO, renO, putL, ren, ren1, renV, rl, lenO, Nat.reduceAdd]
        (refine aw_trans (trans_frz 6 _ _ _ rfl) ?_; simp only [snocO, mapA, frz, frz1, frzV, mapO, frzO, ifEq, setO, getO, getL, setL])
        (refine eval_sound 2000 _ _ _ ?_; simp (maxSteps := 1000000) only [ptrL, lenV, Bool.not_true, Bool.not_false, lookR, valOf, asGrow, jump, findA, restA, and, Nat.reduceAdd, Nat.reduceSub, Nat.reduceMul, Int.reduceToNat, eval, nf, nfO, opN, appTo, rowsV, getL, setL, getO, setO, snocO, lenO, putL, ev, evs, ifEq, killV, killL, kill1, kill1L, kill, kills, killO, killOs, bin, binI, binS, binB, eq1, eqB, lit, sameK, kn, unI, mxA, mnA, mkAgg, fits, partN, partA, resN, retV, allVal, isVal, allCell, isCell, okVal, okCell, cellsOf, fillN, rowsN, cellsN, bnd, lohi, offAt, overL, segL, leave, NodeOK, List.cons_append, List.nil_append, List.append_nil, catA, anys, lenA])
        rw [w4]
        (repeat (with_reducible refine And.intro ?_ ?_; focus (simp; done)))
        refine ⟨by simp; omega, k + 1, by omega, by omega, ?_⟩
        rw [hE]
        (simp only [wrC, wrOs, keepT, memN, setsL, setsO, setL, setO, snocO, List.cons_append, List.nil_append, List.append_nil, Nat.reduceAdd, Nat.zero_add, Wk, mtc, mtcS, mtcSL, mtc0, mtc0L, mtcL, mtcO, mtcOs, cutM, takeE, stA, rl, renV, renL, ren1, ren1L, ren, rens, renO, Nat.blt, lenO, getO, setO, setL, anys, enA, enR, lk0, List.map_append]; simp [enA, enR, lk0, List.map_append])
      | some e =>
        rw [hbest] at hE
        refine ⟨fun v hv => ?_, fun h => by simp at h⟩
        have hv2 : v = enV e := by simpa using hv.symm
        subst hv2
        simp only [enV]
        (refine eval_sound 2000 _ _ _ ?_; simp (maxSteps := 1000000) only [ptrL, lenV, Bool.not_true, Bool.not_false, lookR, valOf, asGrow, jump, findA, restA, and, Nat.reduceAdd, Nat.reduceSub, Nat.reduceMul, Int.reduceToNat, eval, nf, nfO, opN, appTo, rowsV, getL, setL, getO, setO, snocO, lenO, putL, ev, evs, ifEq, killV, killL, kill1, kill1L, kill, kills, killO, killOs, bin, binI, binS, binB, eq1, eqB, lit, sameK, kn, unI, mxA, mnA, mkAgg, fits, partN, partA, resN, retV, allVal, isVal, allCell, isCell, okVal, okCell, cellsOf, fillN, rowsN, cellsN, bnd, lohi, offAt, overL, segL, leave, NodeOK, List.cons_append, List.nil_append, List.append_nil, catA, anys, lenA])
        rw [w3]
        ((repeat (with_reducible refine And.intro ?_ ?_; focus (simp; done))); refine aw_call (noop_c (base + 1 + k) term (base + mx + 1)) [] rfl (by simp [upM, nthN, matchO, rens, ren, ren1, ren1L, renL, renV, renO, rl, lenO, getO, Nat.blt, mtc, mtcS, mtcSL, mtc0, mtc0L, enA]) rfl (by simp [upM, nthN, matchO, rens, ren, ren1, ren1L, renL, renV, renO, rl, lenO, getO, Nat.blt, mtc, mtcS, mtcSL, mtc0, mtc0L, enA]) rfl (fun r hs hp hl => ?_); obtain ⟨rfl, rfl⟩ := hp; simp only [snocO, upM, nthN, putAll, snocAll, killsA, killOsA, grows, putL, rl, renV, renL, ren1, ren1L, ren, rens, renO, Nat.blt, lenO, getO, setO, setL, anys, enA]; (refine eval_sound 2000 _ _ _ ?_; simp (maxSteps := 1000000) only [ptrL, lenV, Bool.not_true, Bool.not_false, lookR, valOf, asGrow, jump, findA, restA, and, Nat.reduceAdd, Nat.reduceSub, Nat.reduceMul, Int.reduceToNat, eval, nf, nfO, opN, appTo, rowsV, getL, setL, getO, setO, snocO, lenO, putL, ev, evs, ifEq, killV, killL, kill1, kill1L, kill, kills, killO, killOs, bin, binI, binS, binB, eq1, eqB, lit, sameK, kn, unI, mxA, mnA, mkAgg, fits, partN, partA, resN, retV, allVal, isVal, allCell, isCell, okVal, okCell, cellsOf, fillN, rowsN, cellsN, bnd, lohi, offAt, overL, segL, leave, NodeOK, List.cons_append, List.nil_append, List.append_nil, catA, anys, lenA]))
        ((repeat (with_reducible refine And.intro ?_ ?_; focus (simp; done))); refine aw_call (again2_c e (base + 1 + k) term (base + mx + 1)) [] rfl (by simp [upM, nthN, matchO, rens, ren, ren1, ren1L, renL, renV, renO, rl, lenO, getO, Nat.blt, mtc, mtcS, mtcSL, mtc0, mtc0L, enA]) rfl (by simp [upM, nthN, matchO, rens, ren, ren1, ren1L, renL, renV, renO, rl, lenO, getO, Nat.blt, mtc, mtcS, mtcSL, mtc0, mtc0L, enA]) rfl (fun r hs hp hl => ?_); obtain ⟨rfl, rfl⟩ := hp; simp only [snocO, upM, nthN, putAll, snocAll, killsA, killOsA, grows, putL, rl, renV, renL, ren1, ren1L, ren, rens, renO, Nat.blt, lenO, getO, setO, setL, anys, enA]; (refine eval_sound 2000 _ _ _ ?_; simp (maxSteps := 1000000) only [ptrL, lenV, Bool.not_true, Bool.not_false, lookR, valOf, asGrow, jump, findA, restA, and, Nat.reduceAdd, Nat.reduceSub, Nat.reduceMul, Int.reduceToNat, eval, nf, nfO, opN, appTo, rowsV, getL, setL, getO, setO, snocO, lenO, putL, ev, evs, ifEq, killV, killL, kill1, kill1L, kill, kills, killO, killOs, bin, binI, binS, binB, eq1, eqB, lit, sameK, kn, unI, mxA, mnA, mkAgg, fits, partN, partA, resN, retV, allVal, isVal, allCell, isCell, okVal, okCell, cellsOf, fillN, rowsN, cellsN, bnd, lohi, offAt, overL, segL, leave, NodeOK, List.cons_append, List.nil_append, List.append_nil, catA, anys, lenA]))
        (repeat (with_reducible refine And.intro ?_ ?_; focus (simp; done)))
        refine acall_lend 3 _ _ _ rfl hmk rfl (by simp [mtcL, mtc, mtc0, mapA, frz, frz1, frzV, ifEq]) (fun r hs' h => ?_)
        obtain ⟨rfl, rfl⟩ := h
        refine ⟨rfl, fun j hj => ?_, ?_⟩
        · have : j = 0 := by simp [lenO] at hj; exact hj
          subst this
          intro row hrow a ha'
          obtain ⟨x, _, rfl⟩ := List.mem_map.1 hrow
          simp [lkR] at ha'
          rcases ha' with rfl | rfl | rfl | rfl <;> rfl
        simp only [catO, mapO, renO, putL, ren, ren1, renV, rl, lenO, Nat.reduceAdd]
        (refine aw_trans (trans_frz 6 _ _ _ rfl) ?_; simp only [snocO, mapA, frz, frz1, frzV, mapO, frzO, ifEq, setO, getO, getL, setL])
        (refine eval_sound 2000 _ _ _ ?_; simp (maxSteps := 1000000) only [ptrL, lenV, Bool.not_true, Bool.not_false, lookR, valOf, asGrow, jump, findA, restA, and, Nat.reduceAdd, Nat.reduceSub, Nat.reduceMul, Int.reduceToNat, eval, nf, nfO, opN, appTo, rowsV, getL, setL, getO, setO, snocO, lenO, putL, ev, evs, ifEq, killV, killL, kill1, kill1L, kill, kills, killO, killOs, bin, binI, binS, binB, eq1, eqB, lit, sameK, kn, unI, mxA, mnA, mkAgg, fits, partN, partA, resN, retV, allVal, isVal, allCell, isCell, okVal, okCell, cellsOf, fillN, rowsN, cellsN, bnd, lohi, offAt, overL, segL, leave, NodeOK, List.cons_append, List.nil_append, List.append_nil, catA, anys, lenA])
        rw [w4]
        (repeat (with_reducible refine And.intro ?_ ?_; focus (simp; done)))
        refine ⟨by simp; omega, k + 1, by omega, by omega, ?_⟩
        rw [hE]
        (simp only [wrC, wrOs, keepT, memN, setsL, setsO, setL, setO, snocO, List.cons_append, List.nil_append, List.append_nil, Nat.reduceAdd, Nat.zero_add, Wk, mtc, mtcS, mtcSL, mtc0, mtc0L, mtcL, mtcO, mtcOs, cutM, takeE, stA, rl, renV, renL, ren1, ren1L, ren, rens, renO, Nat.blt, lenO, getO, setO, setL, anys, enA, enR, lk0, List.map_append]; simp [enA, enR, lk0, List.map_append])
    · have hk2 : k = mx := by omega
      subst hk2
      refine ⟨[3], rfl, _, _, ?_, ?_, rfl, rfl⟩ <;> simp [Wk, mtc, mtcS, mtcSL, mtc0, mtc0L, mtcL, mtcO, mtcOs, cutM, takeE, stA, rl, renV, renL, ren1, ren1L, ren, rens, renO, Nat.blt, lenO, getO, setO, setL, anys, okS, endM, endH, idxN, takeE, pickE, catO, rl, renV, renL, ren1, ren1L, ren, rens, renO, Nat.blt, lenO, getO, setO, setL, anys]
theorem merge_c (all : List (List En)) (ha : Few all) (base term n : Int) (hb : 0 ≤ base ∧ base ≤ 4611686018427387904) : ACalls Try.prog 39 [.int .u64 base, .int .u64 term, .int .i64 n, .ro 1 (listsR all)] [] (fun r hs => r = .ro 10 ((mrgL all.flatten base term n).map enR) ∧ hs = []) := by
  (refine acalls_tr (merge0 all ha base term n hb) fun r hs h => ?_; obtain ⟨rfl, rfl⟩ := h; exact ⟨_, _, _, _, _, trans_frz 0 _ _ _ rfl, by simp [snocO, mapA, frz, frz1, frzV, mapO, frzO, ifEq, setO, getO, getL, setL, Wk, mtc, mtcS, mtcSL, mtc0, mtc0L, mtcL, mtcO, mtcOs, cutM, takeE, stA, rl, renV, renL, ren1, ren1L, ren, rens, renO, Nat.blt, lenO, getO, setO, setL, anys, frz, frz1, frzV, frzO, enA], rfl, rfl⟩)
end Go.Proofs.Ytjkmnmpjcdanhaa.S
