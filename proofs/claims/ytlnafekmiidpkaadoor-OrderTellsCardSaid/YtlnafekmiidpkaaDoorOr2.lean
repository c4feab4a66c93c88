/- Contracts of order: the least one that may be done. -/
import Derived.Test.YtlnafekmiidpkaaDoorOr1
namespace Go.Proofs.YtlnafekmiidpkaaDoor.S
set_option linter.all false
set_option maxRecDepth 100000
set_option maxHeartbeats 2000000
def candB (l : List En) (a d : Mk) (x : Nat) : Bool := decide (0 < x) && (hasM a x && (!hasM d x && (decide ((setM d x).2 = 0) && (match firstE l x with | some e => mayB e d | none => false))))
def stepN (l : List En) (a d : Mk) (best x : Nat) : Nat := if (candB l a d x && (decide (best = 0) || decide (x < best))) = true then x else best
def nextN (l : List En) (a d : Mk) (k : Nat) : Nat := (l.take k).foldl (fun b e => stepN l a d b e.i.toNat) 0
theorem nextN_succ {l : List En} (a d : Mk) {k : Nat} {y : En} (h : l[k]? = some y) : nextN l a d (k + 1) = stepN l a d (nextN l a d k) y.i.toNat := by
  unfold nextN
  rw [List.take_add_one, h, List.foldl_append]
  rfl
theorem nextN_le (l : List En) (a d : Mk) : ∀ k, k ≤ l.length → ∀ e ∈ l.take k, candB l a d e.i.toNat = true → nextN l a d k ≠ 0 ∧ nextN l a d k ≤ e.i.toNat
  | 0, _, e, h, _ => by simp at h
  | k + 1, hk, e, h, hc => by
    obtain ⟨y, hy⟩ : ∃ y, l[k]? = some y := ⟨_, List.getElem?_eq_getElem (by omega)⟩
    have hs := nextN_succ a d hy
    have ih := nextN_le l a d k (by omega)
    rw [List.take_add_one, hy] at h
    have hpos : candB l a d y.i.toNat = true → 0 < y.i.toNat := fun h => by
      unfold candB at h; rw [Bool.and_eq_true, decide_eq_true_eq] at h; exact h.1
    rcases List.mem_append.1 h with h | h
    · obtain ⟨i1, i2⟩ := ih e h hc
      rw [hs]; unfold stepN
      split
      · rename_i q
        rw [Bool.and_eq_true, Bool.or_eq_true, decide_eq_true_eq, decide_eq_true_eq] at q
        have := hpos q.1
        omega
      · exact ⟨i1, i2⟩
    · simp at h
      subst h
      have := hpos hc
      rw [hs]; unfold stepN
      rw [hc, Bool.true_and]
      split
      · omega
      · rename_i q
        rw [Bool.or_eq_true, decide_eq_true_eq, decide_eq_true_eq] at q
        omega
def seenB (l : List En) (a d : Mk) (k : Nat) (x : Int) : Bool := (l.take k).any fun e => e.i == x && (hasM a e.i.toNat && !hasM d e.i.toNat)
theorem seenB_succ {l : List En} (a d : Mk) {k : Nat} {y : En} (h : l[k]? = some y) (x : Int) : seenB l a d (k + 1) x = (seenB l a d k x || (y.i == x && (hasM a y.i.toNat && !hasM d y.i.toNat))) := by
  unfold seenB
  rw [List.take_add_one, h, List.any_append]
  simp
/-- One that is skipped changes nothing. -/
theorem next_skip {l : List En} {a d : Mk} {k : Nat} {y : En} (hk : k < l.length) (h : l[k]? = some y) (hc : seenB l a d k y.i = true ∨ hasM a y.i.toNat = false ∨ hasM d y.i.toNat = true) : nextN l a d (k + 1) = nextN l a d k ∧ ∀ x, seenB l a d (k + 1) x = seenB l a d k x := by
  rcases hc with hc | hc
  · constructor
    · rw [nextN_succ a d h]
      unfold stepN
      rw [if_neg]
      intro q
      rw [Bool.and_eq_true, Bool.or_eq_true, decide_eq_true_eq, decide_eq_true_eq] at q
      unfold seenB at hc
      rw [List.any_eq_true] at hc
      obtain ⟨e, he, h2⟩ := hc
      rw [Bool.and_eq_true, beq_iff_eq] at h2
      have := nextN_le l a d k (by omega) e he (by rw [h2.1]; exact q.1)
      rw [h2.1] at this
      omega
    · intro x
      rw [seenB_succ a d h]
      by_cases e : y.i = x
      · rw [← e, hc]; rfl
      · rw [show (y.i == x) = false by simpa using e, Bool.false_and, Bool.or_false]
  · have hcd : (hasM a y.i.toNat && !hasM d y.i.toNat) = false := by
      rcases hc with hc | hc <;> simp [hc]
    constructor
    · rw [nextN_succ a d h]
      unfold stepN candB
      rw [if_neg]
      intro q
      rw [Bool.and_eq_true, Bool.and_eq_true, Bool.and_eq_true, Bool.and_eq_true] at q
      rw [q.1.2.1, q.1.2.2.1] at hcd
      cases hcd
    · intro x
      rw [seenB_succ a d h, hcd, Bool.and_false, Bool.or_false]
theorem first_new {l : List En} {a d : Mk} {k : Nat} {y : En} (hk : k < l.length) (h : l[k]? = some y) (h1 : seenB l a d k y.i = false) (h2 : hasM a y.i.toNat = true) (h3 : hasM d y.i.toNat = false) : firstE l y.i = some y := by
  unfold firstE
  have hl : l = l.take k ++ y :: l.drop (k + 1) := by
    have := (List.take_append_drop k l).symm
    rw [List.drop_eq_getElem_cons hk] at this
    rw [List.getElem?_eq_getElem hk] at h
    rw [← Option.some.inj h]
    exact this
  rw [hl, List.find?_append, List.find?_cons]
  have : List.find? (fun e => e.i == y.i) (l.take k) = none := by
    rw [List.find?_eq_none]
    intro e he hc
    unfold seenB at h1
    rw [List.any_eq_false] at h1
    have := h1 e he
    rw [beq_iff_eq] at hc
    rw [hc, h2, h3] at this
    simp at this
  rw [this]
  simp
theorem has_zero (m : Mk) : hasM m 0 = true := has_low (Nat.zero_le _)
theorem rset_eq {m : Mk} (hg : Gd m) (x : Nat) : rsetM m x = setM m x := by
  by_cases h : canSet m x
  · exact (set_ok hg h).2.2.2
  · obtain ⟨h1, h2⟩ := set_no h
    rw [h1, h2]
theorem first_some {l : List En} {y : En} (h : y ∈ l) : ∃ e, firstE l y.i = some e ∧ e ∈ l ∧ e.i = y.i := by
  unfold firstE
  cases hf : l.find? fun e => e.i == y.i with
  | none => rw [List.find?_eq_none] at hf; exact absurd (by simp) (hf y h)
  | some e => exact ⟨e, rfl, List.mem_of_find?_eq_some hf, by simpa using List.find?_some hf⟩
theorem rnext_c (l : List En) (a d : Mk) (hl : l.length ≤ 1000) (hok : ∀ e ∈ l, EnOK e) (ha : MkOK a) (hd : MkOK d) (gd : Gd d) : ACalls Tryd.prog 36 [.ro 10 (l.map enR), mkA a, mkA d] [] (fun r hs => r = .int .u64 (nextN l a d l.length : Nat) ∧ hs = []) := by
  refine acalls_weak (acalls_of (fn := Tryd.f36) (A := a36) Tryd.func36 ok_36 en_36 ?_)
  dsimp only [a36, mkA]
  (refine eval_sound 2000 _ _ _ ?_; simp (maxSteps := 1000000) only [ptrL, lenV, Bool.not_true, Bool.not_false, lookR, valOf, asGrow, jump, findA, restA, and, Nat.reduceAdd, Nat.reduceSub, Nat.reduceMul, Int.reduceToNat, eval, nf, nfO, opN, appTo, rowsV, getL, setL, getO, setO, snocO, lenO, putL, ev, evs, ifEq, killV, killL, kill1, kill1L, kill, kills, killO, killOs, bin, binI, binS, binB, eq1, eqB, lit, sameK, kn, unI, mxA, mnA, mkAgg, fits, partN, partA, resN, retV, allVal, isVal, allCell, isCell, okVal, okCell, cellsOf, fillN, rowsN, cellsN, bnd, lohi, offAt, overL, segL, leave, NodeOK, List.cons_append, List.nil_append, List.append_nil, catA, anys, lenA])
  refine aw_loopU (α := Nat) (fun i => i ≤ l.length) (fun i => [(8, .int .i64 (i : Nat)), (7, .int .u64 (nextN l a d i : Nat))]) (fun i => []) (fun i => l.length - i) (0) (Nat.zero_le _) ?_ fun i hi => ?_
  · rw [show nextN l a d 0 = 0 from rfl]
    (simp only [wrC, wrOs, keepT, memN, setsL, setsO, setL, setO, snocO, List.cons_append, List.nil_append, List.append_nil, Nat.reduceAdd, Nat.zero_add, Wk, mtc, mtcS, mtcSL, mtc0, mtc0L, mtcL, mtcO, mtcOs, cutM, takeE, stA, rl, renV, renL, ren1, ren1L, ren, rens, renO, Nat.blt, lenO, getO, setO, setL, anys, mkA]; simp [mkA])
  (simp only [wrC, wrOs, keepT, memN, setsL, setsO, setL, setO, snocO, List.cons_append, List.nil_append, List.append_nil, Nat.reduceAdd, Nat.zero_add, enA]; (refine eval_sound 2000 _ _ _ ?_; simp (maxSteps := 1000000) only [ptrL, lenV, Bool.not_true, Bool.not_false, lookR, valOf, asGrow, jump, findA, restA, and, Nat.reduceAdd, Nat.reduceSub, Nat.reduceMul, Int.reduceToNat, eval, nf, nfO, opN, appTo, rowsV, getL, setL, getO, setO, snocO, lenO, putL, ev, evs, ifEq, killV, killL, kill1, kill1L, kill, kills, killO, killOs, bin, binI, binS, binB, eq1, eqB, lit, sameK, kn, unI, mxA, mnA, mkAgg, fits, partN, partA, resN, retV, allVal, isVal, allCell, isCell, okVal, okCell, cellsOf, fillN, rowsN, cellsN, bnd, lohi, offAt, overL, segL, leave, NodeOK, List.cons_append, List.nil_append, List.append_nil, catA, anys, lenA]))
  simp only [decide_eq_true_eq, decide_eq_false_iff_not, List.length_map]
  refine ⟨fun h4 => ?_, fun h4 => ?_⟩
  · obtain ⟨y, hy⟩ : ∃ y, l[i]? = some y := ⟨_, List.getElem?_eq_getElem (by omega)⟩
    have wi : IntKind.i64.wrap ((i : Int) + 1) = ((i + 1 : Nat) : Int) := by rw [wr64 (by omega) (by omega)]; rfl
    have hym : y ∈ l := List.mem_of_getElem? hy
    obtain ⟨e, he1, he2, he3⟩ := first_some hym
    have hyi := (hok y hym).i
    have heo := hok e he2
    obtain ⟨x, hx⟩ : ∃ x : Nat, y.i = x := ⟨y.i.toNat, by unfold U64 at hyi; omega⟩
    have hxl : x < 18446744073709551616 := by unfold U64 at hyi; omega
    have c1 := first_c22 l y.i e hl he1
    have c2 := rset_c d x hd gd.l hxl
    rw [rset_eq gd] at c2
    have c3 := rhas_c a x ha hxl
    have c4 := rhas_c d x hd hxl
    have c5 := rmay_c e d heo hd gd
    have hn := nextN_succ a d hy
    have hcand : candB l a d x = (decide (0 < x) && (hasM a x && (!hasM d x && (decide ((setM d x).2 = 0) && mayB e d)))) := by
      unfold candB; rw [← hx, he1]
    rw [hx, Int.toNat_natCast] at hn
    unfold stepN at hn
    rw [hcand] at hn
    rw [hx] at c1
    generalize setM d x = S at *
    obtain ⟨s1, s2⟩ := S
    generalize hasM a x = A at *
    generalize hasM d x = D at *
    generalize mayB e d = M at *
    generalize nextN l a d i = b at *
    simp only [] at c2 hn
    refine ⟨by omega, enR y, by rw [Int.toNat_natCast, List.getElem?_map, hy]; rfl, ?_⟩
    rw [enR_eq y, hx]
    (refine eval_sound 2000 _ _ _ ?_; simp (maxSteps := 1000000) only [ptrL, lenV, Bool.not_true, Bool.not_false, lookR, valOf, asGrow, jump, findA, restA, and, Nat.reduceAdd, Nat.reduceSub, Nat.reduceMul, Int.reduceToNat, eval, nf, nfO, opN, appTo, rowsV, getL, setL, getO, setO, snocO, lenO, putL, ev, evs, ifEq, killV, killL, kill1, kill1L, kill, kills, killO, killOs, bin, binI, binS, binB, eq1, eqB, lit, sameK, kn, unI, mxA, mnA, mkAgg, fits, partN, partA, resN, retV, allVal, isVal, allCell, isCell, okVal, okCell, cellsOf, fillN, rowsN, cellsN, bnd, lohi, offAt, overL, segL, leave, NodeOK, List.cons_append, List.nil_append, List.append_nil, catA, anys, lenA])
    ((repeat (with_reducible refine And.intro ?_ ?_; focus (simp; done))); refine aw_call (c1) [] rfl (by simp [upM, nthN, matchO, rens, ren, ren1, ren1L, renL, renV, renO, rl, lenO, getO, Nat.blt, mtc, mtcS, mtcSL, mtc0, mtc0L, enA]) rfl (by simp [upM, nthN, matchO, rens, ren, ren1, ren1L, renL, renV, renO, rl, lenO, getO, Nat.blt, mtc, mtcS, mtcSL, mtc0, mtc0L, enA]) rfl (fun r hs hp hl => ?_); obtain ⟨rfl, rfl⟩ := hp; simp only [snocO, upM, nthN, putAll, snocAll, killsA, killOsA, grows, putL, rl, renV, renL, ren1, ren1L, ren, rens, renO, Nat.blt, lenO, getO, setO, setL, anys, enA]; (refine eval_sound 2000 _ _ _ ?_; simp (maxSteps := 1000000) only [ptrL, lenV, Bool.not_true, Bool.not_false, lookR, valOf, asGrow, jump, findA, restA, and, Nat.reduceAdd, Nat.reduceSub, Nat.reduceMul, Int.reduceToNat, eval, nf, nfO, opN, appTo, rowsV, getL, setL, getO, setO, snocO, lenO, putL, ev, evs, ifEq, killV, killL, kill1, kill1L, kill, kills, killO, killOs, bin, binI, binS, binB, eq1, eqB, lit, sameK, kn, unI, mxA, mnA, mkAgg, fits, partN, partA, resN, retV, allVal, isVal, allCell, isCell, okVal, okCell, cellsOf, fillN, rowsN, cellsN, bnd, lohi, offAt, overL, segL, leave, NodeOK, List.cons_append, List.nil_append, List.append_nil, catA, anys, lenA]))
    ((repeat (with_reducible refine And.intro ?_ ?_; focus (simp; done))); refine aw_call (c2) [] rfl (by simp [upM, nthN, matchO, rens, ren, ren1, ren1L, renL, renV, renO, rl, lenO, getO, Nat.blt, mtc, mtcS, mtcSL, mtc0, mtc0L, mkA]) rfl (by simp [upM, nthN, matchO, rens, ren, ren1, ren1L, renL, renV, renO, rl, lenO, getO, Nat.blt, mtc, mtcS, mtcSL, mtc0, mtc0L, mkA]) rfl (fun r hs hp hl => ?_); obtain ⟨rfl, rfl⟩ := hp; simp only [snocO, upM, nthN, putAll, snocAll, killsA, killOsA, grows, putL, rl, renV, renL, ren1, ren1L, ren, rens, renO, Nat.blt, lenO, getO, setO, setL, anys, mkA]; (refine eval_sound 2000 _ _ _ ?_; simp (maxSteps := 1000000) only [ptrL, lenV, Bool.not_true, Bool.not_false, lookR, valOf, asGrow, jump, findA, restA, and, Nat.reduceAdd, Nat.reduceSub, Nat.reduceMul, Int.reduceToNat, eval, nf, nfO, opN, appTo, rowsV, getL, setL, getO, setO, snocO, lenO, putL, ev, evs, ifEq, killV, killL, kill1, kill1L, kill, kills, killO, killOs, bin, binI, binS, binB, eq1, eqB, lit, sameK, kn, unI, mxA, mnA, mkAgg, fits, partN, partA, resN, retV, allVal, isVal, allCell, isCell, okVal, okCell, cellsOf, fillN, rowsN, cellsN, bnd, lohi, offAt, overL, segL, leave, NodeOK, List.cons_append, List.nil_append, List.append_nil, catA, anys, lenA]))
    refine ⟨by simp, by simp, rfl, fun p1 => ⟨by simp, ?_⟩, fun p1 => ?_⟩
    · ((repeat (with_reducible refine And.intro ?_ ?_; focus (simp; done))); refine aw_call (c3) [] rfl (by simp [upM, nthN, matchO, rens, ren, ren1, ren1L, renL, renV, renO, rl, lenO, getO, Nat.blt, mtc, mtcS, mtcSL, mtc0, mtc0L, mkA]) rfl (by simp [upM, nthN, matchO, rens, ren, ren1, ren1L, renL, renV, renO, rl, lenO, getO, Nat.blt, mtc, mtcS, mtcSL, mtc0, mtc0L, mkA]) rfl (fun r hs hp hl => ?_); obtain ⟨rfl, rfl⟩ := hp; simp only [snocO, upM, nthN, putAll, snocAll, killsA, killOsA, grows, putL, rl, renV, renL, ren1, ren1L, ren, rens, renO, Nat.blt, lenO, getO, setO, setL, anys, mkA]; (refine eval_sound 2000 _ _ _ ?_; simp (maxSteps := 1000000) only [ptrL, lenV, Bool.not_true, Bool.not_false, lookR, valOf, asGrow, jump, findA, restA, and, Nat.reduceAdd, Nat.reduceSub, Nat.reduceMul, Int.reduceToNat, eval, nf, nfO, opN, appTo, rowsV, getL, setL, getO, setO, snocO, lenO, putL, ev, evs, ifEq, killV, killL, kill1, kill1L, kill, kills, killO, killOs, bin, binI, binS, binB, eq1, eqB, lit, sameK, kn, unI, mxA, mnA, mkAgg, fits, partN, partA, resN, retV, allVal, isVal, allCell, isCell, okVal, okCell, cellsOf, fillN, rowsN, cellsN, bnd, lohi, offAt, overL, segL, leave, NodeOK, List.cons_append, List.nil_append, List.append_nil, catA, anys, lenA]))
      refine ⟨fun p2 => ⟨by simp, ?_⟩, fun p2 => ?_⟩
      · ((repeat (with_reducible refine And.intro ?_ ?_; focus (simp; done))); refine aw_call (c4) [] rfl (by simp [upM, nthN, matchO, rens, ren, ren1, ren1L, renL, renV, renO, rl, lenO, getO, Nat.blt, mtc, mtcS, mtcSL, mtc0, mtc0L, mkA]) rfl (by simp [upM, nthN, matchO, rens, ren, ren1, ren1L, renL, renV, renO, rl, lenO, getO, Nat.blt, mtc, mtcS, mtcSL, mtc0, mtc0L, mkA]) rfl (fun r hs hp hl => ?_); obtain ⟨rfl, rfl⟩ := hp; simp only [snocO, upM, nthN, putAll, snocAll, killsA, killOsA, grows, putL, rl, renV, renL, ren1, ren1L, ren, rens, renO, Nat.blt, lenO, getO, setO, setL, anys, mkA]; (refine eval_sound 2000 _ _ _ ?_; simp (maxSteps := 1000000) only [ptrL, lenV, Bool.not_true, Bool.not_false, lookR, valOf, asGrow, jump, findA, restA, and, Nat.reduceAdd, Nat.reduceSub, Nat.reduceMul, Int.reduceToNat, eval, nf, nfO, opN, appTo, rowsV, getL, setL, getO, setO, snocO, lenO, putL, ev, evs, ifEq, killV, killL, kill1, kill1L, kill, kills, killO, killOs, bin, binI, binS, binB, eq1, eqB, lit, sameK, kn, unI, mxA, mnA, mkAgg, fits, partN, partA, resN, retV, allVal, isVal, allCell, isCell, okVal, okCell, cellsOf, fillN, rowsN, cellsN, bnd, lohi, offAt, overL, segL, leave, NodeOK, List.cons_append, List.nil_append, List.append_nil, catA, anys, lenA]))
        refine ⟨fun p3 => ⟨fun p4 => ?_, fun p4 => ?_⟩, fun p3 => ?_⟩
        · (repeat (with_reducible refine And.intro ?_ ?_; focus (simp; done)))
          ((repeat (with_reducible refine And.intro ?_ ?_; focus (simp; done))); refine aw_call (c5) [] rfl (by simp [upM, nthN, matchO, rens, ren, ren1, ren1L, renL, renV, renO, rl, lenO, getO, Nat.blt, mtc, mtcS, mtcSL, mtc0, mtc0L, mkA, enA]) rfl (by simp [upM, nthN, matchO, rens, ren, ren1, ren1L, renL, renV, renO, rl, lenO, getO, Nat.blt, mtc, mtcS, mtcSL, mtc0, mtc0L, mkA, enA]) rfl (fun r hs hp hl => ?_); obtain ⟨rfl, rfl⟩ := hp; simp only [snocO, upM, nthN, putAll, snocAll, killsA, killOsA, grows, putL, rl, renV, renL, ren1, ren1L, ren, rens, renO, Nat.blt, lenO, getO, setO, setL, anys, mkA, enA]; (refine eval_sound 2000 _ _ _ ?_; simp (maxSteps := 1000000) only [ptrL, lenV, Bool.not_true, Bool.not_false, lookR, valOf, asGrow, jump, findA, restA, and, Nat.reduceAdd, Nat.reduceSub, Nat.reduceMul, Int.reduceToNat, eval, nf, nfO, opN, appTo, rowsV, getL, setL, getO, setO, snocO, lenO, putL, ev, evs, ifEq, killV, killL, kill1, kill1L, kill, kills, killO, killOs, bin, binI, binS, binB, eq1, eqB, lit, sameK, kn, unI, mxA, mnA, mkAgg, fits, partN, partA, resN, retV, allVal, isVal, allCell, isCell, okVal, okCell, cellsOf, fillN, rowsN, cellsN, bnd, lohi, offAt, overL, segL, leave, NodeOK, List.cons_append, List.nil_append, List.append_nil, catA, anys, lenA]))
          refine ⟨fun p5 => ⟨fun p6 => ?_, fun p6 => ⟨fun p7 => ?_, fun p7 => ?_⟩⟩, fun p5 => ?_⟩
          · rw [wi]
            refine ⟨i + 1, by omega, by omega, ?_⟩
            rw [hn, if_pos (by simp at p1 p3 p4 p6; simp [p2, p3, p4, p5, p6]; omega)]
            (simp only [wrC, wrOs, keepT, memN, setsL, setsO, setL, setO, snocO, List.cons_append, List.nil_append, List.append_nil, Nat.reduceAdd, Nat.zero_add, Wk, mtc, mtcS, mtcSL, mtc0, mtc0L, mtcL, mtcO, mtcOs, cutM, takeE, stA, rl, renV, renL, ren1, ren1L, ren, rens, renO, Nat.blt, lenO, getO, setO, setL, anys, mkA]; simp [mkA])
          · rw [wi]
            refine ⟨i + 1, by omega, by omega, ?_⟩
            rw [hn, if_pos (by simp at p1 p3 p4 p6 p7; simp [p2, p3, p4, p5, p7]; omega)]
            (simp only [wrC, wrOs, keepT, memN, setsL, setsO, setL, setO, snocO, List.cons_append, List.nil_append, List.append_nil, Nat.reduceAdd, Nat.zero_add, Wk, mtc, mtcS, mtcSL, mtc0, mtc0L, mtcL, mtcO, mtcOs, cutM, takeE, stA, rl, renV, renL, ren1, ren1L, ren, rens, renO, Nat.blt, lenO, getO, setO, setL, anys, mkA]; simp [mkA])
          · rw [wi]
            refine ⟨i + 1, by omega, by omega, ?_⟩
            rw [hn, if_neg (by simp at p6 p7; simp [p5]; omega)]
            (simp only [wrC, wrOs, keepT, memN, setsL, setsO, setL, setO, snocO, List.cons_append, List.nil_append, List.append_nil, Nat.reduceAdd, Nat.zero_add, Wk, mtc, mtcS, mtcSL, mtc0, mtc0L, mtcL, mtcO, mtcOs, cutM, takeE, stA, rl, renV, renL, ren1, ren1L, ren, rens, renO, Nat.blt, lenO, getO, setO, setL, anys, mkA]; simp [mkA])
          · rw [wi]
            refine ⟨i + 1, by omega, by omega, ?_⟩
            rw [hn, if_neg (by simp [p5])]
            (simp only [wrC, wrOs, keepT, memN, setsL, setsO, setL, setO, snocO, List.cons_append, List.nil_append, List.append_nil, Nat.reduceAdd, Nat.zero_add, Wk, mtc, mtcS, mtcSL, mtc0, mtc0L, mtcL, mtcO, mtcOs, cutM, takeE, stA, rl, renV, renL, ren1, ren1L, ren, rens, renO, Nat.blt, lenO, getO, setO, setL, anys, mkA]; simp [mkA])
        · rw [wi]
          refine ⟨i + 1, by omega, by omega, ?_⟩
          rw [hn, if_neg (by simp; intro _ _ _ q; simp at p4; omega)]
          (simp only [wrC, wrOs, keepT, memN, setsL, setsO, setL, setO, snocO, List.cons_append, List.nil_append, List.append_nil, Nat.reduceAdd, Nat.zero_add, Wk, mtc, mtcS, mtcSL, mtc0, mtc0L, mtcL, mtcO, mtcOs, cutM, takeE, stA, rl, renV, renL, ren1, ren1L, ren, rens, renO, Nat.blt, lenO, getO, setO, setL, anys, mkA]; simp [mkA])
        · rw [wi]
          refine ⟨i + 1, by omega, by omega, ?_⟩
          rw [hn, if_neg (by simp; intro _ _ q; simp [q] at p3)]
          (simp only [wrC, wrOs, keepT, memN, setsL, setsO, setL, setO, snocO, List.cons_append, List.nil_append, List.append_nil, Nat.reduceAdd, Nat.zero_add, Wk, mtc, mtcS, mtcSL, mtc0, mtc0L, mtcL, mtcO, mtcOs, cutM, takeE, stA, rl, renV, renL, ren1, ren1L, ren, rens, renO, Nat.blt, lenO, getO, setO, setL, anys, mkA]; simp [mkA])
      · rw [wi]
        refine ⟨i + 1, by omega, by omega, ?_⟩
        rw [hn, if_neg (by simp; intro _ q; simp [q] at p2)]
        (simp only [wrC, wrOs, keepT, memN, setsL, setsO, setL, setO, snocO, List.cons_append, List.nil_append, List.append_nil, Nat.reduceAdd, Nat.zero_add, Wk, mtc, mtcS, mtcSL, mtc0, mtc0L, mtcL, mtcO, mtcOs, cutM, takeE, stA, rl, renV, renL, ren1, ren1L, ren, rens, renO, Nat.blt, lenO, getO, setO, setL, anys, mkA]; simp [mkA])
    · rw [wi]
      refine ⟨i + 1, by omega, by omega, ?_⟩
      rw [hn, if_neg (by simp; intro q; simp at p1; omega)]
      (simp only [wrC, wrOs, keepT, memN, setsL, setsO, setL, setO, snocO, List.cons_append, List.nil_append, List.append_nil, Nat.reduceAdd, Nat.zero_add, Wk, mtc, mtcS, mtcSL, mtc0, mtc0L, mtcL, mtcO, mtcOs, cutM, takeE, stA, rl, renV, renL, ren1, ren1L, ren, rens, renO, Nat.blt, lenO, getO, setO, setL, anys, mkA]; simp [mkA])
  · obtain rfl : i = l.length := by omega
    refine ⟨[], rfl, _, _, ?_, ?_, rfl, rfl⟩ <;> simp [Wk, mtc, mtcS, mtcSL, mtc0, mtc0L, mtcL, mtcO, mtcOs, cutM, takeE, stA, rl, renV, renL, ren1, ren1L, ren, rens, renO, Nat.blt, lenO, getO, setO, setL, anys, okS, endM, endH, idxN, takeE, pickE, catO, rl, renV, renL, ren1, ren1L, ren, rens, renO, Nat.blt, lenO, getO, setO, setL, anys]
end Go.Proofs.YtlnafekmiidpkaaDoor.S
