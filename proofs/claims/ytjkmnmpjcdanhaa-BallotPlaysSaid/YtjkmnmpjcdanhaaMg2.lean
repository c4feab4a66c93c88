/- Contracts of merge: the best entry of each index. -/
import Derived.Test.YtjkmnmpjcdanhaaMg1
namespace Go.Proofs.Ytjkmnmpjcdanhaa.S
set_option linter.all false
set_option maxRecDepth 100000
set_option maxHeartbeats 1000000
def stepB (L : List En) (acc : Option En) (e : En) : Option En := if voidB e L = false ∧ (acc.all fun o => decide (o.t < e.t)) = true then some e else acc
def bestF (L : List En) (ix : Int) (es : List En) : Option En := es.foldl (fun acc e => if e.i = ix then stepB L acc e else acc) none
def best (L : List En) (ix : Int) : Option En := bestF L ix L
def mF (W : Int → Bool) (L es : List En) (ix : Int) : Option En := if W ix = true then bestF L ix es else none
/-- A map of entries. -/
def Rp (M : Mp) (m : Int → Option En) : Prop := ∀ ix, M.look ix = (m ix).map fun o => .arr [.int .u64 o.i, .int .u64 o.t, .int .u64 o.s, .int .i64 o.k, .int .u64 o.l.c, .int .u64 o.l.r, .int .u32 o.l.f, .int .u32 o.l.n, .str o.d, .ro 4 (o.b.map lkR)]
def enV (o : En) : AV := .arr [.int .u64 o.i, .int .u64 o.t, .int .u64 o.s, .int .i64 o.k, .int .u64 o.l.c, .int .u64 o.l.r, .int .u32 o.l.f, .int .u32 o.l.n, .str o.d, .ro 4 (o.b.map lkR)]
def condB (W : Int → Bool) (L : List En) (m : Int → Option En) (e : En) : Bool := W e.i && ((m e.i).all fun o => decide (o.t < e.t)) && !voidB e L
def putB (W : Int → Bool) (L : List En) (m : Int → Option En) (e : En) (M : Mp) : Mp := if condB W L m e = true then M.put e.i (enV e) else M
theorem mF_step (W : Int → Bool) (L es : List En) (e : En) (ix : Int) : mF W L (es ++ [e]) ix = if condB W L (mF W L es) e = true ∧ ix = e.i then some e else mF W L es ix := by
  unfold mF condB bestF
  rw [List.foldl_append]
  simp only [List.foldl_cons, List.foldl_nil]
  by_cases hW : W ix = true
  · by_cases hi : e.i = ix
    · subst hi
      simp only [hW, if_true, and_true, Bool.true_and]
      generalize List.foldl _ none es = acc
      unfold stepB
      by_cases hv : voidB e L = true
      · simp [hv]
      · have hv : voidB e L = false := by simpa using hv
        simp [hv]
    · have : ¬ ix = e.i := fun h => hi h.symm
      simp [hW, hi, this]
  · have hW' : W ix = false := by simpa using hW
    have hn : ∀ (c : Bool), ¬ ((W e.i && c) = true ∧ ix = e.i) := fun c ⟨h1, h2⟩ => by rw [← h2, hW'] at h1; simp at h1
    rw [if_neg hW, if_neg hW, Bool.and_assoc, if_neg (hn _)]
theorem Rp_step {W : Int → Bool} {L es : List En} {e : En} {M : Mp} (h : Rp M (mF W L es)) : Rp (putB W L (mF W L es) e M) (mF W L (es ++ [e])) := by
  intro ix
  rw [mF_step]
  unfold putB
  by_cases hc : condB W L (mF W L es) e = true
  · rw [if_pos hc, Mp.look_put]
    by_cases hi : ix = e.i
    · rw [if_pos hi, if_pos ⟨hc, hi⟩]; rfl
    · rw [if_neg hi, if_neg (fun q => hi q.2)]; exact h ix
  · rw [if_neg hc, if_neg (fun q => hc q.1)]; exact h ix
theorem Rp_emp (W : Int → Bool) (L : List En) : Rp Mp.emp (mF W L []) := by
  intro ix
  rw [Mp.look_emp]
  unfold mF bestF
  split <;> rfl
section
variable (all : List (List En)) (g : Nat) (b : Int) (W : Int → Bool)
def HB (M : Mp) : List AObj := [.map .u64 M, .arr 22 [.int .u64 b], .cells 103 [.mp 0], .cells 29 [.ro 1 (listsR all)], .cells 105 [.fn g [] [.ptr 1 0]]]
def WOK : Prop := ∀ i, U64 i → ACalls Try.prog g [.int .u64 i, .ptr 0 0] [.arr 22 [.int .u64 b]] (fun r hs => r = .bool (W i) ∧ hs = [.arr 22 [.int .u64 b]])
theorem better1_c (hg : WOK g b W) (ha : Few all) (e : En) (he : EnOK e) (M : Mp) (m : Int → Option En) (hm : Rp M m) : ACalls Try.prog 83 [enA e, .ptr 2 0, .ptr 4 0, .ptr 3 0] (HB all g b M)
    (fun r hs => r = .ff ∧ hs = HB all g b (putB W all.flatten m e M)) := by
  refine acalls_weak (acalls_of (fn := Try.f83) (A := a83) Try.func83 ok_83 en_83 ?_)
  dsimp only [a83, enA, HB]
  (refine eval_sound 2000 _ _ _ ?_; simp (maxSteps := 1000000) only [ptrL, lenV, Bool.not_true, Bool.not_false, lookR, valOf, asGrow, jump, findA, restA, and, Nat.reduceAdd, Nat.reduceSub, Nat.reduceMul, Int.reduceToNat, eval, nf, nfO, opN, appTo, rowsV, getL, setL, getO, setO, snocO, lenO, putL, ev, evs, ifEq, killV, killL, kill1, kill1L, kill, kills, killO, killOs, bin, binI, binS, binB, eq1, eqB, lit, sameK, kn, unI, mxA, mnA, mkAgg, fits, partN, partA, resN, retV, allVal, isVal, allCell, isCell, okVal, okCell, cellsOf, fillN, rowsN, cellsN, bnd, lohi, offAt, overL, segL, leave, NodeOK, List.cons_append, List.nil_append, List.append_nil, catA, anys, lenA])
  have hu := hg e.i he.i
  have hvd := void_c all e ha he
  refine ⟨fun v hv => ?_, fun hv => ?_⟩
  · have hmi := hm e.i
    rw [hv] at hmi
    cases ho : m e.i with
    | none => rw [ho] at hmi; simp at hmi
    | some o =>
      rw [ho] at hmi
      simp only [Option.map_some, Option.some.injEq] at hmi
      subst hmi
      (refine eval_sound 2000 _ _ _ ?_; simp (maxSteps := 1000000) only [ptrL, lenV, Bool.not_true, Bool.not_false, lookR, valOf, asGrow, jump, findA, restA, and, Nat.reduceAdd, Nat.reduceSub, Nat.reduceMul, Int.reduceToNat, eval, nf, nfO, opN, appTo, rowsV, getL, setL, getO, setO, snocO, lenO, putL, ev, evs, ifEq, killV, killL, kill1, kill1L, kill, kills, killO, killOs, bin, binI, binS, binB, eq1, eqB, lit, sameK, kn, unI, mxA, mnA, mkAgg, fits, partN, partA, resN, retV, allVal, isVal, allCell, isCell, okVal, okCell, cellsOf, fillN, rowsN, cellsN, bnd, lohi, offAt, overL, segL, leave, NodeOK, List.cons_append, List.nil_append, List.append_nil, catA, anys, lenA])
      (repeat (with_reducible refine And.intro ?_ ?_; focus (simp; done)))
      ((repeat (with_reducible refine And.intro ?_ ?_; focus (simp; done))); refine aw_call (hu) [1] rfl (by simp [upM, nthN, matchO, rens, ren, ren1, ren1L, renL, renV, renO, rl, lenO, getO, Nat.blt, mtc, mtcS, mtcSL, mtc0, mtc0L, enA]) rfl (by simp [upM, nthN, matchO, rens, ren, ren1, ren1L, renL, renV, renO, rl, lenO, getO, Nat.blt, mtc, mtcS, mtcSL, mtc0, mtc0L, enA]) rfl (fun r hs hp hl => ?_); obtain ⟨rfl, rfl⟩ := hp; simp only [snocO, upM, nthN, putAll, snocAll, killsA, killOsA, grows, putL, rl, renV, renL, ren1, ren1L, ren, rens, renO, Nat.blt, lenO, getO, setO, setL, anys, enA]; (refine eval_sound 2000 _ _ _ ?_; simp (maxSteps := 1000000) only [ptrL, lenV, Bool.not_true, Bool.not_false, lookR, valOf, asGrow, jump, findA, restA, and, Nat.reduceAdd, Nat.reduceSub, Nat.reduceMul, Int.reduceToNat, eval, nf, nfO, opN, appTo, rowsV, getL, setL, getO, setO, snocO, lenO, putL, ev, evs, ifEq, killV, killL, kill1, kill1L, kill, kills, killO, killOs, bin, binI, binS, binB, eq1, eqB, lit, sameK, kn, unI, mxA, mnA, mkAgg, fits, partN, partA, resN, retV, allVal, isVal, allCell, isCell, okVal, okCell, cellsOf, fillN, rowsN, cellsN, bnd, lohi, offAt, overL, segL, leave, NodeOK, List.cons_append, List.nil_append, List.append_nil, catA, anys, lenA]))
      refine ⟨fun h1 => ⟨fun h2 => ?_, fun h2 => ?_⟩, fun h1 => ?_⟩
      · ((repeat (with_reducible refine And.intro ?_ ?_; focus (simp; done))); refine aw_call (hvd) [] rfl (by simp [upM, nthN, matchO, rens, ren, ren1, ren1L, renL, renV, renO, rl, lenO, getO, Nat.blt, mtc, mtcS, mtcSL, mtc0, mtc0L, enA]) rfl (by simp [upM, nthN, matchO, rens, ren, ren1, ren1L, renL, renV, renO, rl, lenO, getO, Nat.blt, mtc, mtcS, mtcSL, mtc0, mtc0L, enA]) rfl (fun r hs hp hl => ?_); obtain ⟨rfl, rfl⟩ := hp; simp only [snocO, upM, nthN, putAll, snocAll, killsA, killOsA, grows, putL, rl, renV, renL, ren1, ren1L, ren, rens, renO, Nat.blt, lenO, getO, setO, setL, anys, enA]; (refine eval_sound 2000 _ _ _ ?_; simp (maxSteps := 1000000) only [ptrL, lenV, Bool.not_true, Bool.not_false, lookR, valOf, asGrow, jump, findA, restA, and, Nat.reduceAdd, Nat.reduceSub, Nat.reduceMul, Int.reduceToNat, eval, nf, nfO, opN, appTo, rowsV, getL, setL, getO, setO, snocO, lenO, putL, ev, evs, ifEq, killV, killL, kill1, kill1L, kill, kills, killO, killOs, bin, binI, binS, binB, eq1, eqB, lit, sameK, kn, unI, mxA, mnA, mkAgg, fits, partN, partA, resN, retV, allVal, isVal, allCell, isCell, okVal, okCell, cellsOf, fillN, rowsN, cellsN, bnd, lohi, offAt, overL, segL, leave, NodeOK, List.cons_append, List.nil_append, List.append_nil, catA, anys, lenA]))
        refine ⟨fun h3 => ?_, fun h3 => ?_⟩
        · have hc : condB W all.flatten m e = true := by unfold condB; rw [ho, h1]; simp [h3, h2]
          rw [show putB W all.flatten m e M = M.put e.i (enV e) by unfold putB; rw [hc]; rfl]
          ((repeat (with_reducible refine And.intro ?_ ?_; focus (simp; done))); refine ⟨[], rfl, _, _, ?_, ?_, rfl, rfl⟩ <;> simp [Wk, mtc, mtcS, mtcSL, mtc0, mtc0L, mtcL, mtcO, mtcOs, cutM, takeE, stA, rl, renV, renL, ren1, ren1L, ren, rens, renO, Nat.blt, lenO, getO, setO, setL, anys, okS, endM, endH, idxN, takeE, pickE, catO, rl, renV, renL, ren1, ren1L, ren, rens, renO, Nat.blt, lenO, getO, setO, setL, anys, HB, enV])
        · have hc : condB W all.flatten m e = false := by unfold condB; rw [ho, h1]; simp [h3]
          rw [show putB W all.flatten m e M = M by unfold putB; rw [hc]; rfl]
          ((repeat (with_reducible refine And.intro ?_ ?_; focus (simp; done))); refine ⟨[], rfl, _, _, ?_, ?_, rfl, rfl⟩ <;> simp [Wk, mtc, mtcS, mtcSL, mtc0, mtc0L, mtcL, mtcO, mtcOs, cutM, takeE, stA, rl, renV, renL, ren1, ren1L, ren, rens, renO, Nat.blt, lenO, getO, setO, setL, anys, okS, endM, endH, idxN, takeE, pickE, catO, rl, renV, renL, ren1, ren1L, ren, rens, renO, Nat.blt, lenO, getO, setO, setL, anys, HB, enV])
      · have hc : condB W all.flatten m e = false := by unfold condB; rw [ho, h1]; simp [h2]
        rw [show putB W all.flatten m e M = M by unfold putB; rw [hc]; rfl]
        ((repeat (with_reducible refine And.intro ?_ ?_; focus (simp; done))); refine ⟨[], rfl, _, _, ?_, ?_, rfl, rfl⟩ <;> simp [Wk, mtc, mtcS, mtcSL, mtc0, mtc0L, mtcL, mtcO, mtcOs, cutM, takeE, stA, rl, renV, renL, ren1, ren1L, ren, rens, renO, Nat.blt, lenO, getO, setO, setL, anys, okS, endM, endH, idxN, takeE, pickE, catO, rl, renV, renL, ren1, ren1L, ren, rens, renO, Nat.blt, lenO, getO, setO, setL, anys, HB, enV])
      · have hc : condB W all.flatten m e = false := by unfold condB; rw [h1]; simp []
        rw [show putB W all.flatten m e M = M by unfold putB; rw [hc]; rfl]
        ((repeat (with_reducible refine And.intro ?_ ?_; focus (simp; done))); refine ⟨[], rfl, _, _, ?_, ?_, rfl, rfl⟩ <;> simp [Wk, mtc, mtcS, mtcSL, mtc0, mtc0L, mtcL, mtcO, mtcOs, cutM, takeE, stA, rl, renV, renL, ren1, ren1L, ren, rens, renO, Nat.blt, lenO, getO, setO, setL, anys, okS, endM, endH, idxN, takeE, pickE, catO, rl, renV, renL, ren1, ren1L, ren, rens, renO, Nat.blt, lenO, getO, setO, setL, anys, HB, enV])
  · have hmi := hm e.i
    rw [hv] at hmi
    have ho : m e.i = none := by cases ho : m e.i with
      | none => rfl
      | some o => rw [ho] at hmi; simp at hmi
    (refine eval_sound 2000 _ _ _ ?_; simp (maxSteps := 1000000) only [ptrL, lenV, Bool.not_true, Bool.not_false, lookR, valOf, asGrow, jump, findA, restA, and, Nat.reduceAdd, Nat.reduceSub, Nat.reduceMul, Int.reduceToNat, eval, nf, nfO, opN, appTo, rowsV, getL, setL, getO, setO, snocO, lenO, putL, ev, evs, ifEq, killV, killL, kill1, kill1L, kill, kills, killO, killOs, bin, binI, binS, binB, eq1, eqB, lit, sameK, kn, unI, mxA, mnA, mkAgg, fits, partN, partA, resN, retV, allVal, isVal, allCell, isCell, okVal, okCell, cellsOf, fillN, rowsN, cellsN, bnd, lohi, offAt, overL, segL, leave, NodeOK, List.cons_append, List.nil_append, List.append_nil, catA, anys, lenA])
    (repeat (with_reducible refine And.intro ?_ ?_; focus (simp; done)))
    ((repeat (with_reducible refine And.intro ?_ ?_; focus (simp; done))); refine aw_call (hu) [1] rfl (by simp [upM, nthN, matchO, rens, ren, ren1, ren1L, renL, renV, renO, rl, lenO, getO, Nat.blt, mtc, mtcS, mtcSL, mtc0, mtc0L, enA]) rfl (by simp [upM, nthN, matchO, rens, ren, ren1, ren1L, renL, renV, renO, rl, lenO, getO, Nat.blt, mtc, mtcS, mtcSL, mtc0, mtc0L, enA]) rfl (fun r hs hp hl => ?_); obtain ⟨rfl, rfl⟩ := hp; simp only [snocO, upM, nthN, putAll, snocAll, killsA, killOsA, grows, putL, rl, renV, renL, ren1, ren1L, ren, rens, renO, Nat.blt, lenO, getO, setO, setL, anys, enA]; (refine eval_sound 2000 _ _ _ ?_; simp (maxSteps := 1000000) only [ptrL, lenV, Bool.not_true, Bool.not_false, lookR, valOf, asGrow, jump, findA, restA, and, Nat.reduceAdd, Nat.reduceSub, Nat.reduceMul, Int.reduceToNat, eval, nf, nfO, opN, appTo, rowsV, getL, setL, getO, setO, snocO, lenO, putL, ev, evs, ifEq, killV, killL, kill1, kill1L, kill, kills, killO, killOs, bin, binI, binS, binB, eq1, eqB, lit, sameK, kn, unI, mxA, mnA, mkAgg, fits, partN, partA, resN, retV, allVal, isVal, allCell, isCell, okVal, okCell, cellsOf, fillN, rowsN, cellsN, bnd, lohi, offAt, overL, segL, leave, NodeOK, List.cons_append, List.nil_append, List.append_nil, catA, anys, lenA]))
    refine ⟨fun h1 => ?_, fun h1 => ?_⟩
    · ((repeat (with_reducible refine And.intro ?_ ?_; focus (simp; done))); refine aw_call (hvd) [] rfl (by simp [upM, nthN, matchO, rens, ren, ren1, ren1L, renL, renV, renO, rl, lenO, getO, Nat.blt, mtc, mtcS, mtcSL, mtc0, mtc0L, enA]) rfl (by simp [upM, nthN, matchO, rens, ren, ren1, ren1L, renL, renV, renO, rl, lenO, getO, Nat.blt, mtc, mtcS, mtcSL, mtc0, mtc0L, enA]) rfl (fun r hs hp hl => ?_); obtain ⟨rfl, rfl⟩ := hp; simp only [snocO, upM, nthN, putAll, snocAll, killsA, killOsA, grows, putL, rl, renV, renL, ren1, ren1L, ren, rens, renO, Nat.blt, lenO, getO, setO, setL, anys, enA]; (refine eval_sound 2000 _ _ _ ?_; simp (maxSteps := 1000000) only [ptrL, lenV, Bool.not_true, Bool.not_false, lookR, valOf, asGrow, jump, findA, restA, and, Nat.reduceAdd, Nat.reduceSub, Nat.reduceMul, Int.reduceToNat, eval, nf, nfO, opN, appTo, rowsV, getL, setL, getO, setO, snocO, lenO, putL, ev, evs, ifEq, killV, killL, kill1, kill1L, kill, kills, killO, killOs, bin, binI, binS, binB, eq1, eqB, lit, sameK, kn, unI, mxA, mnA, mkAgg, fits, partN, partA, resN, retV, allVal, isVal, allCell, isCell, okVal, okCell, cellsOf, fillN, rowsN, cellsN, bnd, lohi, offAt, overL, segL, leave, NodeOK, List.cons_append, List.nil_append, List.append_nil, catA, anys, lenA]))
      refine ⟨fun h3 => ?_, fun h3 => ?_⟩
      · have hc : condB W all.flatten m e = true := by unfold condB; rw [ho, h1]; simp [h3]
        rw [show putB W all.flatten m e M = M.put e.i (enV e) by unfold putB; rw [hc]; rfl]
        ((repeat (with_reducible refine And.intro ?_ ?_; focus (simp; done))); refine ⟨[], rfl, _, _, ?_, ?_, rfl, rfl⟩ <;> simp [Wk, mtc, mtcS, mtcSL, mtc0, mtc0L, mtcL, mtcO, mtcOs, cutM, takeE, stA, rl, renV, renL, ren1, ren1L, ren, rens, renO, Nat.blt, lenO, getO, setO, setL, anys, okS, endM, endH, idxN, takeE, pickE, catO, rl, renV, renL, ren1, ren1L, ren, rens, renO, Nat.blt, lenO, getO, setO, setL, anys, HB, enV])
      · have hc : condB W all.flatten m e = false := by unfold condB; rw [ho, h1]; simp [h3]
        rw [show putB W all.flatten m e M = M by unfold putB; rw [hc]; rfl]
        ((repeat (with_reducible refine And.intro ?_ ?_; focus (simp; done))); refine ⟨[], rfl, _, _, ?_, ?_, rfl, rfl⟩ <;> simp [Wk, mtc, mtcS, mtcSL, mtc0, mtc0L, mtcL, mtcO, mtcOs, cutM, takeE, stA, rl, renV, renL, ren1, ren1L, ren, rens, renO, Nat.blt, lenO, getO, setO, setL, anys, okS, endM, endH, idxN, takeE, pickE, catO, rl, renV, renL, ren1, ren1L, ren, rens, renO, Nat.blt, lenO, getO, setO, setL, anys, HB, enV])
    · have hc : condB W all.flatten m e = false := by unfold condB; rw [h1]; simp []
      rw [show putB W all.flatten m e M = M by unfold putB; rw [hc]; rfl]
      ((repeat (with_reducible refine And.intro ?_ ?_; focus (simp; done))); refine ⟨[], rfl, _, _, ?_, ?_, rfl, rfl⟩ <;> simp [Wk, mtc, mtcS, mtcSL, mtc0, mtc0L, mtcL, mtcO, mtcOs, cutM, takeE, stA, rl, renV, renL, ren1, ren1L, ren, rens, renO, Nat.blt, lenO, getO, setO, setL, anys, okS, endM, endH, idxN, takeE, pickE, catO, rl, renV, renL, ren1, ren1L, ren, rens, renO, Nat.blt, lenO, getO, setO, setL, anys, HB, enV])
end
end Go.Proofs.Ytjkmnmpjcdanhaa.S
