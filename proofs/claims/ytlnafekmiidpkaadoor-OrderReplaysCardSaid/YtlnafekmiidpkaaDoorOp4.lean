/- OrderReplays returns true. -/
import Derived.Test.YtlnafekmiidpkaaDoorOp3
namespace Go.Proofs.YtlnafekmiidpkaaDoor.S
open Go.RowKit
set_option linter.all false
set_option maxRecDepth 100000
set_option maxHeartbeats 4000000
def boR (b : Bool) : List AV := [.bool b]
def s64 : ByteArray := strOf (u8s (List.replicate 64 0))
theorem s64_size : s64.size = 64 := by decide +kernel
theorem bytes_u8s (l : List Int) : Bytes (u8s l) := fun row h => by
  obtain ⟨n, _, rfl⟩ := List.mem_map.1 h
  exact ⟨n, rfl⟩
theorem readyN_len (l : List En) (a : Mk) : ∀ f d, (readyN l a f d).length ≤ f
  | 0, d => Nat.le_refl _
  | f + 1, d => by
    unfold readyN
    split
    · simp
    · have := readyN_len l a f (setM d (nextN l a d l.length)).1
      rw [List.length_cons]; omega
theorem chOK {l : List En} {n : Int} (hl : l.length ≤ 40) (hok : ∀ e ∈ l, EnOK e) (hgf : ∀ e ∈ l, GF e) : ∀ e ∈ chN l 1 n l.length, EnOK e ∧ GE e ∧ e.d.size ≤ 64 := by
  intro e he
  obtain ⟨k, hk⟩ := List.getElem?_of_mem he
  have hkl : k < l.length := by have := (List.getElem?_eq_some_iff.1 hk).1; rwa [chN_len l 1 n _ (Nat.le_refl _)] at this
  obtain ⟨y, hy, hy2⟩ := chN_at l 1 n hkl
  rw [hk] at hy2
  obtain rfl := Option.some.inj hy2
  have hyo := hok y (List.mem_of_getElem? hy)
  obtain ⟨g1, g2, g3⟩ := hgf y (List.mem_of_getElem? hy)
  refine ⟨⟨?_, hyo.l, fun x hx => ?_, ?_⟩, g1, g3⟩
  · rw [ch_ix (by omega)]; unfold U64; omega
  · have hx : x ∈ rowL (chN l 1 n k) n := hx
    unfold rowL at hx
    have hx := List.mem_of_mem_take hx
    obtain ⟨f, hf, rfl⟩ := List.mem_map.1 hx
    have hf : f ∈ chN l 1 n l.length := by
      rw [← chN_take l 1 n l.length k (by omega) (Nat.le_refl _)] at hf
      exact List.mem_of_mem_take (List.mem_reverse.1 hf)
    obtain ⟨i, hi⟩ := List.getElem?_of_mem hf
    have hil : i < l.length := by have := (List.getElem?_eq_some_iff.1 hi).1; rwa [chN_len l 1 n _ (Nat.le_refl _)] at this
    obtain ⟨z, hz, hz2⟩ := chN_at l 1 n hil
    rw [hi] at hz2
    obtain rfl := Option.some.inj hz2
    exact (hok z (List.mem_of_getElem? hz)).l
  · show (rowL (chN l 1 n k) n).length ≤ _
    unfold rowL
    rw [List.length_take, List.length_map, List.length_reverse, chN_len l 1 n k (by omega)]
    omega
theorem tr_rp : ∀ (L : List En) {x : Tr}, TrOK x → (∀ e ∈ L, EnOK e) → TrOK (rpI L x)
  | [], x, h, _ => h
  | e :: L, x, h, he => tr_rp L (tr_do h (he e (by simp))) (fun f hf => he f (by simp [hf]))
theorem oreplays (l : List En) (n : Int) (fs ts : List Bool) (hl : l.length ≤ 9223372036854775807) (hok : ∀ e ∈ l, EnOK e) : ACalls Tryd.prog 4 [.ro 10 (l.map enR), .int .i64 n, .ro 1 (fs.map boR), .ro 1 (ts.map boR)] [] (fun r hs => r = .bool true ∧ hs = []) := by
  have c1 := goodL_c l hl hok
  refine acalls_weak (acalls_of (fn := Tryd.f4) (A := a4) Tryd.func4 ok_4 en_4 ?_)
  dsimp only [a4, enA]
  (refine eval_sound 2000 _ _ _ ?_; simp (maxSteps := 1000000) only [ptrL, lenV, Bool.not_true, Bool.not_false, lookR, valOf, asGrow, jump, findA, restA, and, Nat.reduceAdd, Nat.reduceSub, Nat.reduceMul, Int.reduceToNat, eval, nf, nfO, opN, appTo, rowsV, getL, setL, getO, setO, snocO, lenO, putL, ev, evs, ifEq, killV, killL, kill1, kill1L, kill, kills, killO, killOs, bin, binI, binS, binB, eq1, eqB, lit, sameK, kn, unI, mxA, mnA, mkAgg, fits, partN, partA, resN, retV, allVal, isVal, allCell, isCell, okVal, okCell, cellsOf, fillN, rowsN, cellsN, bnd, lohi, offAt, overL, segL, leave, NodeOK, List.cons_append, List.nil_append, List.append_nil, catA, anys, lenA])
  ((repeat (with_reducible refine And.intro ?_ ?_; focus (simp; done))); refine aw_call (c1) [] rfl (by simp [upM, nthN, matchO, rens, ren, ren1, ren1L, renL, renV, renO, rl, lenO, getO, Nat.blt, mtc, mtcS, mtcSL, mtc0, mtc0L, enA]) rfl (by simp [upM, nthN, matchO, rens, ren, ren1, ren1L, renL, renV, renO, rl, lenO, getO, Nat.blt, mtc, mtcS, mtcSL, mtc0, mtc0L, enA]) rfl (fun r hs hp hl => ?_); obtain ⟨⟨v, rfl, hv⟩, rfl⟩ := hp; simp only [snocO, upM, nthN, putAll, snocAll, killsA, killOsA, grows, putL, rl, renV, renL, ren1, ren1L, ren, rens, renO, Nat.blt, lenO, getO, setO, setL, anys, enA]; (refine eval_sound 2000 _ _ _ ?_; simp (maxSteps := 1000000) only [ptrL, lenV, Bool.not_true, Bool.not_false, lookR, valOf, asGrow, jump, findA, restA, and, Nat.reduceAdd, Nat.reduceSub, Nat.reduceMul, Int.reduceToNat, eval, nf, nfO, opN, appTo, rowsV, getL, setL, getO, setO, snocO, lenO, putL, ev, evs, ifEq, killV, killL, kill1, kill1L, kill, kills, killO, killOs, bin, binI, binS, binB, eq1, eqB, lit, sameK, kn, unI, mxA, mnA, mkAgg, fits, partN, partA, resN, retV, allVal, isVal, allCell, isCell, okVal, okCell, cellsOf, fillN, rowsN, cellsN, bnd, lohi, offAt, overL, segL, leave, NodeOK, List.cons_append, List.nil_append, List.append_nil, catA, anys, lenA]))
  refine ⟨fun p1 => ?_, fun p1 => ?_⟩
  · ((repeat (with_reducible refine And.intro ?_ ?_; focus (simp; done))); refine aw_call (lives22) [] rfl (by simp [upM, nthN, matchO, rens, ren, ren1, ren1L, renL, renV, renO, rl, lenO, getO, Nat.blt, mtc, mtcS, mtcSL, mtc0, mtc0L, enA]) rfl (by simp [upM, nthN, matchO, rens, ren, ren1, ren1L, renL, renV, renO, rl, lenO, getO, Nat.blt, mtc, mtcS, mtcSL, mtc0, mtc0L, enA]) rfl (fun r hs hp hl => ?_); obtain ⟨rfl, rfl⟩ := hp; simp only [snocO, upM, nthN, putAll, snocAll, killsA, killOsA, grows, putL, rl, renV, renL, ren1, ren1L, ren, rens, renO, Nat.blt, lenO, getO, setO, setL, anys, enA]; (refine eval_sound 2000 _ _ _ ?_; simp (maxSteps := 1000000) only [ptrL, lenV, Bool.not_true, Bool.not_false, lookR, valOf, asGrow, jump, findA, restA, and, Nat.reduceAdd, Nat.reduceSub, Nat.reduceMul, Int.reduceToNat, eval, nf, nfO, opN, appTo, rowsV, getL, setL, getO, setO, snocO, lenO, putL, ev, evs, ifEq, killV, killL, kill1, kill1L, kill, kills, killO, killOs, bin, binI, binS, binB, eq1, eqB, lit, sameK, kn, unI, mxA, mnA, mkAgg, fits, partN, partA, resN, retV, allVal, isVal, allCell, isCell, okVal, okCell, cellsOf, fillN, rowsN, cellsN, bnd, lohi, offAt, overL, segL, leave, NodeOK, List.cons_append, List.nil_append, List.append_nil, catA, anys, lenA]))
    ((repeat (with_reducible refine And.intro ?_ ?_; focus (simp; done))); refine ⟨[], rfl, _, _, ?_, ?_, rfl, rfl⟩ <;> simp [Wk, mtc, mtcS, mtcSL, mtc0, mtc0L, mtcL, mtcO, mtcOs, cutM, takeE, stA, rl, renV, renL, ren1, ren1L, ren, rens, renO, Nat.blt, lenO, getO, setO, setL, anys, okS, endM, endH, idxN, takeE, pickE, catO, rl, renV, renL, ren1, ren1L, ren, rens, renO, Nat.blt, lenO, getO, setO, setL, anys, enA])
  obtain ⟨hl40, hgf⟩ := hv (by simpa using p1)
  simp only [decide_eq_true_eq, decide_eq_false_iff_not, List.length_map]
  refine ⟨fun p2 => ?_, fun p2 => ⟨fun p3 => ?_, fun p3 => ⟨fun p4 => ?_, fun p4 => ⟨fun p5 => ?_, fun p5 => ?_⟩⟩⟩⟩
  · ((repeat (with_reducible refine And.intro ?_ ?_; focus (simp; done))); refine aw_call (lives22) [] rfl (by simp [upM, nthN, matchO, rens, ren, ren1, ren1L, renL, renV, renO, rl, lenO, getO, Nat.blt, mtc, mtcS, mtcSL, mtc0, mtc0L, enA]) rfl (by simp [upM, nthN, matchO, rens, ren, ren1, ren1L, renL, renV, renO, rl, lenO, getO, Nat.blt, mtc, mtcS, mtcSL, mtc0, mtc0L, enA]) rfl (fun r hs hp hl => ?_); obtain ⟨rfl, rfl⟩ := hp; simp only [snocO, upM, nthN, putAll, snocAll, killsA, killOsA, grows, putL, rl, renV, renL, ren1, ren1L, ren, rens, renO, Nat.blt, lenO, getO, setO, setL, anys, enA]; (refine eval_sound 2000 _ _ _ ?_; simp (maxSteps := 1000000) only [ptrL, lenV, Bool.not_true, Bool.not_false, lookR, valOf, asGrow, jump, findA, restA, and, Nat.reduceAdd, Nat.reduceSub, Nat.reduceMul, Int.reduceToNat, eval, nf, nfO, opN, appTo, rowsV, getL, setL, getO, setO, snocO, lenO, putL, ev, evs, ifEq, killV, killL, kill1, kill1L, kill, kills, killO, killOs, bin, binI, binS, binB, eq1, eqB, lit, sameK, kn, unI, mxA, mnA, mkAgg, fits, partN, partA, resN, retV, allVal, isVal, allCell, isCell, okVal, okCell, cellsOf, fillN, rowsN, cellsN, bnd, lohi, offAt, overL, segL, leave, NodeOK, List.cons_append, List.nil_append, List.append_nil, catA, anys, lenA]))
    ((repeat (with_reducible refine And.intro ?_ ?_; focus (simp; done))); refine ⟨[], rfl, _, _, ?_, ?_, rfl, rfl⟩ <;> simp [Wk, mtc, mtcS, mtcSL, mtc0, mtc0L, mtcL, mtcO, mtcOs, cutM, takeE, stA, rl, renV, renL, ren1, ren1L, ren, rens, renO, Nat.blt, lenO, getO, setO, setL, anys, okS, endM, endH, idxN, takeE, pickE, catO, rl, renV, renL, ren1, ren1L, ren, rens, renO, Nat.blt, lenO, getO, setO, setL, anys, enA])
  · ((repeat (with_reducible refine And.intro ?_ ?_; focus (simp; done))); refine aw_call (lives22) [] rfl (by simp [upM, nthN, matchO, rens, ren, ren1, ren1L, renL, renV, renO, rl, lenO, getO, Nat.blt, mtc, mtcS, mtcSL, mtc0, mtc0L, enA]) rfl (by simp [upM, nthN, matchO, rens, ren, ren1, ren1L, renL, renV, renO, rl, lenO, getO, Nat.blt, mtc, mtcS, mtcSL, mtc0, mtc0L, enA]) rfl (fun r hs hp hl => ?_); obtain ⟨rfl, rfl⟩ := hp; simp only [snocO, upM, nthN, putAll, snocAll, killsA, killOsA, grows, putL, rl, renV, renL, ren1, ren1L, ren, rens, renO, Nat.blt, lenO, getO, setO, setL, anys, enA]; (refine eval_sound 2000 _ _ _ ?_; simp (maxSteps := 1000000) only [ptrL, lenV, Bool.not_true, Bool.not_false, lookR, valOf, asGrow, jump, findA, restA, and, Nat.reduceAdd, Nat.reduceSub, Nat.reduceMul, Int.reduceToNat, eval, nf, nfO, opN, appTo, rowsV, getL, setL, getO, setO, snocO, lenO, putL, ev, evs, ifEq, killV, killL, kill1, kill1L, kill, kills, killO, killOs, bin, binI, binS, binB, eq1, eqB, lit, sameK, kn, unI, mxA, mnA, mkAgg, fits, partN, partA, resN, retV, allVal, isVal, allCell, isCell, okVal, okCell, cellsOf, fillN, rowsN, cellsN, bnd, lohi, offAt, overL, segL, leave, NodeOK, List.cons_append, List.nil_append, List.append_nil, catA, anys, lenA]))
    ((repeat (with_reducible refine And.intro ?_ ?_; focus (simp; done))); refine ⟨[], rfl, _, _, ?_, ?_, rfl, rfl⟩ <;> simp [Wk, mtc, mtcS, mtcSL, mtc0, mtc0L, mtcL, mtcO, mtcOs, cutM, takeE, stA, rl, renV, renL, ren1, ren1L, ren, rens, renO, Nat.blt, lenO, getO, setO, setL, anys, okS, endM, endH, idxN, takeE, pickE, catO, rl, renV, renL, ren1, ren1L, ren, rens, renO, Nat.blt, lenO, getO, setO, setL, anys, enA])
  · ((repeat (with_reducible refine And.intro ?_ ?_; focus (simp; done))); refine aw_call (lives22) [] rfl (by simp [upM, nthN, matchO, rens, ren, ren1, ren1L, renL, renV, renO, rl, lenO, getO, Nat.blt, mtc, mtcS, mtcSL, mtc0, mtc0L, enA]) rfl (by simp [upM, nthN, matchO, rens, ren, ren1, ren1L, renL, renV, renO, rl, lenO, getO, Nat.blt, mtc, mtcS, mtcSL, mtc0, mtc0L, enA]) rfl (fun r hs hp hl => ?_); obtain ⟨rfl, rfl⟩ := hp; simp only [snocO, upM, nthN, putAll, snocAll, killsA, killOsA, grows, putL, rl, renV, renL, ren1, ren1L, ren, rens, renO, Nat.blt, lenO, getO, setO, setL, anys, enA]; (refine eval_sound 2000 _ _ _ ?_; simp (maxSteps := 1000000) only [ptrL, lenV, Bool.not_true, Bool.not_false, lookR, valOf, asGrow, jump, findA, restA, and, Nat.reduceAdd, Nat.reduceSub, Nat.reduceMul, Int.reduceToNat, eval, nf, nfO, opN, appTo, rowsV, getL, setL, getO, setO, snocO, lenO, putL, ev, evs, ifEq, killV, killL, kill1, kill1L, kill, kills, killO, killOs, bin, binI, binS, binB, eq1, eqB, lit, sameK, kn, unI, mxA, mnA, mkAgg, fits, partN, partA, resN, retV, allVal, isVal, allCell, isCell, okVal, okCell, cellsOf, fillN, rowsN, cellsN, bnd, lohi, offAt, overL, segL, leave, NodeOK, List.cons_append, List.nil_append, List.append_nil, catA, anys, lenA]))
    ((repeat (with_reducible refine And.intro ?_ ?_; focus (simp; done))); refine ⟨[], rfl, _, _, ?_, ?_, rfl, rfl⟩ <;> simp [Wk, mtc, mtcS, mtcSL, mtc0, mtc0L, mtcL, mtcO, mtcOs, cutM, takeE, stA, rl, renV, renL, ren1, ren1L, ren, rens, renO, Nat.blt, lenO, getO, setO, setL, anys, okS, endM, endH, idxN, takeE, pickE, catO, rl, renV, renL, ren1, ren1L, ren, rens, renO, Nat.blt, lenO, getO, setO, setL, anys, enA])
  · ((repeat (with_reducible refine And.intro ?_ ?_; focus (simp; done))); refine aw_call (lives22) [] rfl (by simp [upM, nthN, matchO, rens, ren, ren1, ren1L, renL, renV, renO, rl, lenO, getO, Nat.blt, mtc, mtcS, mtcSL, mtc0, mtc0L, enA]) rfl (by simp [upM, nthN, matchO, rens, ren, ren1, ren1L, renL, renV, renO, rl, lenO, getO, Nat.blt, mtc, mtcS, mtcSL, mtc0, mtc0L, enA]) rfl (fun r hs hp hl => ?_); obtain ⟨rfl, rfl⟩ := hp; simp only [snocO, upM, nthN, putAll, snocAll, killsA, killOsA, grows, putL, rl, renV, renL, ren1, ren1L, ren, rens, renO, Nat.blt, lenO, getO, setO, setL, anys, enA]; (refine eval_sound 2000 _ _ _ ?_; simp (maxSteps := 1000000) only [ptrL, lenV, Bool.not_true, Bool.not_false, lookR, valOf, asGrow, jump, findA, restA, and, Nat.reduceAdd, Nat.reduceSub, Nat.reduceMul, Int.reduceToNat, eval, nf, nfO, opN, appTo, rowsV, getL, setL, getO, setO, snocO, lenO, putL, ev, evs, ifEq, killV, killL, kill1, kill1L, kill, kills, killO, killOs, bin, binI, binS, binB, eq1, eqB, lit, sameK, kn, unI, mxA, mnA, mkAgg, fits, partN, partA, resN, retV, allVal, isVal, allCell, isCell, okVal, okCell, cellsOf, fillN, rowsN, cellsN, bnd, lohi, offAt, overL, segL, leave, NodeOK, List.cons_append, List.nil_append, List.append_nil, catA, anys, lenA]))
    ((repeat (with_reducible refine And.intro ?_ ?_; focus (simp; done))); refine ⟨[], rfl, _, _, ?_, ?_, rfl, rfl⟩ <;> simp [Wk, mtc, mtcS, mtcSL, mtc0, mtc0L, mtcL, mtcO, mtcOs, cutM, takeE, stA, rl, renV, renL, ren1, ren1L, ren, rens, renO, Nat.blt, lenO, getO, setO, setL, anys, okS, endM, endH, idxN, takeE, pickE, catO, rl, renV, renL, ren1, ren1L, ren, rens, renO, Nat.blt, lenO, getO, setO, setL, anys, enA])
  have hch := chain_c l 1 n (by omega) (fun e he => by have := (hgf e he).2.1; omega)
  have hall := chOK (n := n) hl40 hok hgf
  have hal := chN_len l 1 n l.length (Nat.le_refl _)
  ((repeat (with_reducible refine And.intro ?_ ?_; focus (simp; done))); refine aw_call (hch) [] rfl (by simp [upM, nthN, matchO, rens, ren, ren1, ren1L, renL, renV, renO, rl, lenO, getO, Nat.blt, mtc, mtcS, mtcSL, mtc0, mtc0L, enA]) rfl (by simp [upM, nthN, matchO, rens, ren, ren1, ren1L, renL, renV, renO, rl, lenO, getO, Nat.blt, mtc, mtcS, mtcSL, mtc0, mtc0L, enA]) rfl (fun r hs hp hl => ?_); obtain ⟨rfl, rfl⟩ := hp; simp only [snocO, upM, nthN, putAll, snocAll, killsA, killOsA, grows, putL, rl, renV, renL, ren1, ren1L, ren, rens, renO, Nat.blt, lenO, getO, setO, setL, anys, enA]; (refine eval_sound 2000 _ _ _ ?_; simp (maxSteps := 1000000) only [ptrL, lenV, Bool.not_true, Bool.not_false, lookR, valOf, asGrow, jump, findA, restA, and, Nat.reduceAdd, Nat.reduceSub, Nat.reduceMul, Int.reduceToNat, eval, nf, nfO, opN, appTo, rowsV, getL, setL, getO, setO, snocO, lenO, putL, ev, evs, ifEq, killV, killL, kill1, kill1L, kill, kills, killO, killOs, bin, binI, binS, binB, eq1, eqB, lit, sameK, kn, unI, mxA, mnA, mkAgg, fits, partN, partA, resN, retV, allVal, isVal, allCell, isCell, okVal, okCell, cellsOf, fillN, rowsN, cellsN, bnd, lohi, offAt, overL, segL, leave, NodeOK, List.cons_append, List.nil_append, List.append_nil, catA, anys, lenA]))
  have hz : List.map (fun a => [a]) (seg (List.replicate 64 [AV.int .u8 0]).flatten 0 64) = u8s (List.replicate 64 0) := by rfl
  rw [hz, show strOf (u8s (List.replicate 64 0)) = s64 from rfl]
  generalize hs64 : s64 = S0 at *
  refine ⟨by omega, ⟨by decide, by omega⟩, bytes_u8s _, rfl, by simp, rfl, ?_⟩
  (refine aw_trans (trans_frz 3 _ _ _ rfl) ?_; simp only [snocO, mapA, frz, frz1, frzV, mapO, frzO, ifEq, setO, getO, getL, setL])
  have hbz : imC ⟨0, 0⟩ S0 tz = [.int .u64 0, .int .u64 0, .str S0, .int .u64 0, .int .u16 0, .int .u64 0, .int .u16 0, .int .u64 0, .int .u16 0, .int .u64 0, .int .u16 0, .int .u64 0, .int .u16 0, .int .u64 0, .int .u16 0, .int .u64 0, .int .u16 0, .int .u64 0, .int .u16 0] := rfl
  have hS0 : S0.size = 64 := by rw [← hs64]; exact s64_size
  have hge : ∀ e ∈ chN l 1 n l.length, GE e := fun e he => (hall e he).2.1
  have hgl : ∀ e ∈ l, GE e := fun e he => (hgf e he).1
  have hst0 : St (chN l 1 n l.length) S0 ⟨0, 0⟩ S0 := st_zero
  refine aw_loopU (α := Nat × Tr) (fun p => p.1 ≤ 2 ∧ TrOK p.2 ∧ St (chN l 1 n l.length) S0 p.2.1 p.2.2.1) (fun p => [(58, .int .i64 (p.1 : Nat))]) (fun p => [(1, .arr 32 (imC p.2.1 p.2.2.1 p.2.2.2))]) (fun p => 2 - p.1) ((0, (⟨0, 0⟩, S0, tz))) (⟨by show 0 ≤ 2; omega, ⟨gd_zero, hS0, tz_ok⟩, hst0⟩) ?_ fun p hp => ?_
  · rw [show imC (0, ((⟨0, 0⟩ : Mk), S0, tz)).2.1 (0, ((⟨0, 0⟩ : Mk), S0, tz)).2.2.1 (0, ((⟨0, 0⟩ : Mk), S0, tz)).2.2.2 = imC ⟨0, 0⟩ S0 tz from rfl, hbz]
    (simp only [wrC, wrOs, keepT, memN, setsL, setsO, setL, setO, snocO, List.cons_append, List.nil_append, List.append_nil, Nat.reduceAdd, Nat.zero_add, Wk, mtc, mtcS, mtcSL, mtc0, mtc0L, mtcL, mtcO, mtcOs, cutM, takeE, stA, rl, renV, renL, ren1, ren1L, ren, rens, renO, Nat.blt, lenO, getO, setO, setL, anys, enA]; simp [enA])
  obtain ⟨p, m, s, t⟩ := p
  obtain ⟨hp2, hx, hst⟩ := hp
  simp only [] at hp2 hx hst ⊢
  obtain ⟨q0, q1, q2, q3, q4, q5, q6, q7, hqe, hq⟩ := imE m s hx.t.len
  rw [hq]
  (simp only [wrC, wrOs, keepT, memN, setsL, setsO, setL, setO, snocO, List.cons_append, List.nil_append, List.append_nil, Nat.reduceAdd, Nat.zero_add, enA]; (refine eval_sound 2000 _ _ _ ?_; simp (maxSteps := 1000000) only [ptrL, lenV, Bool.not_true, Bool.not_false, lookR, valOf, asGrow, jump, findA, restA, and, Nat.reduceAdd, Nat.reduceSub, Nat.reduceMul, Int.reduceToNat, eval, nf, nfO, opN, appTo, rowsV, getL, setL, getO, setO, snocO, lenO, putL, ev, evs, ifEq, killV, killL, kill1, kill1L, kill, kills, killO, killOs, bin, binI, binS, binB, eq1, eqB, lit, sameK, kn, unI, mxA, mnA, mkAgg, fits, partN, partA, resN, retV, allVal, isVal, allCell, isCell, okVal, okCell, cellsOf, fillN, rowsN, cellsN, bnd, lohi, offAt, overL, segL, leave, NodeOK, List.cons_append, List.nil_append, List.append_nil, catA, anys, lenA]))
  simp only [decide_eq_true_eq, decide_eq_false_iff_not, List.length_cons, List.length_nil]
  refine ⟨fun h4 => ?_, fun h4 => ?_⟩
  · have wp : IntKind.i64.wrap ((p : Int) + 1) = ((p + 1 : Nat) : Int) := by rw [wr64 (by omega) (by omega)]; rfl
    obtain ⟨bl, hbl, hrow⟩ : ∃ bl : List Bool, bl.length ≤ 100 ∧ [[AV.ro 1 (fs.map boR)], [AV.ro 1 (ts.map boR)]][p]? = some [.ro 1 (bl.map boR)] := by
      have : p = 0 ∨ p = 1 := by omega
      rcases this with rfl | rfl
      · exact ⟨fs, by omega, rfl⟩
      · exact ⟨ts, by omega, rfl⟩
    refine ⟨by omega, [.ro 1 (bl.map boR)], by rw [Int.toNat_natCast]; exact hrow, ?_⟩
    (refine eval_sound 2000 _ _ _ ?_; simp (maxSteps := 1000000) only [ptrL, lenV, Bool.not_true, Bool.not_false, lookR, valOf, asGrow, jump, findA, restA, and, Nat.reduceAdd, Nat.reduceSub, Nat.reduceMul, Int.reduceToNat, eval, nf, nfO, opN, appTo, rowsV, getL, setL, getO, setO, snocO, lenO, putL, ev, evs, ifEq, killV, killL, kill1, kill1L, kill, kills, killO, killOs, bin, binI, binS, binB, eq1, eqB, lit, sameK, kn, unI, mxA, mnA, mkAgg, fits, partN, partA, resN, retV, allVal, isVal, allCell, isCell, okVal, okCell, cellsOf, fillN, rowsN, cellsN, bnd, lohi, offAt, overL, segL, leave, NodeOK, List.cons_append, List.nil_append, List.append_nil, catA, anys, lenA])
    (repeat (with_reducible refine And.intro ?_ ?_; focus (simp; done)))
    simp only [List.length_map]
    refine aw_loopU (α := Nat × Mk) (fun u => u.1 ≤ bl.length ∧ Gd u.2) (fun u => [(66, .int .i64 (u.1 : Nat))]) (fun u => [(4, .arr 25 [.int .u64 (u.2.l : Nat), .int .u64 (u.2.b : Nat)])]) (fun u => bl.length - u.1) ((0, m)) (⟨Nat.zero_le _, hx.g⟩) ?_ fun u hu => ?_
    · (simp only [wrC, wrOs, keepT, memN, setsL, setsO, setL, setO, snocO, List.cons_append, List.nil_append, List.append_nil, Nat.reduceAdd, Nat.zero_add, Wk, mtc, mtcS, mtcSL, mtc0, mtc0L, mtcL, mtcO, mtcOs, cutM, takeE, stA, rl, renV, renL, ren1, ren1L, ren, rens, renO, Nat.blt, lenO, getO, setO, setL, anys, enA]; simp [enA])
    obtain ⟨k, may⟩ := u
    obtain ⟨hk, gmay⟩ := hu
    simp only [] at hk gmay ⊢
    (simp only [wrC, wrOs, keepT, memN, setsL, setsO, setL, setO, snocO, List.cons_append, List.nil_append, List.append_nil, Nat.reduceAdd, Nat.zero_add, enA]; (refine eval_sound 2000 _ _ _ ?_; simp (maxSteps := 1000000) only [ptrL, lenV, Bool.not_true, Bool.not_false, lookR, valOf, asGrow, jump, findA, restA, and, Nat.reduceAdd, Nat.reduceSub, Nat.reduceMul, Int.reduceToNat, eval, nf, nfO, opN, appTo, rowsV, getL, setL, getO, setO, snocO, lenO, putL, ev, evs, ifEq, killV, killL, kill1, kill1L, kill, kills, killO, killOs, bin, binI, binS, binB, eq1, eqB, lit, sameK, kn, unI, mxA, mnA, mkAgg, fits, partN, partA, resN, retV, allVal, isVal, allCell, isCell, okVal, okCell, cellsOf, fillN, rowsN, cellsN, bnd, lohi, offAt, overL, segL, leave, NodeOK, List.cons_append, List.nil_append, List.append_nil, catA, anys, lenA]))
    simp only [decide_eq_true_eq, decide_eq_false_iff_not, List.length_map]
    refine ⟨fun h5 => ?_, fun h5 => ?_⟩
    · obtain ⟨b, hb⟩ : ∃ b, bl[k]? = some b := ⟨_, List.getElem?_eq_getElem (by omega)⟩
      have wk : IntKind.i64.wrap ((k : Int) + 1) = ((k + 1 : Nat) : Int) := by rw [wr64 (by omega) (by omega)]; rfl
      have wu : IntKind.u64.wrap (IntKind.u64.wrap (k : Int) + 1) = ((k + 1 : Nat) : Int) := by rw [wru (n := (k : Int)) (by omega) (by omega), wru (by omega) (by omega)]; rfl
      have hset := set_c may (k + 1) gmay.b gmay.l (by omega)
      have gset := gd_set gmay (k + 1)
      generalize setM may (k + 1) = S at *
      obtain ⟨may2, se⟩ := S
      simp only [] at hset gset
      refine ⟨by omega, boR b, by rw [Int.toNat_natCast, List.getElem?_map, hb]; rfl, ?_⟩
      rw [show boR b = [.bool b] from rfl]
      (refine eval_sound 2000 _ _ _ ?_; simp (maxSteps := 1000000) only [ptrL, lenV, Bool.not_true, Bool.not_false, lookR, valOf, asGrow, jump, findA, restA, and, Nat.reduceAdd, Nat.reduceSub, Nat.reduceMul, Int.reduceToNat, eval, nf, nfO, opN, appTo, rowsV, getL, setL, getO, setO, snocO, lenO, putL, ev, evs, ifEq, killV, killL, kill1, kill1L, kill, kills, killO, killOs, bin, binI, binS, binB, eq1, eqB, lit, sameK, kn, unI, mxA, mnA, mkAgg, fits, partN, partA, resN, retV, allVal, isVal, allCell, isCell, okVal, okCell, cellsOf, fillN, rowsN, cellsN, bnd, lohi, offAt, overL, segL, leave, NodeOK, List.cons_append, List.nil_append, List.append_nil, catA, anys, lenA])
      simp only [decide_eq_true_eq, decide_eq_false_iff_not, List.length_map]
      refine ⟨fun h6 => ⟨fun h7 => ?_, fun h7 => ?_⟩, fun h6 => ?_⟩
      · rw [wu]
        (repeat (with_reducible refine And.intro ?_ ?_; focus (simp; done)))
        ((repeat (with_reducible refine And.intro ?_ ?_; focus (simp; done))); refine aw_call (hset) [] rfl (by simp [upM, nthN, matchO, rens, ren, ren1, ren1L, renL, renV, renO, rl, lenO, getO, Nat.blt, mtc, mtcS, mtcSL, mtc0, mtc0L, mkA]) rfl (by simp [upM, nthN, matchO, rens, ren, ren1, ren1L, renL, renV, renO, rl, lenO, getO, Nat.blt, mtc, mtcS, mtcSL, mtc0, mtc0L, mkA]) rfl (fun r hs hp hl => ?_); obtain ⟨rfl, rfl⟩ := hp; simp only [snocO, upM, nthN, putAll, snocAll, killsA, killOsA, grows, putL, rl, renV, renL, ren1, ren1L, ren, rens, renO, Nat.blt, lenO, getO, setO, setL, anys, mkA]; (refine eval_sound 2000 _ _ _ ?_; simp (maxSteps := 1000000) only [ptrL, lenV, Bool.not_true, Bool.not_false, lookR, valOf, asGrow, jump, findA, restA, and, Nat.reduceAdd, Nat.reduceSub, Nat.reduceMul, Int.reduceToNat, eval, nf, nfO, opN, appTo, rowsV, getL, setL, getO, setO, snocO, lenO, putL, ev, evs, ifEq, killV, killL, kill1, kill1L, kill, kills, killO, killOs, bin, binI, binS, binB, eq1, eqB, lit, sameK, kn, unI, mxA, mnA, mkAgg, fits, partN, partA, resN, retV, allVal, isVal, allCell, isCell, okVal, okCell, cellsOf, fillN, rowsN, cellsN, bnd, lohi, offAt, overL, segL, leave, NodeOK, List.cons_append, List.nil_append, List.append_nil, catA, anys, lenA]))
        (repeat (with_reducible refine And.intro ?_ ?_; focus (simp; done)))
        rw [wk]
        refine ⟨(k + 1, may2), ⟨by show k + 1 ≤ _; omega, gset⟩, by show bl.length - (k + 1) < bl.length - k; omega, ?_⟩
        (simp only [wrC, wrOs, keepT, memN, setsL, setsO, setL, setO, snocO, List.cons_append, List.nil_append, List.append_nil, Nat.reduceAdd, Nat.zero_add, Wk, mtc, mtcS, mtcSL, mtc0, mtc0L, mtcL, mtcO, mtcOs, cutM, takeE, stA, rl, renV, renL, ren1, ren1L, ren, rens, renO, Nat.blt, lenO, getO, setO, setL, anys, enA]; simp [enA])
      · rw [wk]
        refine ⟨(k + 1, may), ⟨by show k + 1 ≤ _; omega, gmay⟩, by show bl.length - (k + 1) < bl.length - k; omega, ?_⟩
        (simp only [wrC, wrOs, keepT, memN, setsL, setsO, setL, setO, snocO, List.cons_append, List.nil_append, List.append_nil, Nat.reduceAdd, Nat.zero_add, Wk, mtc, mtcS, mtcSL, mtc0, mtc0L, mtcL, mtcO, mtcOs, cutM, takeE, stA, rl, renV, renL, ren1, ren1L, ren, rens, renO, Nat.blt, lenO, getO, setO, setL, anys, enA]; simp [enA])
      · rw [wk]
        refine ⟨(k + 1, may), ⟨by show k + 1 ≤ _; omega, gmay⟩, by show bl.length - (k + 1) < bl.length - k; omega, ?_⟩
        (simp only [wrC, wrOs, keepT, memN, setsL, setsO, setL, setO, snocO, List.cons_append, List.nil_append, List.append_nil, Nat.reduceAdd, Nat.zero_add, Wk, mtc, mtcS, mtcSL, mtc0, mtc0L, mtcL, mtcO, mtcOs, cutM, takeE, stA, rl, renV, renL, ren1, ren1L, ren, rens, renO, Nat.blt, lenO, getO, setO, setL, anys, enA]; simp [enA])
    · (repeat (with_reducible refine And.intro ?_ ?_; focus (simp; done)))
      have hrd := ready_c (chN l 1 n l.length) may m (by omega) (fun e he => (hall e he).1) (gd_ok gmay) hx.g
      ((repeat (with_reducible refine And.intro ?_ ?_; focus (simp; done))); refine aw_call (hrd) [] rfl (by simp [upM, nthN, matchO, rens, ren, ren1, ren1L, renL, renV, renO, rl, lenO, getO, Nat.blt, mtc, mtcS, mtcSL, mtc0, mtc0L, mkA]) rfl (by simp [upM, nthN, matchO, rens, ren, ren1, ren1L, renL, renV, renO, rl, lenO, getO, Nat.blt, mtc, mtcS, mtcSL, mtc0, mtc0L, mkA]) rfl (fun r hs hp hl => ?_); obtain ⟨rfl, rfl⟩ := hp; simp only [snocO, upM, nthN, putAll, snocAll, killsA, killOsA, grows, putL, rl, renV, renL, ren1, ren1L, ren, rens, renO, Nat.blt, lenO, getO, setO, setL, anys, mkA]; (refine eval_sound 2000 _ _ _ ?_; simp (maxSteps := 1000000) only [ptrL, lenV, Bool.not_true, Bool.not_false, lookR, valOf, asGrow, jump, findA, restA, and, Nat.reduceAdd, Nat.reduceSub, Nat.reduceMul, Int.reduceToNat, eval, nf, nfO, opN, appTo, rowsV, getL, setL, getO, setO, snocO, lenO, putL, ev, evs, ifEq, killV, killL, kill1, kill1L, kill, kills, killO, killOs, bin, binI, binS, binB, eq1, eqB, lit, sameK, kn, unI, mxA, mnA, mkAgg, fits, partN, partA, resN, retV, allVal, isVal, allCell, isCell, okVal, okCell, cellsOf, fillN, rowsN, cellsN, bnd, lohi, offAt, overL, segL, leave, NodeOK, List.cons_append, List.nil_append, List.append_nil, catA, anys, lenA]))
      have hR0 : ∃ f, readyN (chN l 1 n l.length) may ((chN l 1 n l.length).length + 1) m = readyN (chN l 1 n l.length) may f m := ⟨_, rfl⟩
      have hRl := readyN_len (chN l 1 n l.length) may ((chN l 1 n l.length).length + 1) m
      generalize readyN (chN l 1 n l.length) may ((chN l 1 n l.length).length + 1) m = RR at *
      rw [u64n_len]
      refine aw_loopU (α := Nat × Tr) (fun z => z.1 ≤ RR.length ∧ TrOK z.2 ∧ St (chN l 1 n l.length) S0 z.2.1 z.2.2.1 ∧ ∃ f, RR.drop z.1 = readyN (chN l 1 n l.length) may f z.2.1) (fun z => [(93, .int .i64 (z.1 : Nat))]) (fun z => [(1, .arr 32 (imC z.2.1 z.2.2.1 z.2.2.2))]) (fun z => RR.length - z.1) ((0, (m, s, t))) (⟨Nat.zero_le _, hx, hst, hR0⟩) ?_ fun z hz => ?_
      · rw [show imC (0, (m, s, t)).2.1 (0, (m, s, t)).2.2.1 (0, (m, s, t)).2.2.2 = imC m s t from rfl, hq]
        (simp only [wrC, wrOs, keepT, memN, setsL, setsO, setL, setO, snocO, List.cons_append, List.nil_append, List.append_nil, Nat.reduceAdd, Nat.zero_add, Wk, mtc, mtcS, mtcSL, mtc0, mtc0L, mtcL, mtcO, mtcOs, cutM, takeE, stA, rl, renV, renL, ren1, ren1L, ren, rens, renO, Nat.blt, lenO, getO, setO, setL, anys, enA]; simp [enA])
      obtain ⟨zp, zm, zs, zt⟩ := z
      obtain ⟨hz1, hzx, hzs, zf, hzR⟩ := hz
      simp only [] at hz1 hzx hzs hzR ⊢
      obtain ⟨r0, r1, r2, r3, r4, r5, r6, r7, hre, hr⟩ := imE zm zs hzx.t.len
      rw [hr]
      (simp only [wrC, wrOs, keepT, memN, setsL, setsO, setL, setO, snocO, List.cons_append, List.nil_append, List.append_nil, Nat.reduceAdd, Nat.zero_add, enA]; (refine eval_sound 2000 _ _ _ ?_; simp (maxSteps := 1000000) only [ptrL, lenV, Bool.not_true, Bool.not_false, lookR, valOf, asGrow, jump, findA, restA, and, Nat.reduceAdd, Nat.reduceSub, Nat.reduceMul, Int.reduceToNat, eval, nf, nfO, opN, appTo, rowsV, getL, setL, getO, setO, snocO, lenO, putL, ev, evs, ifEq, killV, killL, kill1, kill1L, kill, kills, killO, killOs, bin, binI, binS, binB, eq1, eqB, lit, sameK, kn, unI, mxA, mnA, mkAgg, fits, partN, partA, resN, retV, allVal, isVal, allCell, isCell, okVal, okCell, cellsOf, fillN, rowsN, cellsN, bnd, lohi, offAt, overL, segL, leave, NodeOK, List.cons_append, List.nil_append, List.append_nil, catA, anys, lenA]))
      simp only [decide_eq_true_eq, decide_eq_false_iff_not]
      refine ⟨fun h6 => ?_, fun h6 => ?_⟩
      · obtain ⟨xr, hxr⟩ : ∃ x, RR[zp]? = some x := ⟨_, List.getElem?_eq_getElem (by omega)⟩
        have wz : IntKind.i64.wrap ((zp : Int) + 1) = ((zp + 1 : Nat) : Int) := by rw [wr64 (by omega) (by omega)]; rfl
        have hdz : RR.drop zp = xr :: RR.drop (zp + 1) := by
          rw [List.drop_eq_getElem_cons (by omega)]; congr 1; rw [List.getElem?_eq_getElem (by omega)] at hxr; exact Option.some.inj hxr
        rw [hdz] at hzR
        obtain ⟨f2, hR2, hcand⟩ := ready_step hzR.symm
        obtain ⟨j, e, rfl, hjl, hje, hei, hnh, hse, hmb⟩ := cand_at hl40 hcand
        have hem := List.mem_of_getElem? hje
        obtain ⟨heo, heg, hed⟩ := hall e hem
        have hdo := do_c zm hzx.g zs (by rw [hzx.s]; omega) zt hzx.t e heo (by omega)
        have htr : TrOK (doI zm zs zt e).1 := tr_do hzx heo
        obtain ⟨d1, d2, d3⟩ := doI_good (m := zm) (s := zs) (t := zt) hei hnh hse heg hzx.s
        have hst2 := st_step hS0 hge hzs hje hnh hse (may_dis hl40 hgl hje hmb)
        rw [← d3, ← d2] at hst2
        rw [← d2] at hR2
        generalize doI zm zs zt e = DD at *
        obtain ⟨⟨dm, ds, dt⟩, de⟩ := DD
        simp only [] at hdo d1 htr hst2 hR2
        subst d1
        obtain ⟨w0, w1, w2, w3, w4, w5, w6, w7, hwe, hw⟩ := imE dm ds htr.t.len
        unfold imA at hdo
        rw [hr, hw] at hdo
        have wl : IntKind.u64.wrap (((chN l 1 n l.length).length : Nat) : Int) = l.length := by rw [hal, wru (by omega) (by omega)]
        have wj : IntKind.u64.wrap (((j + 1 : Nat) : Int) - 1) = (j : Nat) := by rw [wru (by omega) (by omega)]; omega
        refine ⟨by omega, [.int .u64 ((j + 1 : Nat) : Int)], by rw [Int.toNat_natCast]; unfold u64n; rw [List.getElem?_map, hxr]; rfl, ?_⟩
        (refine eval_sound 2000 _ _ _ ?_; simp (maxSteps := 1000000) only [ptrL, lenV, Bool.not_true, Bool.not_false, lookR, valOf, asGrow, jump, findA, restA, and, Nat.reduceAdd, Nat.reduceSub, Nat.reduceMul, Int.reduceToNat, eval, nf, nfO, opN, appTo, rowsV, getL, setL, getO, setO, snocO, lenO, putL, ev, evs, ifEq, killV, killL, kill1, kill1L, kill, kills, killO, killOs, bin, binI, binS, binB, eq1, eqB, lit, sameK, kn, unI, mxA, mnA, mkAgg, fits, partN, partA, resN, retV, allVal, isVal, allCell, isCell, okVal, okCell, cellsOf, fillN, rowsN, cellsN, bnd, lohi, offAt, overL, segL, leave, NodeOK, List.cons_append, List.nil_append, List.append_nil, catA, anys, lenA])
        simp only [decide_eq_true_eq, decide_eq_false_iff_not, List.length_map]
        rw [wl]
        refine ⟨fun h7 => by omega, fun _ => ⟨fun h7 => by omega, fun _ => ?_⟩⟩
        refine aw_dregA (show Tryd.prog.follows .mixedOrders = true by kernel_rfl) 6 [(3, ⟨.int .u64 (j : Nat), [], [], []⟩), (4, ⟨.rp [.int .u64 e.i, .int .u64 e.t, .int .u64 e.s, .int .i64 e.k, .int .u64 e.l.c, .int .u64 e.l.r, .int .u32 e.l.f, .int .u32 e.l.n, .str e.d, .ro 4 (e.b.map lkR)] 0, [], [], []⟩), (5, ⟨.agg [.int .u64 e.i, .int .u64 e.t, .int .u64 e.s, .int .i64 e.k, .int .u64 e.l.c, .int .u64 e.l.r, .int .u32 e.l.f, .int .u32 e.l.n, .str e.d, .ro 4 (e.b.map lkR)], [], [], []⟩), (6, ⟨.tup [.arr [.int .u64 dm.l, .int .u64 dm.b, .str ds, .int .u64 w0.1, .int .u16 w0.2, .int .u64 w1.1, .int .u16 w1.2, .int .u64 w2.1, .int .u16 w2.2, .int .u64 w3.1, .int .u16 w3.2, .int .u64 w4.1, .int .u16 w4.2, .int .u64 w5.1, .int .u16 w5.2, .int .u64 w6.1, .int .u16 w6.2, .int .u64 w7.1, .int .u16 w7.2], .int .i64 0], [], [], []⟩), (10, ⟨.ptr 5 0, [], [(5, 6, .arr 32 [.int .u64 0, .int .u64 0, .str ⟨#[]⟩, .int .u64 0, .int .u16 0, .int .u64 0, .int .u16 0, .int .u64 0, .int .u16 0, .int .u64 0, .int .u16 0, .int .u64 0, .int .u16 0, .int .u64 0, .int .u16 0, .int .u64 0, .int .u16 0, .int .u64 0, .int .u16 0])], []⟩), (11, ⟨.tup [], [(5, .arr 32 [.int .u64 dm.l, .int .u64 dm.b, .str ds, .int .u64 w0.1, .int .u16 w0.2, .int .u64 w1.1, .int .u16 w1.2, .int .u64 w2.1, .int .u16 w2.2, .int .u64 w3.1, .int .u16 w3.2, .int .u64 w4.1, .int .u16 w4.2, .int .u64 w5.1, .int .u16 w5.2, .int .u64 w6.1, .int .u16 w6.2, .int .u64 w7.1, .int .u16 w7.2])], [], []⟩)] ?_ ?_ ?_
        · kernel_rfl
        · (simp only [tkO, dpO, tkN, AllOps, OpOK, mkR, autoV, autoR, labV, lkD, vOf, preT, preO, setTs, preV, wrt, memN, usesO, usesT, opT, optT, opsT, ptsT, setHs, objF, updD, newO, lkO, lkF, keysO, keysF, visN, deads, getL, setL, getO, setO, lenO, lenA, anys, setDs, setWr, setFr, endO, catD, List.getD_cons_zero, List.getD_cons_succ, List.getElem?_cons_zero, List.getElem?_cons_succ, List.cons_append, List.nil_append, List.append_nil, Nat.reduceAdd, Nat.reduceSub, ptrL, lenV, Bool.not_true, Bool.not_false, lookR, valOf, asGrow, jump, findA, restA, and, Nat.reduceAdd, Nat.reduceSub, Nat.reduceMul, Int.reduceToNat, eval, nf, nfO, opN, appTo, rowsV, getL, setL, getO, setO, snocO, lenO, putL, ev, evs, ifEq, killV, killL, kill1, kill1L, kill, kills, killO, killOs, bin, binI, binS, binB, eq1, eqB, lit, sameK, kn, unI, mxA, mnA, mkAgg, fits, partN, partA, resN, retV, allVal, isVal, allCell, isCell, okVal, okCell, cellsOf, fillN, rowsN, cellsN, bnd, lohi, offAt, overL, segL, leave, NodeOK, List.cons_append, List.nil_append, List.append_nil, catA, anys, lenA]; and_intros) <;> (first | exact trivial | ((refine eval_sound 2000 _ _ _ ?_; simp (maxSteps := 1000000) only [ptrL, lenV, Bool.not_true, Bool.not_false, lookR, valOf, asGrow, jump, findA, restA, and, Nat.reduceAdd, Nat.reduceSub, Nat.reduceMul, Int.reduceToNat, eval, nf, nfO, opN, appTo, rowsV, getL, setL, getO, setO, snocO, lenO, putL, ev, evs, ifEq, killV, killL, kill1, kill1L, kill, kills, killO, killOs, bin, binI, binS, binB, eq1, eqB, lit, sameK, kn, unI, mxA, mnA, mkAgg, fits, partN, partA, resN, retV, allVal, isVal, allCell, isCell, okVal, okCell, cellsOf, fillN, rowsN, cellsN, bnd, lohi, offAt, overL, segL, leave, NodeOK, List.cons_append, List.nil_append, List.append_nil, catA, anys, lenA]); try simp only [JR, dstOK, wrOK, frOK, rdOK, getL, getO]; try simp only [JR, dstOK, wrOK, frOK, rdOK, sig, sigF, isGrowB, mtc, mtcS, mtcSL, mtc0, mtc0L, mtcO, mtcL, memN, Nat.blt, rl, renV, renL, ren1, ren1L, ren, rens, renO, Nat.blt, lenO, getO, setO, setL, anys]; try simp))
          · rw [wru (by omega) (by omega)]
          · refine ⟨by omega, enR e, by rw [Int.toNat_natCast, List.getElem?_map, hje]; rfl, ?_⟩
            rw [enR_eq e]
            (refine eval_sound 2000 _ _ _ ?_; simp (maxSteps := 1000000) only [ptrL, lenV, Bool.not_true, Bool.not_false, lookR, valOf, asGrow, jump, findA, restA, and, Nat.reduceAdd, Nat.reduceSub, Nat.reduceMul, Int.reduceToNat, eval, nf, nfO, opN, appTo, rowsV, getL, setL, getO, setO, snocO, lenO, putL, ev, evs, ifEq, killV, killL, kill1, kill1L, kill, kills, killO, killOs, bin, binI, binS, binB, eq1, eqB, lit, sameK, kn, unI, mxA, mnA, mkAgg, fits, partN, partA, resN, retV, allVal, isVal, allCell, isCell, okVal, okCell, cellsOf, fillN, rowsN, cellsN, bnd, lohi, offAt, overL, segL, leave, NodeOK, List.cons_append, List.nil_append, List.append_nil, catA, anys, lenA])
            ((try simp only [JR, dstOK, wrOK, frOK, rdOK, getL, getO]); (try simp only [JR, dstOK, wrOK, frOK, rdOK, sig, sigF, isGrowB, mtc, mtcS, mtcSL, mtc0, mtc0L, mtcO, mtcL, memN, Nat.blt, rl, renV, renL, ren1, ren1L, ren, rens, renO, Nat.blt, lenO, getO, setO, setL, anys, enA]); try simp)
          · (refine aw_call (hdo) [] rfl (by simp [upM, nthN, matchO, rens, ren, ren1, ren1L, renL, renV, renO, rl, lenO, getO, Nat.blt, mtc, mtcS, mtcSL, mtc0, mtc0L, enA]) rfl (by simp [upM, nthN, matchO, rens, ren, ren1, ren1L, renL, renV, renO, rl, lenO, getO, Nat.blt, mtc, mtcS, mtcSL, mtc0, mtc0L, enA]) rfl (fun r hs hp hl => ?_); obtain ⟨rfl, rfl⟩ := hp; simp only [snocO, upM, nthN, putAll, snocAll, killsA, killOsA, grows, putL, rl, renV, renL, ren1, ren1L, ren, rens, renO, Nat.blt, lenO, getO, setO, setL, anys, enA]; (refine eval_sound 2000 _ _ _ ?_; simp (maxSteps := 1000000) only [ptrL, lenV, Bool.not_true, Bool.not_false, lookR, valOf, asGrow, jump, findA, restA, and, Nat.reduceAdd, Nat.reduceSub, Nat.reduceMul, Int.reduceToNat, eval, nf, nfO, opN, appTo, rowsV, getL, setL, getO, setO, snocO, lenO, putL, ev, evs, ifEq, killV, killL, kill1, kill1L, kill, kills, killO, killOs, bin, binI, binS, binB, eq1, eqB, lit, sameK, kn, unI, mxA, mnA, mkAgg, fits, partN, partA, resN, retV, allVal, isVal, allCell, isCell, okVal, okCell, cellsOf, fillN, rowsN, cellsN, bnd, lohi, offAt, overL, segL, leave, NodeOK, List.cons_append, List.nil_append, List.append_nil, catA, anys, lenA]); (try simp only [JR, dstOK, wrOK, frOK, rdOK, getL, getO]); (try simp only [JR, dstOK, wrOK, frOK, rdOK, sig, sigF, isGrowB, mtc, mtcS, mtcSL, mtc0, mtc0L, mtcO, mtcL, memN, Nat.blt, rl, renV, renL, ren1, ren1L, ren, rens, renO, Nat.blt, lenO, getO, setO, setL, anys, enA]); try simp)
        · (simp only [tkO, dpO, tkN, AllOps, OpOK, mkR, autoV, autoR, labV, lkD, vOf, preT, preO, setTs, preV, wrt, memN, usesO, usesT, opT, optT, opsT, ptsT, setHs, objF, updD, newO, lkO, lkF, keysO, keysF, visN, deads, getL, setL, getO, setO, lenO, lenA, anys, setDs, setWr, setFr, endO, catD, List.getD_cons_zero, List.getD_cons_succ, List.getElem?_cons_zero, List.getElem?_cons_succ, List.cons_append, List.nil_append, List.append_nil, Nat.reduceAdd, Nat.reduceSub, ptrL, lenV, Bool.not_true, Bool.not_false, lookR, valOf, asGrow, jump, findA, restA, and, Nat.reduceAdd, Nat.reduceSub, Nat.reduceMul, Int.reduceToNat, eval, nf, nfO, opN, appTo, rowsV, getL, setL, getO, setO, snocO, lenO, putL, ev, evs, ifEq, killV, killL, kill1, kill1L, kill, kills, killO, killOs, bin, binI, binS, binB, eq1, eqB, lit, sameK, kn, unI, mxA, mnA, mkAgg, fits, partN, partA, resN, retV, allVal, isVal, allCell, isCell, okVal, okCell, cellsOf, fillN, rowsN, cellsN, bnd, lohi, offAt, overL, segL, leave, NodeOK, List.cons_append, List.nil_append, List.append_nil, catA, anys, lenA]; (refine eval_sound 2000 _ _ _ ?_; simp (maxSteps := 1000000) only [ptrL, lenV, Bool.not_true, Bool.not_false, lookR, valOf, asGrow, jump, findA, restA, and, Nat.reduceAdd, Nat.reduceSub, Nat.reduceMul, Int.reduceToNat, eval, nf, nfO, opN, appTo, rowsV, getL, setL, getO, setO, snocO, lenO, putL, ev, evs, ifEq, killV, killL, kill1, kill1L, kill, kills, killO, killOs, bin, binI, binS, binB, eq1, eqB, lit, sameK, kn, unI, mxA, mnA, mkAgg, fits, partN, partA, resN, retV, allVal, isVal, allCell, isCell, okVal, okCell, cellsOf, fillN, rowsN, cellsN, bnd, lohi, offAt, overL, segL, leave, NodeOK, List.cons_append, List.nil_append, List.append_nil, catA, anys, lenA]))
          refine ⟨fun h => by simp at h, fun _ => ?_⟩
          (repeat (with_reducible refine And.intro ?_ ?_; focus (simp; done)))
          rw [wz]
          refine ⟨(zp + 1, (dm, ds, dt)), ⟨by show zp + 1 ≤ _; omega, htr, hst2, f2, hR2⟩, by show RR.length - (zp + 1) < RR.length - zp; omega, ?_⟩
          rw [show imC (zp + 1, (dm, ds, dt)).2.1 (zp + 1, (dm, ds, dt)).2.2.1 (zp + 1, (dm, ds, dt)).2.2.2 = imC dm ds dt from rfl, hw]
          (simp only [wrC, wrOs, keepT, memN, setsL, setsO, setL, setO, snocO, List.cons_append, List.nil_append, List.append_nil, Nat.reduceAdd, Nat.zero_add, Wk, mtc, mtcS, mtcSL, mtc0, mtc0L, mtcL, mtcO, mtcOs, cutM, takeE, stA, rl, renV, renL, ren1, ren1L, ren, rens, renO, Nat.blt, lenO, getO, setO, setL, anys, enA]; simp [enA])
      · rw [wp]
        refine ⟨(p + 1, (zm, zs, zt)), ⟨by show p + 1 ≤ 2; omega, hzx, hzs⟩, by show 2 - (p + 1) < 2 - p; omega, ?_⟩
        rw [show imC (p + 1, (zm, zs, zt)).2.1 (p + 1, (zm, zs, zt)).2.2.1 (p + 1, (zm, zs, zt)).2.2.2 = imC zm zs zt from rfl, hr]
        (simp only [wrC, wrOs, keepT, memN, setsL, setsO, setL, setO, snocO, List.cons_append, List.nil_append, List.append_nil, Nat.reduceAdd, Nat.zero_add, Wk, mtc, mtcS, mtcSL, mtc0, mtc0L, mtcL, mtcO, mtcOs, cutM, takeE, stA, rl, renV, renL, ren1, ren1L, ren, rens, renO, Nat.blt, lenO, getO, setO, setL, anys, enA]; simp [enA])
  · refine aw_trans (trans_nil 21 43 10 (by simp) rfl) ?_
    simp only [lenO, snocO, setL, List.length_map]
    refine aw_loopU (α := Nat) (fun k => k ≤ (chN l 1 n l.length).length) (fun k => [(123, .int .i64 (k : Nat)), (21, .own 4)]) (fun k => [(4, .grow 43 10 ((((chN l 1 n l.length).take k).filter fun e => hasM m e.i.toNat).map enR))]) (fun k => (chN l 1 n l.length).length - k) (0) (Nat.zero_le _) ?_ fun k hk => ?_
    · (simp only [wrC, wrOs, keepT, memN, setsL, setsO, setL, setO, snocO, List.cons_append, List.nil_append, List.append_nil, Nat.reduceAdd, Nat.zero_add, Wk, mtc, mtcS, mtcSL, mtc0, mtc0L, mtcL, mtcO, mtcOs, cutM, takeE, stA, rl, renV, renL, ren1, ren1L, ren, rens, renO, Nat.blt, lenO, getO, setO, setL, anys, enA]; simp [enA])
    (simp only [wrC, wrOs, keepT, memN, setsL, setsO, setL, setO, snocO, List.cons_append, List.nil_append, List.append_nil, Nat.reduceAdd, Nat.zero_add, enA]; (refine eval_sound 2000 _ _ _ ?_; simp (maxSteps := 1000000) only [ptrL, lenV, Bool.not_true, Bool.not_false, lookR, valOf, asGrow, jump, findA, restA, and, Nat.reduceAdd, Nat.reduceSub, Nat.reduceMul, Int.reduceToNat, eval, nf, nfO, opN, appTo, rowsV, getL, setL, getO, setO, snocO, lenO, putL, ev, evs, ifEq, killV, killL, kill1, kill1L, kill, kills, killO, killOs, bin, binI, binS, binB, eq1, eqB, lit, sameK, kn, unI, mxA, mnA, mkAgg, fits, partN, partA, resN, retV, allVal, isVal, allCell, isCell, okVal, okCell, cellsOf, fillN, rowsN, cellsN, bnd, lohi, offAt, overL, segL, leave, NodeOK, List.cons_append, List.nil_append, List.append_nil, catA, anys, lenA]))
    simp only [decide_eq_true_eq, decide_eq_false_iff_not]
    refine ⟨fun h5 => ?_, fun h5 => ?_⟩
    · obtain ⟨e, he⟩ : ∃ e, (chN l 1 n l.length)[k]? = some e := ⟨_, List.getElem?_eq_getElem (by omega)⟩
      have wk : IntKind.i64.wrap ((k : Int) + 1) = ((k + 1 : Nat) : Int) := by rw [wr64 (by omega) (by omega)]; rfl
      have hei := (hall e (List.mem_of_getElem? he)).1.i
      unfold U64 at hei
      have hh := has_c m e.i.toNat (gd_ok hx.g) (by omega)
      rw [Int.toNat_of_nonneg hei.1] at hh
      have htk : ((chN l 1 n l.length).take (k + 1)).filter (fun e => hasM m e.i.toNat) = ((chN l 1 n l.length).take k).filter (fun e => hasM m e.i.toNat) ++ (if hasM m e.i.toNat = true then [e] else []) := by
        rw [List.take_add_one, he, List.filter_append, Option.toList_some, List.filter_cons, List.filter_nil]
      have hfl : (((chN l 1 n l.length).take k).filter fun e => hasM m e.i.toNat).length ≤ 40 := by
        have h1 := List.length_filter_le (fun e => hasM m e.i.toNat) ((chN l 1 n l.length).take k)
        rw [List.length_take] at h1; omega
      generalize ((chN l 1 n l.length).take k).filter (fun e => hasM m e.i.toNat) = FK at *
      refine ⟨by omega, enR e, by rw [Int.toNat_natCast, List.getElem?_map, he]; rfl, ?_⟩
      rw [enR_eq e]
      (refine eval_sound 2000 _ _ _ ?_; simp (maxSteps := 1000000) only [ptrL, lenV, Bool.not_true, Bool.not_false, lookR, valOf, asGrow, jump, findA, restA, and, Nat.reduceAdd, Nat.reduceSub, Nat.reduceMul, Int.reduceToNat, eval, nf, nfO, opN, appTo, rowsV, getL, setL, getO, setO, snocO, lenO, putL, ev, evs, ifEq, killV, killL, kill1, kill1L, kill, kills, killO, killOs, bin, binI, binS, binB, eq1, eqB, lit, sameK, kn, unI, mxA, mnA, mkAgg, fits, partN, partA, resN, retV, allVal, isVal, allCell, isCell, okVal, okCell, cellsOf, fillN, rowsN, cellsN, bnd, lohi, offAt, overL, segL, leave, NodeOK, List.cons_append, List.nil_append, List.append_nil, catA, anys, lenA])
      (repeat (with_reducible refine And.intro ?_ ?_; focus (simp; done)))
      ((repeat (with_reducible refine And.intro ?_ ?_; focus (simp; done))); refine aw_call (hh) [] rfl (by simp [upM, nthN, matchO, rens, ren, ren1, ren1L, renL, renV, renO, rl, lenO, getO, Nat.blt, mtc, mtcS, mtcSL, mtc0, mtc0L, mkA]) rfl (by simp [upM, nthN, matchO, rens, ren, ren1, ren1L, renL, renV, renO, rl, lenO, getO, Nat.blt, mtc, mtcS, mtcSL, mtc0, mtc0L, mkA]) rfl (fun r hs hp hl => ?_); obtain ⟨rfl, rfl⟩ := hp; simp only [snocO, upM, nthN, putAll, snocAll, killsA, killOsA, grows, putL, rl, renV, renL, ren1, ren1L, ren, rens, renO, Nat.blt, lenO, getO, setO, setL, anys, mkA]; (refine eval_sound 2000 _ _ _ ?_; simp (maxSteps := 1000000) only [ptrL, lenV, Bool.not_true, Bool.not_false, lookR, valOf, asGrow, jump, findA, restA, and, Nat.reduceAdd, Nat.reduceSub, Nat.reduceMul, Int.reduceToNat, eval, nf, nfO, opN, appTo, rowsV, getL, setL, getO, setO, snocO, lenO, putL, ev, evs, ifEq, killV, killL, kill1, kill1L, kill, kills, killO, killOs, bin, binI, binS, binB, eq1, eqB, lit, sameK, kn, unI, mxA, mnA, mkAgg, fits, partN, partA, resN, retV, allVal, isVal, allCell, isCell, okVal, okCell, cellsOf, fillN, rowsN, cellsN, bnd, lohi, offAt, overL, segL, leave, NodeOK, List.cons_append, List.nil_append, List.append_nil, catA, anys, lenA]))
      refine ⟨fun h6 => ?_, fun h6 => ?_⟩
      · rw [if_pos h6] at htk
        (repeat (with_reducible refine And.intro ?_ ?_; focus (simp; done)))
        rw [wk]
        refine ⟨by simp; omega, k + 1, by omega, by omega, ?_⟩
        rw [htk]
        (simp only [wrC, wrOs, keepT, memN, setsL, setsO, setL, setO, snocO, List.cons_append, List.nil_append, List.append_nil, Nat.reduceAdd, Nat.zero_add, Wk, mtc, mtcS, mtcSL, mtc0, mtc0L, mtcL, mtcO, mtcOs, cutM, takeE, stA, rl, renV, renL, ren1, ren1L, ren, rens, renO, Nat.blt, lenO, getO, setO, setL, anys, enA, enR, List.map_append]; simp [enA, enR, List.map_append])
      · rw [if_neg (by rw [h6]; simp), List.append_nil] at htk
        rw [wk]
        refine ⟨k + 1, by omega, by omega, ?_⟩
        rw [htk]
        (simp only [wrC, wrOs, keepT, memN, setsL, setsO, setL, setO, snocO, List.cons_append, List.nil_append, List.append_nil, Nat.reduceAdd, Nat.zero_add, Wk, mtc, mtcS, mtcSL, mtc0, mtc0L, mtcL, mtcO, mtcOs, cutM, takeE, stA, rl, renV, renL, ren1, ren1L, ren, rens, renO, Nat.blt, lenO, getO, setO, setL, anys, enA]; simp [enA])
    · have hke : k = (chN l 1 n l.length).length := by omega
      obtain ⟨e1, e2⟩ := rp_same hl40 hge hS0 tz hst
      rw [hke, List.take_of_length_le (Nat.le_refl _)]
      have hfs : ∀ e ∈ (chN l 1 n l.length).filter (fun e => hasM m e.i.toNat), e ∈ chN l 1 n l.length := fun e he => (List.mem_filter.1 he).1
      have hfl := List.length_filter_le (fun e => hasM m e.i.toNat) (chN l 1 n l.length)
      generalize (chN l 1 n l.length).filter (fun e => hasM m e.i.toNat) = FK at *
      have hrp := replay_c (⟨0, 0⟩, S0, tz) ⟨gd_zero, hS0, tz_ok⟩ FK (by omega) (fun e he => (hall e (hfs e he)).1) (fun e he => by have := (hall e (hfs e he)).2.2; omega)
      have hrt := tr_rp FK (x := (⟨0, 0⟩, S0, tz)) ⟨gd_zero, hS0, tz_ok⟩ (fun e he => (hall e (hfs e he)).1)
      generalize rpI FK (⟨0, 0⟩, S0, tz) = X at *
      obtain ⟨xm, xs, xt⟩ := X
      simp only [] at e1 e2 hrp hrt
      subst e1
      subst e2
      obtain ⟨w0, w1, w2, w3, w4, w5, w6, w7, hwe, hw⟩ := imE xm xs hrt.t.len
      rw [hbz, hw] at hrp
      (repeat (with_reducible refine And.intro ?_ ?_; focus (simp; done)))
      (refine acall_trans (trans_frz 4 _ _ _ rfl) ?_; simp only [snocO, mapA, frz, frz1, frzV, mapO, frzO, ifEq, setO, getO, getL, setL])
      ((repeat (with_reducible refine And.intro ?_ ?_; focus (simp; done))); refine aw_call (hrp) [] rfl (by simp [upM, nthN, matchO, rens, ren, ren1, ren1L, renL, renV, renO, rl, lenO, getO, Nat.blt, mtc, mtcS, mtcSL, mtc0, mtc0L, enA]) rfl (by simp [upM, nthN, matchO, rens, ren, ren1, ren1L, renL, renV, renO, rl, lenO, getO, Nat.blt, mtc, mtcS, mtcSL, mtc0, mtc0L, enA]) rfl (fun r hs hp hl => ?_); obtain ⟨rfl, rfl⟩ := hp; simp only [snocO, upM, nthN, putAll, snocAll, killsA, killOsA, grows, putL, rl, renV, renL, ren1, ren1L, ren, rens, renO, Nat.blt, lenO, getO, setO, setL, anys, enA]; (refine eval_sound 2000 _ _ _ ?_; simp (maxSteps := 1000000) only [ptrL, lenV, Bool.not_true, Bool.not_false, lookR, valOf, asGrow, jump, findA, restA, and, Nat.reduceAdd, Nat.reduceSub, Nat.reduceMul, Int.reduceToNat, eval, nf, nfO, opN, appTo, rowsV, getL, setL, getO, setO, snocO, lenO, putL, ev, evs, ifEq, killV, killL, kill1, kill1L, kill, kills, killO, killOs, bin, binI, binS, binB, eq1, eqB, lit, sameK, kn, unI, mxA, mnA, mkAgg, fits, partN, partA, resN, retV, allVal, isVal, allCell, isCell, okVal, okCell, cellsOf, fillN, rowsN, cellsN, bnd, lohi, offAt, overL, segL, leave, NodeOK, List.cons_append, List.nil_append, List.append_nil, catA, anys, lenA]))
      refine ⟨rfl, fun _ => ⟨by simp, by simp, by simp [Fit], fun _ => ?_, fun h => by simp [eqCells, eqCell] at h⟩, fun h => by simp at h⟩
      ((repeat (with_reducible refine And.intro ?_ ?_; focus (simp; done))); refine aw_call (lives22) [] rfl (by simp [upM, nthN, matchO, rens, ren, ren1, ren1L, renL, renV, renO, rl, lenO, getO, Nat.blt, mtc, mtcS, mtcSL, mtc0, mtc0L, enA]) rfl (by simp [upM, nthN, matchO, rens, ren, ren1, ren1L, renL, renV, renO, rl, lenO, getO, Nat.blt, mtc, mtcS, mtcSL, mtc0, mtc0L, enA]) rfl (fun r hs hp hl => ?_); obtain ⟨rfl, rfl⟩ := hp; simp only [snocO, upM, nthN, putAll, snocAll, killsA, killOsA, grows, putL, rl, renV, renL, ren1, ren1L, ren, rens, renO, Nat.blt, lenO, getO, setO, setL, anys, enA]; (refine eval_sound 2000 _ _ _ ?_; simp (maxSteps := 1000000) only [ptrL, lenV, Bool.not_true, Bool.not_false, lookR, valOf, asGrow, jump, findA, restA, and, Nat.reduceAdd, Nat.reduceSub, Nat.reduceMul, Int.reduceToNat, eval, nf, nfO, opN, appTo, rowsV, getL, setL, getO, setO, snocO, lenO, putL, ev, evs, ifEq, killV, killL, kill1, kill1L, kill, kills, killO, killOs, bin, binI, binS, binB, eq1, eqB, lit, sameK, kn, unI, mxA, mnA, mkAgg, fits, partN, partA, resN, retV, allVal, isVal, allCell, isCell, okVal, okCell, cellsOf, fillN, rowsN, cellsN, bnd, lohi, offAt, overL, segL, leave, NodeOK, List.cons_append, List.nil_append, List.append_nil, catA, anys, lenA]))
      ((repeat (with_reducible refine And.intro ?_ ?_; focus (simp; done))); refine ⟨[], rfl, _, _, ?_, ?_, rfl, rfl⟩ <;> simp [Wk, mtc, mtcS, mtcSL, mtc0, mtc0L, mtcL, mtcO, mtcOs, cutM, takeE, stA, rl, renV, renL, ren1, ren1L, ren, rens, renO, Nat.blt, lenO, getO, setO, setL, anys, okS, endM, endH, idxN, takeE, pickE, catO, rl, renV, renL, ren1, ren1L, ren, rens, renO, Nat.blt, lenO, getO, setO, setL, anys, enA])
end Go.Proofs.YtlnafekmiidpkaaDoor.S
