/- Tables of done requests as cells; their bytes. -/
import Derived.Test.YtapfediapkklnaaDbO
import Derived.Test.YtapfediapkklnaaDoneLives
namespace Go.Proofs.Ytapfediapkklnaa.S
open Go.RowKit
set_option linter.all false
set_option maxRecDepth 100000
theorem acalls_pure {P : Program} {f : Nat} (he : entersB P f = true) (v : Bool) (h : ∀ w, Calls P f #[] w fun e w' => e = .returned (.bool v) ∧ Below w.heap.size w w') : ACalls P f [] [] (fun r hs => r = .bool v ∧ hs = []) := by
  refine ⟨he, fun gs Pr w vs hr hv => ?_⟩
  have : vs = #[] := by have := hv.1; simpa using this
  subst this
  refine (h w).mono fun e w' ⟨h1, h2⟩ => ?_
  subst h1
  refine ⟨.bool v, .bool v, [], gs, Pr, rfl, ⟨rfl, rfl⟩, .lf (.bool v), ?_, ?_, fun b hb => hb, fun b hb => .inl hb, fun k hk => absurd hk (Nat.not_lt_zero k), Nat.le_refl _, fun k hk => absurd hk (Nat.not_lt_zero k)⟩
  · exact ⟨fun k hk => absurd hk (Nat.not_lt_zero k), fun i j hi => absurd hi (Nat.not_lt_zero i), fun k hk => absurd hk (Nat.not_lt_zero k), fun b hb => Nat.lt_of_lt_of_le (hr.pr b hb) h2.size⟩
  · exact ⟨h2.os, h2.tape, h2.output, h2.size, fun b hb _ => h2.block b hb⟩
theorem dlives : ACalls Try.prog 17 [] [] (fun r hs => r = .bool true ∧ hs = []) := acalls_pure en_17 true fun w => lives_any w
def cellsT (l : List (Int × Int)) : List AV := l.flatMap fun c => [.int .u64 c.1, .int .u16 c.2]
theorem cellsT_len (l : List (Int × Int)) : (cellsT l).length = 2 * l.length := by
  induction l with
  | nil => rfl
  | cons x l ih => simp [cellsT] at ih ⊢; omega
theorem cellsT_cons (x : Int × Int) (l : List (Int × Int)) : cellsT (x :: l) = .int .u64 x.1 :: .int .u16 x.2 :: cellsT l := rfl
theorem seg_tab : ∀ (l : List (Int × Int)) (k : Nat) (c : Int × Int), l[k]? = some c → seg (cellsT l) (k * 2) 2 = [.int .u64 c.1, .int .u16 c.2]
  | [], k, c, h => by simp at h
  | x :: l, 0, c, h => by simp at h; subst h; simp [seg, cellsT_cons]
  | x :: l, k + 1, c, h => by
    have := seg_tab l k c (by simpa using h)
    unfold seg at this ⊢
    rw [cellsT_cons, show (k + 1) * 2 = (k * 2) + 1 + 1 by omega]
    simpa using this
theorem over_tab : ∀ (l : List (Int × Int)) (k : Nat) (a b : Int), k < l.length → over (cellsT l) (k * 2) [.int .u64 a, .int .u16 b] = cellsT (l.set k (a, b))
  | [], k, a, b, h => by simp at h
  | x :: l, 0, a, b, h => by simp [over, cellsT_cons]
  | x :: l, k + 1, a, b, h => by
    have := over_tab l k a b (by simpa using h)
    unfold over at this ⊢
    rw [cellsT_cons, show (k + 1) * 2 = (k * 2) + 1 + 1 by omega, List.set_cons_succ, cellsT_cons, ← this]
    simp [Nat.add_right_comm]
def tabA (l : List (Int × Int)) : AV := .arr (cellsT l)
def bytesT (l : List (Int × Int)) : List (List AV) := l.flatMap fun c => numS c.1 8 ++ numS c.2 2
theorem dbytes (l : List (Int × Int)) (hl : l.length = 8) (hr : ∀ c ∈ l, 0 ≤ c.2 ∧ c.2 < 65536) : ACalls Try.prog 32 [tabA l] [] (fun r hs => r = .ro 1 (bytesT l) ∧ hs = []) := by
  refine acalls_weak (acalls_of (fn := Try.f32) (A := a32) Try.func32 ok_32 en_32 ?_)
  dsimp only [a32, tabA]
  (refine eval_sound 2000 _ _ _ ?_; simp only [and, Nat.reduceAdd, Nat.reduceSub, Nat.reduceMul, eval, nf, nfO, opN, appTo, rowsV, getL, setL, getO, setO, snocO, lenO, putL, ev, evs, ifEq, killV, killL, kill1, kill1L, kill, kills, killO, killOs, bin, binI, binS, binB, eq1, eqB, lit, sameK, kn, unI, mxA, mnA, mkAgg, fits, partN, partA, resN, retV, allVal, isVal, allCell, isCell, okVal, okCell, cellsOf, fillN, rowsN, cellsN, bnd, lohi, offAt, overL, segL, leave, NodeOK, List.cons_append, List.nil_append, List.append_nil, catA, anys, lenA])
  refine ⟨by rw [cellsT_len, hl]; decide, ?_⟩
  have e0 : segL (cellsT l) 0 16 = cellsT l := by rw [segL_eq, List.drop_zero, List.take_of_length_le (by rw [cellsT_len, hl]; decide)]
  simp only [e0]
  refine aw_loopU (α := Nat) (fun k => k ≤ 8) (fun k => [(6, .int .i64 k), (2, .ro 1 (bytesT (l.take k)))]) (fun k => []) (fun k => 8 - k) (0) (Nat.zero_le _) ?_ fun x hx => ?_
  · (simp only [wrC, wrOs, keepT, memN, setsL, setsO, setL, setO, snocO, List.cons_append, List.nil_append, List.append_nil, Nat.reduceAdd, Nat.zero_add, Wk, mtc, mtc0, mtc0L, mtcL, mtcO, mtcOs, cutM, takeE, stA, rl, renV, renL, ren1, ren1L, ren, rens, renO, Nat.blt, lenO, getO, setO, setL, anys, tabA]; simp [tabA])
    rfl
  (simp only [wrC, wrOs, keepT, memN, setsL, setsO, setL, setO, snocO, List.cons_append, List.nil_append, List.append_nil, Nat.reduceAdd, Nat.zero_add, tabA]; (refine eval_sound 2000 _ _ _ ?_; simp only [and, Nat.reduceAdd, Nat.reduceSub, Nat.reduceMul, eval, nf, nfO, opN, appTo, rowsV, getL, setL, getO, setO, snocO, lenO, putL, ev, evs, ifEq, killV, killL, kill1, kill1L, kill, kills, killO, killOs, bin, binI, binS, binB, eq1, eqB, lit, sameK, kn, unI, mxA, mnA, mkAgg, fits, partN, partA, resN, retV, allVal, isVal, allCell, isCell, okVal, okCell, cellsOf, fillN, rowsN, cellsN, bnd, lohi, offAt, overL, segL, leave, NodeOK, List.cons_append, List.nil_append, List.append_nil, catA, anys, lenA]))
  simp only [decide_eq_true_eq, decide_eq_false_iff_not]
  refine ⟨fun h4 => ?_, fun h4 => ?_⟩
  · have hk : x < l.length := by omega
    obtain ⟨c, hc⟩ : ∃ c, l[x]? = some c := ⟨_, List.getElem?_eq_getElem hk⟩
    have hcr := hr c (List.mem_of_getElem? hc)
    have hsg := seg_tab l x c hc
    have ht : bytesT (l.take (x + 1)) = putS (putS (bytesT (l.take x)) 8 [c.1]) 2 [c.2] := by
      rw [List.take_add_one, hc]
      simp [bytesT, putS]
    have hbl : (bytesT (l.take x)).length ≤ 80 := by
      have : ∀ m : List (Int × Int), (bytesT m).length = 10 * m.length := fun m => by
        induction m with
        | nil => rfl
        | cons y m ih => simp [bytesT, numS_len] at ih ⊢; omega
      rw [this, List.length_take]; omega
    generalize bytesT (l.take x) = b at *
    have hbl2 : (putS b 8 [c.1]).length ≤ 90 := by simp [putS, numS_len]; omega
    simp only [Int.toNat_natCast, hsg, overL]
    refine ⟨⟨by omega, by omega, by rw [cellsT_len]; omega⟩, by simp, ?_⟩
    refine aw_dregA (show Try.prog.follows .mixedOrders = true by kernel_rfl) 2 [(3, ⟨.ro 1 (u64s [c.1]), [], [], []⟩), (4, ⟨.ro 1 (putS b 8 [c.1]), [], [], []⟩), (7, ⟨.int .u64 c.2, [], [], []⟩), (8, ⟨.ro 1 (u64s [c.2]), [], [], []⟩), (9, ⟨.ro 1 (putS (putS b 8 [c.1]) 2 [c.2]), [], [], []⟩)] ?_ ?_ ?_
    · kernel_rfl
    · simp only [u64s, List.map_cons, List.map_nil]
      (simp only [AllOps, OpOK, mkR, autoV, autoR, labV, lkD, vOf, preT, preO, setTs, preV, wrt, memN, usesO, usesT, opT, optT, opsT, ptsT, setHs, objF, updD, newO, lkO, lkF, keysO, keysF, visN, deads, getL, setL, getO, setO, lenO, lenA, anys, setDs, setWr, setFr, endO, catD, List.getD_cons_zero, List.getD_cons_succ, List.getElem?_cons_zero, List.getElem?_cons_succ, List.cons_append, List.nil_append, List.append_nil, Nat.reduceAdd, Nat.reduceSub, and, Nat.reduceAdd, Nat.reduceSub, Nat.reduceMul, eval, nf, nfO, opN, appTo, rowsV, getL, setL, getO, setO, snocO, lenO, putL, ev, evs, ifEq, killV, killL, kill1, kill1L, kill, kills, killO, killOs, bin, binI, binS, binB, eq1, eqB, lit, sameK, kn, unI, mxA, mnA, mkAgg, fits, partN, partA, resN, retV, allVal, isVal, allCell, isCell, okVal, okCell, cellsOf, fillN, rowsN, cellsN, bnd, lohi, offAt, overL, segL, leave, NodeOK, List.cons_append, List.nil_append, List.append_nil, catA, anys, lenA]; and_intros) <;> (first | exact trivial | (refine eval_sound 2 _ _ _ ?_; simp only [and, Nat.reduceAdd, Nat.reduceSub, Nat.reduceMul, eval, nf, nfO, opN, appTo, rowsV, getL, setL, getO, setO, snocO, lenO, putL, ev, evs, ifEq, killV, killL, kill1, kill1L, kill, kills, killO, killOs, bin, binI, binS, binB, eq1, eqB, lit, sameK, kn, unI, mxA, mnA, mkAgg, fits, partN, partA, resN, retV, allVal, isVal, allCell, isCell, okVal, okCell, cellsOf, fillN, rowsN, cellsN, bnd, lohi, offAt, overL, segL, leave, NodeOK, List.cons_append, List.nil_append, List.append_nil, catA, anys, lenA]; (refine aw_trans (trans_frz 2 _ _ _ rfl) ?_; simp only [snocO, mapA, frz, frz1, frzV, mapO, frzO, ifEq, setO, getO, getL, setL]); (refine eval_sound 2000 _ _ _ ?_; simp only [and, Nat.reduceAdd, Nat.reduceSub, Nat.reduceMul, eval, nf, nfO, opN, appTo, rowsV, getL, setL, getO, setO, snocO, lenO, putL, ev, evs, ifEq, killV, killL, kill1, kill1L, kill, kills, killO, killOs, bin, binI, binS, binB, eq1, eqB, lit, sameK, kn, unI, mxA, mnA, mkAgg, fits, partN, partA, resN, retV, allVal, isVal, allCell, isCell, okVal, okCell, cellsOf, fillN, rowsN, cellsN, bnd, lohi, offAt, overL, segL, leave, NodeOK, List.cons_append, List.nil_append, List.append_nil, catA, anys, lenA]); (try simp only [JR, dstOK, wrOK, frOK, rdOK, getL, getO]); (try simp only [JR, dstOK, wrOK, frOK, rdOK, sig, sigF, isGrowB, mtc, mtc0, mtc0L, mtcO, mtcL, memN, Nat.blt, rl, renV, renL, ren1, ren1L, ren, rens, renO, Nat.blt, lenO, getO, setO, setL, anys]); simp; done) | ((refine eval_sound 2000 _ _ _ ?_; simp only [and, Nat.reduceAdd, Nat.reduceSub, Nat.reduceMul, eval, nf, nfO, opN, appTo, rowsV, getL, setL, getO, setO, snocO, lenO, putL, ev, evs, ifEq, killV, killL, kill1, kill1L, kill, kills, killO, killOs, bin, binI, binS, binB, eq1, eqB, lit, sameK, kn, unI, mxA, mnA, mkAgg, fits, partN, partA, resN, retV, allVal, isVal, allCell, isCell, okVal, okCell, cellsOf, fillN, rowsN, cellsN, bnd, lohi, offAt, overL, segL, leave, NodeOK, List.cons_append, List.nil_append, List.append_nil, catA, anys, lenA]); try simp only [JR, dstOK, wrOK, frOK, rdOK, getL, getO]; try simp only [JR, dstOK, wrOK, frOK, rdOK, sig, sigF, isGrowB, mtc, mtc0, mtc0L, mtcO, mtcL, memN, Nat.blt, rl, renV, renL, ren1, ren1L, ren, rens, renO, Nat.blt, lenO, getO, setO, setL, anys]; try simp))
      · (refine aw_call (put_calls b 8 [c.1] (by simp; omega)) [] rfl (by simp [upM, nthN, matchO, rens, ren, ren1, ren1L, renL, renV, renO, rl, lenO, getO, Nat.blt, mtc, mtc0, mtc0L, u64s]) rfl (by simp [upM, nthN, matchO, rens, ren, ren1, ren1L, renL, renV, renO, rl, lenO, getO, Nat.blt, mtc, mtc0, mtc0L, u64s]) rfl (fun r hs hp hl => ?_); obtain ⟨rfl, rfl⟩ := hp; simp only [snocO, upM, nthN, putAll, snocAll, killsA, killOsA, grows, putL, rl, renV, renL, ren1, ren1L, ren, rens, renO, Nat.blt, lenO, getO, setO, setL, anys, u64s]; (refine aw_trans (trans_frz 2 _ _ _ rfl) ?_; simp only [snocO, mapA, frz, frz1, frzV, mapO, frzO, ifEq, setO, getO, getL, setL]); (refine eval_sound 2000 _ _ _ ?_; simp only [and, Nat.reduceAdd, Nat.reduceSub, Nat.reduceMul, eval, nf, nfO, opN, appTo, rowsV, getL, setL, getO, setO, snocO, lenO, putL, ev, evs, ifEq, killV, killL, kill1, kill1L, kill, kills, killO, killOs, bin, binI, binS, binB, eq1, eqB, lit, sameK, kn, unI, mxA, mnA, mkAgg, fits, partN, partA, resN, retV, allVal, isVal, allCell, isCell, okVal, okCell, cellsOf, fillN, rowsN, cellsN, bnd, lohi, offAt, overL, segL, leave, NodeOK, List.cons_append, List.nil_append, List.append_nil, catA, anys, lenA]); (try simp only [JR, dstOK, wrOK, frOK, rdOK, getL, getO]); (try simp only [JR, dstOK, wrOK, frOK, rdOK, sig, sigF, isGrowB, mtc, mtc0, mtc0L, mtcO, mtcL, memN, Nat.blt, rl, renV, renL, ren1, ren1L, ren, rens, renO, Nat.blt, lenO, getO, setO, setL, anys, u64s]); try simp)
      · exact (IntWalk.u64_in _ ⟨by omega, by omega⟩).symm
      · (refine aw_call (put_calls (putS b 8 [c.1]) 2 [c.2] (by simp; omega)) [] rfl (by simp [upM, nthN, matchO, rens, ren, ren1, ren1L, renL, renV, renO, rl, lenO, getO, Nat.blt, mtc, mtc0, mtc0L, u64s]) rfl (by simp [upM, nthN, matchO, rens, ren, ren1, ren1L, renL, renV, renO, rl, lenO, getO, Nat.blt, mtc, mtc0, mtc0L, u64s]) rfl (fun r hs hp hl => ?_); obtain ⟨rfl, rfl⟩ := hp; simp only [snocO, upM, nthN, putAll, snocAll, killsA, killOsA, grows, putL, rl, renV, renL, ren1, ren1L, ren, rens, renO, Nat.blt, lenO, getO, setO, setL, anys, u64s]; (refine aw_trans (trans_frz 2 _ _ _ rfl) ?_; simp only [snocO, mapA, frz, frz1, frzV, mapO, frzO, ifEq, setO, getO, getL, setL]); (refine eval_sound 2000 _ _ _ ?_; simp only [and, Nat.reduceAdd, Nat.reduceSub, Nat.reduceMul, eval, nf, nfO, opN, appTo, rowsV, getL, setL, getO, setO, snocO, lenO, putL, ev, evs, ifEq, killV, killL, kill1, kill1L, kill, kills, killO, killOs, bin, binI, binS, binB, eq1, eqB, lit, sameK, kn, unI, mxA, mnA, mkAgg, fits, partN, partA, resN, retV, allVal, isVal, allCell, isCell, okVal, okCell, cellsOf, fillN, rowsN, cellsN, bnd, lohi, offAt, overL, segL, leave, NodeOK, List.cons_append, List.nil_append, List.append_nil, catA, anys, lenA]); (try simp only [JR, dstOK, wrOK, frOK, rdOK, getL, getO]); (try simp only [JR, dstOK, wrOK, frOK, rdOK, sig, sigF, isGrowB, mtc, mtc0, mtc0L, mtcO, mtcL, memN, Nat.blt, rl, renV, renL, ren1, ren1L, ren, rens, renO, Nat.blt, lenO, getO, setO, setL, anys, u64s]); try simp)
    · (simp only [AllOps, OpOK, mkR, autoV, autoR, labV, lkD, vOf, preT, preO, setTs, preV, wrt, memN, usesO, usesT, opT, optT, opsT, ptsT, setHs, objF, updD, newO, lkO, lkF, keysO, keysF, visN, deads, getL, setL, getO, setO, lenO, lenA, anys, setDs, setWr, setFr, endO, catD, List.getD_cons_zero, List.getD_cons_succ, List.getElem?_cons_zero, List.getElem?_cons_succ, List.cons_append, List.nil_append, List.append_nil, Nat.reduceAdd, Nat.reduceSub, and, Nat.reduceAdd, Nat.reduceSub, Nat.reduceMul, eval, nf, nfO, opN, appTo, rowsV, getL, setL, getO, setO, snocO, lenO, putL, ev, evs, ifEq, killV, killL, kill1, kill1L, kill, kills, killO, killOs, bin, binI, binS, binB, eq1, eqB, lit, sameK, kn, unI, mxA, mnA, mkAgg, fits, partN, partA, resN, retV, allVal, isVal, allCell, isCell, okVal, okCell, cellsOf, fillN, rowsN, cellsN, bnd, lohi, offAt, overL, segL, leave, NodeOK, List.cons_append, List.nil_append, List.append_nil, catA, anys, lenA]; (refine eval_sound 2000 _ _ _ ?_; simp only [and, Nat.reduceAdd, Nat.reduceSub, Nat.reduceMul, eval, nf, nfO, opN, appTo, rowsV, getL, setL, getO, setO, snocO, lenO, putL, ev, evs, ifEq, killV, killL, kill1, kill1L, kill, kills, killO, killOs, bin, binI, binS, binB, eq1, eqB, lit, sameK, kn, unI, mxA, mnA, mkAgg, fits, partN, partA, resN, retV, allVal, isVal, allCell, isCell, okVal, okCell, cellsOf, fillN, rowsN, cellsN, bnd, lohi, offAt, overL, segL, leave, NodeOK, List.cons_append, List.nil_append, List.append_nil, catA, anys, lenA]))
      rw [wr64 (n := (x : Int) + 1) (by omega) (by omega), ← ht]
      refine ⟨x + 1, by omega, by omega, ?_⟩
      (simp only [wrC, wrOs, keepT, memN, setsL, setsO, setL, setO, snocO, List.cons_append, List.nil_append, List.append_nil, Nat.reduceAdd, Nat.zero_add, Wk, mtc, mtc0, mtc0L, mtcL, mtcO, mtcOs, cutM, takeE, stA, rl, renV, renL, ren1, ren1L, ren, rens, renO, Nat.blt, lenO, getO, setO, setL, anys, tabA]; simp [tabA])
  · have : x = l.length := by omega
    subst this
    rw [List.take_length]
    (refine ⟨[], rfl, _, _, ?_, ?_, rfl, rfl⟩ <;> simp [Wk, mtc, mtc0, mtc0L, mtcL, mtcO, mtcOs, cutM, takeE, stA, rl, renV, renL, ren1, ren1L, ren, rens, renO, Nat.blt, lenO, getO, setO, setL, anys, okS, endM, endH, idxN, takeE, pickE, catO, rl, renV, renL, ren1, ren1L, ren, rens, renO, Nat.blt, lenO, getO, setO, setL, anys, tabA])
end Go.Proofs.Ytapfediapkklnaa.S
