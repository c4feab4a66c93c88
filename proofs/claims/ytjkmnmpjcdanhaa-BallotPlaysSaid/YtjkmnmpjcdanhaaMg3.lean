/- Contracts of merge: all entries are looked at. -/
import Derived.Test.YtjkmnmpjcdanhaaMg2
namespace Go.Proofs.Ytjkmnmpjcdanhaa.S
set_option linter.all false
set_option maxRecDepth 100000
set_option maxHeartbeats 1000000
section
variable (all : List (List En)) (g : Nat) (b : Int) (W : Int → Bool)
theorem find_b (hg : WOK g b W) (ha : Few all) : ACalls Try.prog 82 [.ro 1 (listsR all), .fn 83 [] [.ptr 2 0, .ptr 4 0, .ptr 3 0]] (HB all g b Mp.emp)
    (fun r hs => ∃ M, Rp M (mF W all.flatten all.flatten) ∧ r = .tup [enA en0, .ff] ∧ hs = HB all g b M) := by
  have hn := ha.n
  have hlen : (listsR all).length = all.length := by simp [listsR]
  refine acalls_weak (acalls_of (fn := Try.f82) (A := a82) Try.func82 ok_82 en_82 ?_)
  dsimp only [a82, enA, HB]
  (refine eval_sound 2000 _ _ _ ?_; simp (maxSteps := 1000000) only [ptrL, lenV, Bool.not_true, Bool.not_false, lookR, valOf, asGrow, jump, findA, restA, and, Nat.reduceAdd, Nat.reduceSub, Nat.reduceMul, Int.reduceToNat, eval, nf, nfO, opN, appTo, rowsV, getL, setL, getO, setO, snocO, lenO, putL, ev, evs, ifEq, killV, killL, kill1, kill1L, kill, kills, killO, killOs, bin, binI, binS, binB, eq1, eqB, lit, sameK, kn, unI, mxA, mnA, mkAgg, fits, partN, partA, resN, retV, allVal, isVal, allCell, isCell, okVal, okCell, cellsOf, fillN, rowsN, cellsN, bnd, lohi, offAt, overL, segL, leave, NodeOK, List.cons_append, List.nil_append, List.append_nil, catA, anys, lenA])
  refine aw_loopU (α := Nat × Mp) (fun s => s.1 ≤ all.length ∧ Rp s.2 (mF W all.flatten (all.take s.1).flatten)) (fun s => [(12, .int .i64 s.1)]) (fun s => [(0, .map .u64 s.2)]) (fun s => all.length - s.1) ((0, Mp.emp)) (⟨Nat.zero_le _, Rp_emp _ _⟩) ?_ fun i hi => ?_
  · (simp only [wrC, wrOs, keepT, memN, setsL, setsO, setL, setO, snocO, List.cons_append, List.nil_append, List.append_nil, Nat.reduceAdd, Nat.zero_add, Wk, mtc, mtcS, mtcSL, mtc0, mtc0L, mtcL, mtcO, mtcOs, cutM, takeE, stA, rl, renV, renL, ren1, ren1L, ren, rens, renO, Nat.blt, lenO, getO, setO, setL, anys, enA]; simp [enA])
  obtain ⟨i, M⟩ := i
  obtain ⟨hi0, hf⟩ := hi
  simp only [] at hi0 hf
  (simp only [wrC, wrOs, keepT, memN, setsL, setsO, setL, setO, snocO, List.cons_append, List.nil_append, List.append_nil, Nat.reduceAdd, Nat.zero_add, enA]; (refine eval_sound 2000 _ _ _ ?_; simp (maxSteps := 1000000) only [ptrL, lenV, Bool.not_true, Bool.not_false, lookR, valOf, asGrow, jump, findA, restA, and, Nat.reduceAdd, Nat.reduceSub, Nat.reduceMul, Int.reduceToNat, eval, nf, nfO, opN, appTo, rowsV, getL, setL, getO, setO, snocO, lenO, putL, ev, evs, ifEq, killV, killL, kill1, kill1L, kill, kills, killO, killOs, bin, binI, binS, binB, eq1, eqB, lit, sameK, kn, unI, mxA, mnA, mkAgg, fits, partN, partA, resN, retV, allVal, isVal, allCell, isCell, okVal, okCell, cellsOf, fillN, rowsN, cellsN, bnd, lohi, offAt, overL, segL, leave, NodeOK, List.cons_append, List.nil_append, List.append_nil, catA, anys, lenA]))
  simp only [decide_eq_true_eq, decide_eq_false_iff_not, hlen]
  refine ⟨fun h1 => ?_, fun h1 => ?_⟩
  · obtain ⟨l, hl⟩ : ∃ l, all[i]? = some l := ⟨_, List.getElem?_eq_getElem (show i < all.length by omega)⟩
    obtain ⟨hl1, hl2⟩ := ha.at_ hl
    refine ⟨by omega, [.ro 10 (l.map enR)], by unfold listsR; rw [List.getElem?_map, Int.toNat_natCast, hl]; rfl, ?_⟩
    (refine eval_sound 2000 _ _ _ ?_; simp (maxSteps := 1000000) only [ptrL, lenV, Bool.not_true, Bool.not_false, lookR, valOf, asGrow, jump, findA, restA, and, Nat.reduceAdd, Nat.reduceSub, Nat.reduceMul, Int.reduceToNat, eval, nf, nfO, opN, appTo, rowsV, getL, setL, getO, setO, snocO, lenO, putL, ev, evs, ifEq, killV, killL, kill1, kill1L, kill, kills, killO, killOs, bin, binI, binS, binB, eq1, eqB, lit, sameK, kn, unI, mxA, mnA, mkAgg, fits, partN, partA, resN, retV, allVal, isVal, allCell, isCell, okVal, okCell, cellsOf, fillN, rowsN, cellsN, bnd, lohi, offAt, overL, segL, leave, NodeOK, List.cons_append, List.nil_append, List.append_nil, catA, anys, lenA])
    refine aw_loopU (α := Nat × Mp) (fun s => s.1 ≤ l.length ∧ Rp s.2 (mF W all.flatten ((all.take i).flatten ++ l.take s.1))) (fun s => [(18, .int .i64 s.1)]) (fun s => [(0, .map .u64 s.2)]) (fun s => l.length - s.1) ((0, M)) (⟨Nat.zero_le _, by simpa using hf⟩) ?_ fun k hk => ?_
    · (simp only [wrC, wrOs, keepT, memN, setsL, setsO, setL, setO, snocO, List.cons_append, List.nil_append, List.append_nil, Nat.reduceAdd, Nat.zero_add, Wk, mtc, mtcS, mtcSL, mtc0, mtc0L, mtcL, mtcO, mtcOs, cutM, takeE, stA, rl, renV, renL, ren1, ren1L, ren, rens, renO, Nat.blt, lenO, getO, setO, setL, anys, enA]; simp [enA])
    obtain ⟨k, M2⟩ := k
    obtain ⟨hk0, hg2⟩ := hk
    simp only [] at hk0 hg2
    (simp only [wrC, wrOs, keepT, memN, setsL, setsO, setL, setO, snocO, List.cons_append, List.nil_append, List.append_nil, Nat.reduceAdd, Nat.zero_add, enA]; (refine eval_sound 2000 _ _ _ ?_; simp (maxSteps := 1000000) only [ptrL, lenV, Bool.not_true, Bool.not_false, lookR, valOf, asGrow, jump, findA, restA, and, Nat.reduceAdd, Nat.reduceSub, Nat.reduceMul, Int.reduceToNat, eval, nf, nfO, opN, appTo, rowsV, getL, setL, getO, setO, snocO, lenO, putL, ev, evs, ifEq, killV, killL, kill1, kill1L, kill, kills, killO, killOs, bin, binI, binS, binB, eq1, eqB, lit, sameK, kn, unI, mxA, mnA, mkAgg, fits, partN, partA, resN, retV, allVal, isVal, allCell, isCell, okVal, okCell, cellsOf, fillN, rowsN, cellsN, bnd, lohi, offAt, overL, segL, leave, NodeOK, List.cons_append, List.nil_append, List.append_nil, catA, anys, lenA]))
    simp only [decide_eq_true_eq, decide_eq_false_iff_not, List.length_map]
    refine ⟨fun h2 => ?_, fun h2 => ?_⟩
    · obtain ⟨e, he⟩ : ∃ e, l[k]? = some e := ⟨_, List.getElem?_eq_getElem (show k < l.length by omega)⟩
      have heo := hl2 e (List.mem_of_getElem? he)
      have e1 : (all.take i).flatten ++ l.take (k + 1) = ((all.take i).flatten ++ l.take k) ++ [e] := by rw [List.take_add_one, he, List.append_assoc]; rfl
      have hnext := Rp_step (e := e) hg2
      rw [← e1] at hnext
      refine ⟨by omega, enR e, by rw [List.getElem?_map, Int.toNat_natCast, he]; rfl, ?_⟩
      simp only [enR]
      (refine eval_sound 2000 _ _ _ ?_; simp (maxSteps := 1000000) only [ptrL, lenV, Bool.not_true, Bool.not_false, lookR, valOf, asGrow, jump, findA, restA, and, Nat.reduceAdd, Nat.reduceSub, Nat.reduceMul, Int.reduceToNat, eval, nf, nfO, opN, appTo, rowsV, getL, setL, getO, setO, snocO, lenO, putL, ev, evs, ifEq, killV, killL, kill1, kill1L, kill, kills, killO, killOs, bin, binI, binS, binB, eq1, eqB, lit, sameK, kn, unI, mxA, mnA, mkAgg, fits, partN, partA, resN, retV, allVal, isVal, allCell, isCell, okVal, okCell, cellsOf, fillN, rowsN, cellsN, bnd, lohi, offAt, overL, segL, leave, NodeOK, List.cons_append, List.nil_append, List.append_nil, catA, anys, lenA])
      (repeat (with_reducible refine And.intro ?_ ?_; focus (simp; done)))
      ((repeat (with_reducible refine And.intro ?_ ?_; focus (simp; done))); refine aw_call (better1_c all g b W hg ha e heo M2 _ hg2) [0, 1, 2, 3, 4] rfl (by simp [upM, nthN, matchO, rens, ren, ren1, ren1L, renL, renV, renO, rl, lenO, getO, Nat.blt, mtc, mtcS, mtcSL, mtc0, mtc0L, enA, HB]) rfl (by simp [upM, nthN, matchO, rens, ren, ren1, ren1L, renL, renV, renO, rl, lenO, getO, Nat.blt, mtc, mtcS, mtcSL, mtc0, mtc0L, enA, HB]) rfl (fun r hs hp hl => ?_); obtain ⟨rfl, rfl⟩ := hp; simp only [snocO, upM, nthN, putAll, snocAll, killsA, killOsA, grows, putL, rl, renV, renL, ren1, ren1L, ren, rens, renO, Nat.blt, lenO, getO, setO, setL, anys, enA, HB]; (refine eval_sound 2000 _ _ _ ?_; simp (maxSteps := 1000000) only [ptrL, lenV, Bool.not_true, Bool.not_false, lookR, valOf, asGrow, jump, findA, restA, and, Nat.reduceAdd, Nat.reduceSub, Nat.reduceMul, Int.reduceToNat, eval, nf, nfO, opN, appTo, rowsV, getL, setL, getO, setO, snocO, lenO, putL, ev, evs, ifEq, killV, killL, kill1, kill1L, kill, kills, killO, killOs, bin, binI, binS, binB, eq1, eqB, lit, sameK, kn, unI, mxA, mnA, mkAgg, fits, partN, partA, resN, retV, allVal, isVal, allCell, isCell, okVal, okCell, cellsOf, fillN, rowsN, cellsN, bnd, lohi, offAt, overL, segL, leave, NodeOK, List.cons_append, List.nil_append, List.append_nil, catA, anys, lenA]))
      rw [wr64 (n := (k : Int) + 1) (by omega) (by omega)]
      (repeat (with_reducible refine And.intro ?_ ?_; focus (simp; done)))
      refine ⟨(k + 1, putB W all.flatten (mF W all.flatten ((all.take i).flatten ++ l.take k)) e M2), ⟨by simp only []; omega, hnext⟩, by simp only []; omega, ?_⟩
      (simp only [wrC, wrOs, keepT, memN, setsL, setsO, setL, setO, snocO, List.cons_append, List.nil_append, List.append_nil, Nat.reduceAdd, Nat.zero_add, Wk, mtc, mtcS, mtcSL, mtc0, mtc0L, mtcL, mtcO, mtcOs, cutM, takeE, stA, rl, renV, renL, ren1, ren1L, ren, rens, renO, Nat.blt, lenO, getO, setO, setL, anys, enA]; simp [enA])
    · rw [wr64 (n := (i : Int) + 1) (by omega) (by omega)]
      have hk2 : k = l.length := by omega
      subst hk2
      rw [List.take_length] at hg2
      have e1 : (all.take (i + 1)).flatten = (all.take i).flatten ++ l := by rw [List.take_add_one, hl]; simp
      rw [← e1] at hg2
      refine ⟨(i + 1, M2), ⟨by simp only []; omega, hg2⟩, by simp only []; omega, ?_⟩
      (simp only [wrC, wrOs, keepT, memN, setsL, setsO, setL, setO, snocO, List.cons_append, List.nil_append, List.append_nil, Nat.reduceAdd, Nat.zero_add, Wk, mtc, mtcS, mtcSL, mtc0, mtc0L, mtcL, mtcO, mtcOs, cutM, takeE, stA, rl, renV, renL, ren1, ren1L, ren, rens, renO, Nat.blt, lenO, getO, setO, setL, anys, enA]; simp [enA])
  · have hi2 : i = all.length := by omega
    subst hi2
    rw [List.take_length] at hf
    (repeat (with_reducible refine And.intro ?_ ?_; focus (simp; done)))
    refine ⟨[], rfl, _, _, ?_, ?_, ⟨M, hf, rfl, rfl⟩⟩ <;> simp [Wk, mtc, mtcS, mtcSL, mtc0, mtc0L, mtcL, mtcO, mtcOs, cutM, takeE, stA, rl, renV, renL, ren1, ren1L, ren, rens, renO, Nat.blt, lenO, getO, setO, setL, anys, okS, endM, endH, idxN, takeE, pickE, catO, rl, renV, renL, ren1, ren1L, ren, rens, renO, Nat.blt, lenO, getO, setO, setL, anys, enA, en0, lk0]
theorem better_c (hg : WOK g b W) (ha : Few all) : ACalls Try.prog 62 [.mp 0, .ro 1 (listsR all), .fn g [] [.ptr 1 0]] [.map .u64 Mp.emp, .arr 22 [.int .u64 b]]
    (fun r hs => ∃ M, Rp M (mF W all.flatten all.flatten) ∧ r = .tup [] ∧ hs = [.map .u64 M, .arr 22 [.int .u64 b]]) := by
  refine acalls_weak (acalls_of (fn := Try.f62) (A := a62) Try.func62 ok_62 en_62 ?_)
  dsimp only [a62, enA]
  (refine eval_sound 2000 _ _ _ ?_; simp (maxSteps := 1000000) only [ptrL, lenV, Bool.not_true, Bool.not_false, lookR, valOf, asGrow, jump, findA, restA, and, Nat.reduceAdd, Nat.reduceSub, Nat.reduceMul, Int.reduceToNat, eval, nf, nfO, opN, appTo, rowsV, getL, setL, getO, setO, snocO, lenO, putL, ev, evs, ifEq, killV, killL, kill1, kill1L, kill, kills, killO, killOs, bin, binI, binS, binB, eq1, eqB, lit, sameK, kn, unI, mxA, mnA, mkAgg, fits, partN, partA, resN, retV, allVal, isVal, allCell, isCell, okVal, okCell, cellsOf, fillN, rowsN, cellsN, bnd, lohi, offAt, overL, segL, leave, NodeOK, List.cons_append, List.nil_append, List.append_nil, catA, anys, lenA])
  ((repeat (with_reducible refine And.intro ?_ ?_; focus (simp; done))); refine aw_call (find_b all g b W hg ha) [0, 1, 2, 3, 4] rfl (by simp [upM, nthN, matchO, rens, ren, ren1, ren1L, renL, renV, renO, rl, lenO, getO, Nat.blt, mtc, mtcS, mtcSL, mtc0, mtc0L, HB, enA, en0, lk0]) rfl (by simp [upM, nthN, matchO, rens, ren, ren1, ren1L, renL, renV, renO, rl, lenO, getO, Nat.blt, mtc, mtcS, mtcSL, mtc0, mtc0L, HB, enA, en0, lk0]) rfl (fun r hs hp hl => ?_); obtain ⟨M, hM, rfl, rfl⟩ := hp; simp only [snocO, upM, nthN, putAll, snocAll, killsA, killOsA, grows, putL, rl, renV, renL, ren1, ren1L, ren, rens, renO, Nat.blt, lenO, getO, setO, setL, anys, HB, enA, en0, lk0]; (refine eval_sound 2000 _ _ _ ?_; simp (maxSteps := 1000000) only [ptrL, lenV, Bool.not_true, Bool.not_false, lookR, valOf, asGrow, jump, findA, restA, and, Nat.reduceAdd, Nat.reduceSub, Nat.reduceMul, Int.reduceToNat, eval, nf, nfO, opN, appTo, rowsV, getL, setL, getO, setO, snocO, lenO, putL, ev, evs, ifEq, killV, killL, kill1, kill1L, kill, kills, killO, killOs, bin, binI, binS, binB, eq1, eqB, lit, sameK, kn, unI, mxA, mnA, mkAgg, fits, partN, partA, resN, retV, allVal, isVal, allCell, isCell, okVal, okCell, cellsOf, fillN, rowsN, cellsN, bnd, lohi, offAt, overL, segL, leave, NodeOK, List.cons_append, List.nil_append, List.append_nil, catA, anys, lenA]))
  refine ⟨[], rfl, _, _, ?_, ?_, ⟨M, hM, rfl, rfl⟩⟩ <;> simp [Wk, mtc, mtcS, mtcSL, mtc0, mtc0L, mtcL, mtcO, mtcOs, cutM, takeE, stA, rl, renV, renL, ren1, ren1L, ren, rens, renO, Nat.blt, lenO, getO, setO, setL, anys, okS, endM, endH, idxN, takeE, pickE, catO, rl, renV, renL, ren1, ren1L, ren, rens, renO, Nat.blt, lenO, getO, setO, setL, anys]
end
theorem lkR_len (l : List Lk) : ∀ row ∈ l.map lkR, row.length = 4 := by
  intro row h
  obtain ⟨x, _, rfl⟩ := List.mem_map.1 h
  rfl
theorem copy_c (e : En) (h : e.b.length ≤ 1000000) : ACalls Try.prog 36 [enA e] [] (fun r hs => r = enA e ∧ hs = []) := by
  refine acalls_weak (acalls_of (fn := Try.f36) (A := a36) Try.func36 ok_36 en_36 ?_)
  dsimp only [a36, enA]
  (refine eval_sound 20 _ _ _ ?_; simp only [ptrL, lenV, Bool.not_true, Bool.not_false, lookR, valOf, asGrow, jump, findA, restA, and, Nat.reduceAdd, Nat.reduceSub, Nat.reduceMul, Int.reduceToNat, eval, nf, nfO, opN, appTo, rowsV, getL, setL, getO, setO, snocO, lenO, putL, ev, evs, ifEq, killV, killL, kill1, kill1L, kill, kills, killO, killOs, bin, binI, binS, binB, eq1, eqB, lit, sameK, kn, unI, mxA, mnA, mkAgg, fits, partN, partA, resN, retV, allVal, isVal, allCell, isCell, okVal, okCell, cellsOf, fillN, rowsN, cellsN, bnd, lohi, offAt, overL, segL, leave, NodeOK, List.cons_append, List.nil_append, List.append_nil, catA, anys, lenA])
  simp only [List.length_map, Int.toNat_natCast]
  refine ⟨⟨by omega, by omega, by omega, by omega⟩, by simp, ?_⟩
  have hq := made_copy (sz := 4) (z := [AV.int IntKind.u64 0, AV.int IntKind.u64 0, AV.int IntKind.u32 0, AV.int IntKind.u32 0]) (xs := e.b.map lkR) rfl (lkR_len e.b)
  simp only [List.length_map] at hq
  rw [hq]
  refine aw_trans (trans_frA0 2 e.b.length (e.b.map lkR) rfl (by simp) (lkR_len e.b)) ?_
  simp only [snocO, mapA, frA, frA1, frAV, mapO, frAO, ifEq, setO, getO, getL, setL, Nat.beq_refl, List.length_map]
  (refine eval_sound 2000 _ _ _ ?_; simp (maxSteps := 1000000) only [ptrL, lenV, Bool.not_true, Bool.not_false, lookR, valOf, asGrow, jump, findA, restA, and, Nat.reduceAdd, Nat.reduceSub, Nat.reduceMul, Int.reduceToNat, eval, nf, nfO, opN, appTo, rowsV, getL, setL, getO, setO, snocO, lenO, putL, ev, evs, ifEq, killV, killL, kill1, kill1L, kill, kills, killO, killOs, bin, binI, binS, binB, eq1, eqB, lit, sameK, kn, unI, mxA, mnA, mkAgg, fits, partN, partA, resN, retV, allVal, isVal, allCell, isCell, okVal, okCell, cellsOf, fillN, rowsN, cellsN, bnd, lohi, offAt, overL, segL, leave, NodeOK, List.cons_append, List.nil_append, List.append_nil, catA, anys, lenA])
  ((repeat (with_reducible refine And.intro ?_ ?_; focus (simp; done))); refine ⟨[], rfl, _, _, ?_, ?_, rfl, rfl⟩ <;> simp [Wk, mtc, mtcS, mtcSL, mtc0, mtc0L, mtcL, mtcO, mtcOs, cutM, takeE, stA, rl, renV, renL, ren1, ren1L, ren, rens, renO, Nat.blt, lenO, getO, setO, setL, anys, okS, endM, endH, idxN, takeE, pickE, catO, rl, renV, renL, ren1, ren1L, ren, rens, renO, Nat.blt, lenO, getO, setO, setL, anys, enA])
def enZ : AV := .agg [.int .u64 0, .int .u64 0, .int .u64 0, .int .i64 0, .int .u64 0, .int .u64 0, .int .u32 0, .int .u32 0, .str ⟨#[]⟩, .ro 4 []]
theorem bestF_mem (L : List En) (ix : Int) : ∀ (es : List En) (acc : Option En), (∀ o, acc = some o → o ∈ L ∧ o.i = ix) → (∀ e ∈ es, e ∈ L) → ∀ o, es.foldl (fun acc e => if e.i = ix then stepB L acc e else acc) acc = some o → o ∈ L ∧ o.i = ix
  | [], acc, h, _, o, ho => h o ho
  | e :: es, acc, h, hm, o, ho => by
    refine bestF_mem L ix es _ (fun o ho => ?_) (fun x hx => hm x (by simp [hx])) o ho
    simp only [] at ho
    split at ho
    · rename_i hi
      unfold stepB at ho
      split at ho
      · injection ho with ho
        subst ho
        exact ⟨hm e (by simp), hi⟩
      · exact h o ho
    · exact h o ho
theorem best_mem {L : List En} {ix : Int} {o : En} (h : best L ix = some o) : o ∈ L ∧ o.i = ix := bestF_mem L ix L none (fun o h => by cases h) (fun e h => h) o h
end Go.Proofs.Ytjkmnmpjcdanhaa.S
