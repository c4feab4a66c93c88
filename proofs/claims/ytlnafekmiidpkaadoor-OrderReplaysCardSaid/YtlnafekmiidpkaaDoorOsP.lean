/- Contracts, picked of my other texts. -/
import Derived.Test.YtlnafekmiidpkaaDoorOsO
namespace Go.Proofs.YtlnafekmiidpkaaDoor.S
set_option linter.all false
set_option maxRecDepth 100000
set_option maxHeartbeats 4000000
def ByteL (l : List Int) : Prop := ∀ x ∈ l, 0 ≤ x ∧ x ≤ 255
def nmI (s : ByteArray) : List Int := s.data.toList.map fun b => (b.toNat : Int)
theorem strOf_nm (s : ByteArray) : strOf (u8s (nmI s)) = s := by
  obtain ⟨a⟩ := s
  unfold strOf
  congr 1
  have : List.map byteOf (u8s (nmI ⟨a⟩)) = a.toList := by
    simp only [u8s, nmI, List.map_map]
    refine Eq.trans (List.map_congr_left fun b _ => ?_) (List.map_id _)
    simp [byteOf]
  rw [this]
theorem nmI_str (c : List Int) (h : ByteL c) : nmI (strOf (u8s c)) = c := by
  unfold nmI strOf
  simp only [u8s, List.map_map]
  refine Eq.trans (List.map_congr_left fun b hb => ?_) (List.map_id _)
  have := h b hb
  simp only [Function.comp, byteOf, id]
  rw [UInt8.toNat_ofNat']
  omega
theorem nmI_byte (s : ByteArray) : ByteL (nmI s) := by
  intro x hx
  obtain ⟨b, _, rfl⟩ := List.mem_map.1 hx
  have := b.toNat_lt
  omega
theorem nmI_len (s : ByteArray) : (nmI s).length = s.size := by simp [nmI]
def cellsT (l : List (Int × Int)) : List AV := l.flatMap fun c => [.int .u64 c.1, .int .u16 c.2]
theorem cellsT_len (l : List (Int × Int)) : (cellsT l).length = 2 * l.length := by
  induction l with
  | nil => rfl
  | cons x l ih => simp [cellsT] at ih ⊢; omega
theorem cellsT_cons (x : Int × Int) (l : List (Int × Int)) : cellsT (x :: l) = .int .u64 x.1 :: .int .u16 x.2 :: cellsT l := rfl
def tabA (l : List (Int × Int)) : AV := .arr (cellsT l)
def imC (m : Mk) (s : ByteArray) (t : List (Int × Int)) : List AV := .int .u64 m.l :: .int .u64 m.b :: .str s :: cellsT t
def imA (m : Mk) (s : ByteArray) (t : List (Int × Int)) : AV := .arr (imC m s t)
theorem t8 {t : List (Int × Int)} (h : t.length = 8) : ∃ a b c d e f g i, t = [a, b, c, d, e, f, g, i] := by
  match t, h with
  | [a, b, c, d, e, f, g, i], _ => exact ⟨a, b, c, d, e, f, g, i, rfl⟩
theorem cellsT8 (a b c d e f g i : Int × Int) : cellsT [a, b, c, d, e, f, g, i] = [.int .u64 a.1, .int .u16 a.2, .int .u64 b.1, .int .u16 b.2, .int .u64 c.1, .int .u16 c.2, .int .u64 d.1, .int .u16 d.2, .int .u64 e.1, .int .u16 e.2, .int .u64 f.1, .int .u16 f.2, .int .u64 g.1, .int .u16 g.2, .int .u64 i.1, .int .u16 i.2] := rfl
theorem divS (n : Nat) : ((n : Int)).tdiv 8 = ((n / 8 : Nat) : Int) := by rw [Int.tdiv_eq_ediv_of_nonneg (by omega)]; rfl
theorem wr32N' {n : Nat} (h : n < 4294967296) : IntKind.u32.wrap (n : Int) = n := IntWalk.u32_in _ ⟨by omega, by omega⟩
theorem blocks_c (m : Mk) (s : ByteArray) (hs : s.size ≤ 3000) (t : List (Int × Int)) (ht : t.length = 8) : ACalls Tryd.prog 45 [imA m s t] [] (fun r hs => r = .int .u32 (s.size / 8 : Nat) ∧ hs = []) := by
  obtain ⟨a, b, c, d, e, f, g, i, rfl⟩ := t8 ht
  simp only [imA, imC, cellsT8]
  have hd := divS s.size
  refine acalls_weak (acalls_of (fn := Tryd.f45) (A := a45) Tryd.func45 ok_45 en_45 ?_)
  dsimp only [a45, cellsT8]
  (refine eval_sound 2000 _ _ _ ?_; simp (maxSteps := 1000000) only [ptrL, lenV, Bool.not_true, Bool.not_false, lookR, valOf, asGrow, jump, findA, restA, and, Nat.reduceAdd, Nat.reduceSub, Nat.reduceMul, Int.reduceToNat, eval, nf, nfO, opN, appTo, rowsV, getL, setL, getO, setO, snocO, lenO, putL, ev, evs, ifEq, killV, killL, kill1, kill1L, kill, kills, killO, killOs, bin, binI, binS, binB, eq1, eqB, lit, sameK, kn, unI, mxA, mnA, mkAgg, fits, partN, partA, resN, retV, allVal, isVal, allCell, isCell, okVal, okCell, cellsOf, fillN, rowsN, cellsN, bnd, lohi, offAt, overL, segL, leave, NodeOK, List.cons_append, List.nil_append, List.append_nil, catA, anys, lenA])
  rw [hd]
  refine ⟨by omega, ?_⟩
  rw [wr64 (n := ((s.size / 8 : Nat) : Int)) (by omega) (by omega), wr32N' (by omega)]
  ((repeat (with_reducible refine And.intro ?_ ?_; focus (simp; done))); refine ⟨[], rfl, _, _, ?_, ?_, rfl, rfl⟩ <;> simp [Wk, mtc, mtcS, mtcSL, mtc0, mtc0L, mtcL, mtcO, mtcOs, cutM, takeE, stA, rl, renV, renL, ren1, ren1L, ren, rens, renO, Nat.blt, lenO, getO, setO, setL, anys, okS, endM, endH, idxN, takeE, pickE, catO, rl, renV, renL, ren1, ren1L, ren, rens, renO, Nat.blt, lenO, getO, setO, setL, anys, cellsT8])
theorem ByteL.app {a b : List Int} (ha : ByteL a) (hb : ByteL b) : ByteL (a ++ b) := fun x hx => (List.mem_append.1 hx).elim (ha x) (hb x)
theorem nmI_app (a b : ByteArray) : nmI (a ++ b) = nmI a ++ nmI b := by
  unfold nmI
  rw [ByteArray.data_append, Array.toList_append, List.map_append]
theorem nmI_ext (s : ByteArray) (i j : Nat) : nmI (s.extract i j) = ((nmI s).drop i).take (j - i) := by
  unfold nmI
  rw [ByteArray.data_extract, Array.toList_extract]
  simp [List.extract, List.map_take, List.map_drop]
theorem nmI_inj {a b : ByteArray} (h : nmI a = nmI b) : a = b := by rw [← strOf_nm a, ← strOf_nm b, h]
/-- What is written, as bytes. -/
def wrI (L D : List Int) (F C : Nat) : List Int := L.take (8 * F) ++ D ++ L.drop (8 * F + 8 * C)
def okP (s : ByteArray) (F C : Nat) : Bool := decide (0 < C ∧ F + C ≤ s.size / 8)
def putB (s d : ByteArray) (F C : Nat) : ByteArray := if okP s F C = true ∧ d.size = 8 * C then strOf (u8s (wrI (nmI s) (nmI d) F C)) else s
def putE (s d : ByteArray) (F C : Nat) : Int := if okP s F C = true then if d.size = 8 * C then 0 else 2 else 30
theorem end_c (F C : Nat) (hF : F < 4294967296) (hC : C < 4294967296) : ACalls Tryd.prog 61 [.arr [.int .u32 F, .int .u32 C]] [] (fun r hs => r = .int .u64 (F + C : Nat) ∧ hs = []) := by
  refine acalls_weak (acalls_of (fn := Tryd.f61) (A := a61) Tryd.func61 ok_61 en_61 ?_)
  dsimp only [a61, cellsT8]
  (refine eval_sound 2000 _ _ _ ?_; simp (maxSteps := 1000000) only [ptrL, lenV, Bool.not_true, Bool.not_false, lookR, valOf, asGrow, jump, findA, restA, and, Nat.reduceAdd, Nat.reduceSub, Nat.reduceMul, Int.reduceToNat, eval, nf, nfO, opN, appTo, rowsV, getL, setL, getO, setO, snocO, lenO, putL, ev, evs, ifEq, killV, killL, kill1, kill1L, kill, kills, killO, killOs, bin, binI, binS, binB, eq1, eqB, lit, sameK, kn, unI, mxA, mnA, mkAgg, fits, partN, partA, resN, retV, allVal, isVal, allCell, isCell, okVal, okCell, cellsOf, fillN, rowsN, cellsN, bnd, lohi, offAt, overL, segL, leave, NodeOK, List.cons_append, List.nil_append, List.append_nil, catA, anys, lenA])
  rw [wruN (n := F) (by omega), wruN (n := C) (by omega), show (F : Int) + (C : Int) = ((F + C : Nat) : Int) by omega, wruN (n := F + C) (by omega)]
  ((repeat (with_reducible refine And.intro ?_ ?_; focus (simp; done))); refine ⟨[], rfl, _, _, ?_, ?_, rfl, rfl⟩ <;> simp [Wk, mtc, mtcS, mtcSL, mtc0, mtc0L, mtcL, mtcO, mtcOs, cutM, takeE, stA, rl, renV, renL, ren1, ren1L, ren, rens, renO, Nat.blt, lenO, getO, setO, setL, anys, okS, endM, endH, idxN, takeE, pickE, catO, rl, renV, renL, ren1, ren1L, ren, rens, renO, Nat.blt, lenO, getO, setO, setL, anys, cellsT8])
theorem sgood_c (F C N : Nat) (hF : F < 4294967296) (hC : C < 4294967296) (hN : N < 4294967296) : ACalls Tryd.prog 44 [.arr [.int .u32 F, .int .u32 C], .int .u32 N] [] (fun r hs => r = .bool (decide (0 < C ∧ F + C ≤ N)) ∧ hs = []) := by
  have he := end_c F C hF hC
  refine acalls_weak (acalls_of (fn := Tryd.f44) (A := a44) Tryd.func44 ok_44 en_44 ?_)
  dsimp only [a44, cellsT8]
  (refine eval_sound 2000 _ _ _ ?_; simp (maxSteps := 1000000) only [ptrL, lenV, Bool.not_true, Bool.not_false, lookR, valOf, asGrow, jump, findA, restA, and, Nat.reduceAdd, Nat.reduceSub, Nat.reduceMul, Int.reduceToNat, eval, nf, nfO, opN, appTo, rowsV, getL, setL, getO, setO, snocO, lenO, putL, ev, evs, ifEq, killV, killL, kill1, kill1L, kill, kills, killO, killOs, bin, binI, binS, binB, eq1, eqB, lit, sameK, kn, unI, mxA, mnA, mkAgg, fits, partN, partA, resN, retV, allVal, isVal, allCell, isCell, okVal, okCell, cellsOf, fillN, rowsN, cellsN, bnd, lohi, offAt, overL, segL, leave, NodeOK, List.cons_append, List.nil_append, List.append_nil, catA, anys, lenA])
  simp only [decide_eq_true_eq, decide_eq_false_iff_not]
  refine ⟨fun h => ?_, fun h => ?_⟩
  · ((repeat (with_reducible refine And.intro ?_ ?_; focus (simp; done))); refine aw_call (he) [] rfl (by simp [upM, nthN, matchO, rens, ren, ren1, ren1L, renL, renV, renO, rl, lenO, getO, Nat.blt, mtc, mtcS, mtcSL, mtc0, mtc0L, cellsT8]) rfl (by simp [upM, nthN, matchO, rens, ren, ren1, ren1L, renL, renV, renO, rl, lenO, getO, Nat.blt, mtc, mtcS, mtcSL, mtc0, mtc0L, cellsT8]) rfl (fun r hs hp hl => ?_); obtain ⟨rfl, rfl⟩ := hp; simp only [snocO, upM, nthN, putAll, snocAll, killsA, killOsA, grows, putL, rl, renV, renL, ren1, ren1L, ren, rens, renO, Nat.blt, lenO, getO, setO, setL, anys, cellsT8]; (refine eval_sound 2000 _ _ _ ?_; simp (maxSteps := 1000000) only [ptrL, lenV, Bool.not_true, Bool.not_false, lookR, valOf, asGrow, jump, findA, restA, and, Nat.reduceAdd, Nat.reduceSub, Nat.reduceMul, Int.reduceToNat, eval, nf, nfO, opN, appTo, rowsV, getL, setL, getO, setO, snocO, lenO, putL, ev, evs, ifEq, killV, killL, kill1, kill1L, kill, kills, killO, killOs, bin, binI, binS, binB, eq1, eqB, lit, sameK, kn, unI, mxA, mnA, mkAgg, fits, partN, partA, resN, retV, allVal, isVal, allCell, isCell, okVal, okCell, cellsOf, fillN, rowsN, cellsN, bnd, lohi, offAt, overL, segL, leave, NodeOK, List.cons_append, List.nil_append, List.append_nil, catA, anys, lenA]))
    rw [wruN (n := N) (by omega)]
    have : decide (0 < C ∧ F + C ≤ N) = decide (((F + C : Nat) : Int) ≤ (N : Int)) := decide_eq_decide.2 (by omega)
    rw [this]
    ((repeat (with_reducible refine And.intro ?_ ?_; focus (simp; done))); refine ⟨[], rfl, _, _, ?_, ?_, rfl, rfl⟩ <;> simp [Wk, mtc, mtcS, mtcSL, mtc0, mtc0L, mtcL, mtcO, mtcOs, cutM, takeE, stA, rl, renV, renL, ren1, ren1L, ren, rens, renO, Nat.blt, lenO, getO, setO, setL, anys, okS, endM, endH, idxN, takeE, pickE, catO, rl, renV, renL, ren1, ren1L, ren, rens, renO, Nat.blt, lenO, getO, setO, setL, anys, cellsT8])
  · have : decide (0 < C ∧ F + C ≤ N) = false := decide_eq_false (by omega)
    rw [this]
    ((repeat (with_reducible refine And.intro ?_ ?_; focus (simp; done))); refine ⟨[], rfl, _, _, ?_, ?_, rfl, rfl⟩ <;> simp [Wk, mtc, mtcS, mtcSL, mtc0, mtc0L, mtcL, mtcO, mtcOs, cutM, takeE, stA, rl, renV, renL, ren1, ren1L, ren, rens, renO, Nat.blt, lenO, getO, setO, setL, anys, okS, endM, endH, idxN, takeE, pickE, catO, rl, renV, renL, ren1, ren1L, ren, rens, renO, Nat.blt, lenO, getO, setO, setL, anys, cellsT8])
theorem put_i (m : Mk) (s : ByteArray) (hs : s.size ≤ 3000) (t : List (Int × Int)) (ht : t.length = 8) (F C : Nat) (hF : F < 4294967296) (hC : C < 4294967296) (d : ByteArray) (hd : d.size ≤ 20000) :
    ACalls Tryd.prog 25 [imA m s t, .arr [.int .u32 F, .int .u32 C], .str d] [] (fun r hs => r = .tup [imA m (putB s d F C) t, .int .i64 (putE s d F C)] ∧ hs = []) := by
  obtain ⟨a, b, c, d', e, f, g, i, rfl⟩ := t8 ht
  have hb := blocks_c m s hs [a, b, c, d', e, f, g, i] rfl
  have hg := sgood_c F C (s.size / 8) hF hC (by omega)
  rw [show decide (0 < C ∧ F + C ≤ s.size / 8) = okP s F C from rfl] at hg
  have hB : putB s d F C = if okP s F C = true ∧ d.size = 8 * C then strOf (u8s (wrI (nmI s) (nmI d) F C)) else s := rfl
  have hE : putE s d F C = if okP s F C = true then if d.size = 8 * C then 0 else 2 else 30 := rfl
  have hok : okP s F C = true → 0 < C ∧ F + C ≤ s.size / 8 := fun h => by unfold okP at h; simpa using h
  generalize putB s d F C = B at *
  generalize putE s d F C = E at *
  generalize okP s F C = O at *
  simp only [imA, imC, cellsT8] at *
  refine acalls_weak (acalls_of (fn := Tryd.f25) (A := a25) Tryd.func25 ok_25 en_25 ?_)
  dsimp only [a25, cellsT8]
  (refine eval_sound 2000 _ _ _ ?_; simp (maxSteps := 1000000) only [ptrL, lenV, Bool.not_true, Bool.not_false, lookR, valOf, asGrow, jump, findA, restA, and, Nat.reduceAdd, Nat.reduceSub, Nat.reduceMul, Int.reduceToNat, eval, nf, nfO, opN, appTo, rowsV, getL, setL, getO, setO, snocO, lenO, putL, ev, evs, ifEq, killV, killL, kill1, kill1L, kill, kills, killO, killOs, bin, binI, binS, binB, eq1, eqB, lit, sameK, kn, unI, mxA, mnA, mkAgg, fits, partN, partA, resN, retV, allVal, isVal, allCell, isCell, okVal, okCell, cellsOf, fillN, rowsN, cellsN, bnd, lohi, offAt, overL, segL, leave, NodeOK, List.cons_append, List.nil_append, List.append_nil, catA, anys, lenA])
  refine aw_dregA (show Tryd.prog.follows .mixedOrders = true by kernel_rfl) 3 [(2, ⟨.int .u32 (s.size / 8 : Nat), [], [], []⟩), (3, ⟨.bool O, [], [], []⟩)] ?_ ?_ ?_
  · kernel_rfl
  · (simp only [tkO, dpO, tkN, AllOps, OpOK, mkR, autoV, autoR, labV, lkD, vOf, preT, preO, setTs, preV, wrt, memN, usesO, usesT, opT, optT, opsT, ptsT, setHs, objF, updD, newO, lkO, lkF, keysO, keysF, visN, deads, getL, setL, getO, setO, lenO, lenA, anys, setDs, setWr, setFr, endO, catD, List.getD_cons_zero, List.getD_cons_succ, List.getElem?_cons_zero, List.getElem?_cons_succ, List.cons_append, List.nil_append, List.append_nil, Nat.reduceAdd, Nat.reduceSub, ptrL, lenV, Bool.not_true, Bool.not_false, lookR, valOf, asGrow, jump, findA, restA, and, Nat.reduceAdd, Nat.reduceSub, Nat.reduceMul, Int.reduceToNat, eval, nf, nfO, opN, appTo, rowsV, getL, setL, getO, setO, snocO, lenO, putL, ev, evs, ifEq, killV, killL, kill1, kill1L, kill, kills, killO, killOs, bin, binI, binS, binB, eq1, eqB, lit, sameK, kn, unI, mxA, mnA, mkAgg, fits, partN, partA, resN, retV, allVal, isVal, allCell, isCell, okVal, okCell, cellsOf, fillN, rowsN, cellsN, bnd, lohi, offAt, overL, segL, leave, NodeOK, List.cons_append, List.nil_append, List.append_nil, catA, anys, lenA]; and_intros) <;> (first | exact trivial | ((refine eval_sound 2000 _ _ _ ?_; simp (maxSteps := 1000000) only [ptrL, lenV, Bool.not_true, Bool.not_false, lookR, valOf, asGrow, jump, findA, restA, and, Nat.reduceAdd, Nat.reduceSub, Nat.reduceMul, Int.reduceToNat, eval, nf, nfO, opN, appTo, rowsV, getL, setL, getO, setO, snocO, lenO, putL, ev, evs, ifEq, killV, killL, kill1, kill1L, kill, kills, killO, killOs, bin, binI, binS, binB, eq1, eqB, lit, sameK, kn, unI, mxA, mnA, mkAgg, fits, partN, partA, resN, retV, allVal, isVal, allCell, isCell, okVal, okCell, cellsOf, fillN, rowsN, cellsN, bnd, lohi, offAt, overL, segL, leave, NodeOK, List.cons_append, List.nil_append, List.append_nil, catA, anys, lenA]); try simp only [JR, dstOK, wrOK, frOK, rdOK, getL, getO]; try simp only [JR, dstOK, wrOK, frOK, rdOK, sig, sigF, isGrowB, mtc, mtcS, mtcSL, mtc0, mtc0L, mtcO, mtcL, memN, Nat.blt, rl, renV, renL, ren1, ren1L, ren, rens, renO, Nat.blt, lenO, getO, setO, setL, anys]; try simp))
    · (refine aw_call (hb) [] rfl (by simp [upM, nthN, matchO, rens, ren, ren1, ren1L, renL, renV, renO, rl, lenO, getO, Nat.blt, mtc, mtcS, mtcSL, mtc0, mtc0L, cellsT8]) rfl (by simp [upM, nthN, matchO, rens, ren, ren1, ren1L, renL, renV, renO, rl, lenO, getO, Nat.blt, mtc, mtcS, mtcSL, mtc0, mtc0L, cellsT8]) rfl (fun r hs hp hl => ?_); obtain ⟨rfl, rfl⟩ := hp; simp only [snocO, upM, nthN, putAll, snocAll, killsA, killOsA, grows, putL, rl, renV, renL, ren1, ren1L, ren, rens, renO, Nat.blt, lenO, getO, setO, setL, anys, cellsT8]; (refine eval_sound 2000 _ _ _ ?_; simp (maxSteps := 1000000) only [ptrL, lenV, Bool.not_true, Bool.not_false, lookR, valOf, asGrow, jump, findA, restA, and, Nat.reduceAdd, Nat.reduceSub, Nat.reduceMul, Int.reduceToNat, eval, nf, nfO, opN, appTo, rowsV, getL, setL, getO, setO, snocO, lenO, putL, ev, evs, ifEq, killV, killL, kill1, kill1L, kill, kills, killO, killOs, bin, binI, binS, binB, eq1, eqB, lit, sameK, kn, unI, mxA, mnA, mkAgg, fits, partN, partA, resN, retV, allVal, isVal, allCell, isCell, okVal, okCell, cellsOf, fillN, rowsN, cellsN, bnd, lohi, offAt, overL, segL, leave, NodeOK, List.cons_append, List.nil_append, List.append_nil, catA, anys, lenA]); (try simp only [JR, dstOK, wrOK, frOK, rdOK, getL, getO]); (try simp only [JR, dstOK, wrOK, frOK, rdOK, sig, sigF, isGrowB, mtc, mtcS, mtcSL, mtc0, mtc0L, mtcO, mtcL, memN, Nat.blt, rl, renV, renL, ren1, ren1L, ren, rens, renO, Nat.blt, lenO, getO, setO, setL, anys, cellsT8]); try simp)
    · (refine aw_call (hg) [] rfl (by simp [upM, nthN, matchO, rens, ren, ren1, ren1L, renL, renV, renO, rl, lenO, getO, Nat.blt, mtc, mtcS, mtcSL, mtc0, mtc0L, cellsT8]) rfl (by simp [upM, nthN, matchO, rens, ren, ren1, ren1L, renL, renV, renO, rl, lenO, getO, Nat.blt, mtc, mtcS, mtcSL, mtc0, mtc0L, cellsT8]) rfl (fun r hs hp hl => ?_); obtain ⟨rfl, rfl⟩ := hp; simp only [snocO, upM, nthN, putAll, snocAll, killsA, killOsA, grows, putL, rl, renV, renL, ren1, ren1L, ren, rens, renO, Nat.blt, lenO, getO, setO, setL, anys, cellsT8]; (refine eval_sound 2000 _ _ _ ?_; simp (maxSteps := 1000000) only [ptrL, lenV, Bool.not_true, Bool.not_false, lookR, valOf, asGrow, jump, findA, restA, and, Nat.reduceAdd, Nat.reduceSub, Nat.reduceMul, Int.reduceToNat, eval, nf, nfO, opN, appTo, rowsV, getL, setL, getO, setO, snocO, lenO, putL, ev, evs, ifEq, killV, killL, kill1, kill1L, kill, kills, killO, killOs, bin, binI, binS, binB, eq1, eqB, lit, sameK, kn, unI, mxA, mnA, mkAgg, fits, partN, partA, resN, retV, allVal, isVal, allCell, isCell, okVal, okCell, cellsOf, fillN, rowsN, cellsN, bnd, lohi, offAt, overL, segL, leave, NodeOK, List.cons_append, List.nil_append, List.append_nil, catA, anys, lenA]); (try simp only [JR, dstOK, wrOK, frOK, rdOK, getL, getO]); (try simp only [JR, dstOK, wrOK, frOK, rdOK, sig, sigF, isGrowB, mtc, mtcS, mtcSL, mtc0, mtc0L, mtcO, mtcL, memN, Nat.blt, rl, renV, renL, ren1, ren1L, ren, rens, renO, Nat.blt, lenO, getO, setO, setL, anys, cellsT8]); try simp)
  · (simp only [tkO, dpO, tkN, AllOps, OpOK, mkR, autoV, autoR, labV, lkD, vOf, preT, preO, setTs, preV, wrt, memN, usesO, usesT, opT, optT, opsT, ptsT, setHs, objF, updD, newO, lkO, lkF, keysO, keysF, visN, deads, getL, setL, getO, setO, lenO, lenA, anys, setDs, setWr, setFr, endO, catD, List.getD_cons_zero, List.getD_cons_succ, List.getElem?_cons_zero, List.getElem?_cons_succ, List.cons_append, List.nil_append, List.append_nil, Nat.reduceAdd, Nat.reduceSub, ptrL, lenV, Bool.not_true, Bool.not_false, lookR, valOf, asGrow, jump, findA, restA, and, Nat.reduceAdd, Nat.reduceSub, Nat.reduceMul, Int.reduceToNat, eval, nf, nfO, opN, appTo, rowsV, getL, setL, getO, setO, snocO, lenO, putL, ev, evs, ifEq, killV, killL, kill1, kill1L, kill, kills, killO, killOs, bin, binI, binS, binB, eq1, eqB, lit, sameK, kn, unI, mxA, mnA, mkAgg, fits, partN, partA, resN, retV, allVal, isVal, allCell, isCell, okVal, okCell, cellsOf, fillN, rowsN, cellsN, bnd, lohi, offAt, overL, segL, leave, NodeOK, List.cons_append, List.nil_append, List.append_nil, catA, anys, lenA]; (refine eval_sound 2000 _ _ _ ?_; simp (maxSteps := 1000000) only [ptrL, lenV, Bool.not_true, Bool.not_false, lookR, valOf, asGrow, jump, findA, restA, and, Nat.reduceAdd, Nat.reduceSub, Nat.reduceMul, Int.reduceToNat, eval, nf, nfO, opN, appTo, rowsV, getL, setL, getO, setO, snocO, lenO, putL, ev, evs, ifEq, killV, killL, kill1, kill1L, kill, kills, killO, killOs, bin, binI, binS, binB, eq1, eqB, lit, sameK, kn, unI, mxA, mnA, mkAgg, fits, partN, partA, resN, retV, allVal, isVal, allCell, isCell, okVal, okCell, cellsOf, fillN, rowsN, cellsN, bnd, lohi, offAt, overL, segL, leave, NodeOK, List.cons_append, List.nil_append, List.append_nil, catA, anys, lenA]))
    refine ⟨fun h => ?_, fun h => ?_⟩
    · have hO : O = false := by simpa using h
      subst hO
      simp only [Bool.false_eq_true, false_and, if_false] at hB hE
      subst hB
      subst hE
      (repeat (with_reducible refine And.intro ?_ ?_; focus (simp; done)))
      ((repeat (with_reducible refine And.intro ?_ ?_; focus (simp; done))); refine ⟨[], rfl, _, _, ?_, ?_, rfl, rfl⟩ <;> simp [Wk, mtc, mtcS, mtcSL, mtc0, mtc0L, mtcL, mtcO, mtcOs, cutM, takeE, stA, rl, renV, renL, ren1, ren1L, ren, rens, renO, Nat.blt, lenO, getO, setO, setL, anys, okS, endM, endH, idxN, takeE, pickE, catO, rl, renV, renL, ren1, ren1L, ren, rens, renO, Nat.blt, lenO, getO, setO, setL, anys, cellsT8])
    · have hO : O = true := by simpa using h
      obtain ⟨o1, o2⟩ := hok hO
      subst hO
      simp only [true_and, if_true] at hB hE
      rw [wr64 (n := (C : Int)) (by omega) (by omega), wr64 (n := 8 * (C : Int)) (by omega) (by omega)]
      simp only [bne_iff_ne, ne_eq, bne_eq_false_iff_eq]
      refine ⟨fun h2 => ?_, fun h2 => ?_⟩
      · rw [if_neg (by omega)] at hB hE
        subst hB
        subst hE
        (repeat (with_reducible refine And.intro ?_ ?_; focus (simp; done)))
        ((repeat (with_reducible refine And.intro ?_ ?_; focus (simp; done))); refine ⟨[], rfl, _, _, ?_, ?_, rfl, rfl⟩ <;> simp [Wk, mtc, mtcS, mtcSL, mtc0, mtc0L, mtcL, mtcO, mtcOs, cutM, takeE, stA, rl, renV, renL, ren1, ren1L, ren, rens, renO, Nat.blt, lenO, getO, setO, setL, anys, okS, endM, endH, idxN, takeE, pickE, catO, rl, renV, renL, ren1, ren1L, ren, rens, renO, Nat.blt, lenO, getO, setO, setL, anys, cellsT8])
      · rw [if_pos (by omega)] at hB hE
        rw [wr64 (n := (F : Int)) (by omega) (by omega), wr64 (n := (F : Int) * 8) (by omega) (by omega)]
        have hcut : nmI (s.extract 0 (8 * F) ++ d ++ s.extract (8 * F + 8 * C) s.size) = wrI (nmI s) (nmI d) F C := by
          rw [nmI_app, nmI_app, nmI_ext, nmI_ext]
          unfold wrI
          rw [List.drop_zero, Nat.sub_zero, List.take_of_length_le (l := (nmI s).drop _) (by rw [List.length_drop, nmI_len]; omega)]
        have hBB : B = s.extract 0 (8 * F) ++ d ++ s.extract (8 * F + 8 * C) s.size := by rw [hB, ← hcut, strOf_nm]
        have hz1 : (s.extract 0 (8 * F)).size = 8 * F := by simp; omega
        refine aw_dregA (show Tryd.prog.follows .mixedOrders = true by kernel_rfl) 3 [(3, ⟨.str (s.extract 0 (8 * F)), [], [], []⟩), (5, ⟨.str (s.extract 0 (8 * F) ++ d), [], [], []⟩), (11, ⟨.int .i64 (8 * F + 8 * C : Nat), [], [], []⟩), (12, ⟨.str (s.extract (8 * F + 8 * C) s.size), [], [], []⟩), (13, ⟨.str B, [], [], []⟩), (15, ⟨.any, [(0, .arr 32 [.int .u64 m.l, .int .u64 m.b, .str B, .int .u64 a.1, .int .u16 a.2, .int .u64 b.1, .int .u16 b.2, .int .u64 c.1, .int .u16 c.2, .int .u64 d'.1, .int .u16 d'.2, .int .u64 e.1, .int .u16 e.2, .int .u64 f.1, .int .u16 f.2, .int .u64 g.1, .int .u16 g.2, .int .u64 i.1, .int .u16 i.2])], [], []⟩)] ?_ ?_ ?_
        · kernel_rfl
        · (simp only [tkO, dpO, tkN, AllOps, OpOK, mkR, autoV, autoR, labV, lkD, vOf, preT, preO, setTs, preV, wrt, memN, usesO, usesT, opT, optT, opsT, ptsT, setHs, objF, updD, newO, lkO, lkF, keysO, keysF, visN, deads, getL, setL, getO, setO, lenO, lenA, anys, setDs, setWr, setFr, endO, catD, List.getD_cons_zero, List.getD_cons_succ, List.getElem?_cons_zero, List.getElem?_cons_succ, List.cons_append, List.nil_append, List.append_nil, Nat.reduceAdd, Nat.reduceSub, ptrL, lenV, Bool.not_true, Bool.not_false, lookR, valOf, asGrow, jump, findA, restA, and, Nat.reduceAdd, Nat.reduceSub, Nat.reduceMul, Int.reduceToNat, eval, nf, nfO, opN, appTo, rowsV, getL, setL, getO, setO, snocO, lenO, putL, ev, evs, ifEq, killV, killL, kill1, kill1L, kill, kills, killO, killOs, bin, binI, binS, binB, eq1, eqB, lit, sameK, kn, unI, mxA, mnA, mkAgg, fits, partN, partA, resN, retV, allVal, isVal, allCell, isCell, okVal, okCell, cellsOf, fillN, rowsN, cellsN, bnd, lohi, offAt, overL, segL, leave, NodeOK, List.cons_append, List.nil_append, List.append_nil, catA, anys, lenA]; and_intros) <;> (first | exact trivial | ((refine eval_sound 2000 _ _ _ ?_; simp (maxSteps := 1000000) only [ptrL, lenV, Bool.not_true, Bool.not_false, lookR, valOf, asGrow, jump, findA, restA, and, Nat.reduceAdd, Nat.reduceSub, Nat.reduceMul, Int.reduceToNat, eval, nf, nfO, opN, appTo, rowsV, getL, setL, getO, setO, snocO, lenO, putL, ev, evs, ifEq, killV, killL, kill1, kill1L, kill, kills, killO, killOs, bin, binI, binS, binB, eq1, eqB, lit, sameK, kn, unI, mxA, mnA, mkAgg, fits, partN, partA, resN, retV, allVal, isVal, allCell, isCell, okVal, okCell, cellsOf, fillN, rowsN, cellsN, bnd, lohi, offAt, overL, segL, leave, NodeOK, List.cons_append, List.nil_append, List.append_nil, catA, anys, lenA]); try simp only [JR, dstOK, wrOK, frOK, rdOK, getL, getO]; try simp only [JR, dstOK, wrOK, frOK, rdOK, sig, sigF, isGrowB, mtc, mtcS, mtcSL, mtc0, mtc0L, mtcO, mtcL, memN, Nat.blt, rl, renV, renL, ren1, ren1L, ren, rens, renO, Nat.blt, lenO, getO, setO, setL, anys]; try simp))
          · exact ⟨⟨by omega, by omega⟩, by rw [show ((F : Int) * 8).toNat = 8 * F by omega]⟩
          · omega
          · rw [wr64 (n := (F : Int) * 8 + d.size) (by omega) (by omega)]; omega
          · exact ⟨⟨by omega, by omega⟩, by rw [show (8 * (F : Int) + 8 * (C : Int)).toNat = 8 * F + 8 * C by omega]⟩
          · exact ⟨by omega, hBB⟩
        · (simp only [tkO, dpO, tkN, AllOps, OpOK, mkR, autoV, autoR, labV, lkD, vOf, preT, preO, setTs, preV, wrt, memN, usesO, usesT, opT, optT, opsT, ptsT, setHs, objF, updD, newO, lkO, lkF, keysO, keysF, visN, deads, getL, setL, getO, setO, lenO, lenA, anys, setDs, setWr, setFr, endO, catD, List.getD_cons_zero, List.getD_cons_succ, List.getElem?_cons_zero, List.getElem?_cons_succ, List.cons_append, List.nil_append, List.append_nil, Nat.reduceAdd, Nat.reduceSub, ptrL, lenV, Bool.not_true, Bool.not_false, lookR, valOf, asGrow, jump, findA, restA, and, Nat.reduceAdd, Nat.reduceSub, Nat.reduceMul, Int.reduceToNat, eval, nf, nfO, opN, appTo, rowsV, getL, setL, getO, setO, snocO, lenO, putL, ev, evs, ifEq, killV, killL, kill1, kill1L, kill, kills, killO, killOs, bin, binI, binS, binB, eq1, eqB, lit, sameK, kn, unI, mxA, mnA, mkAgg, fits, partN, partA, resN, retV, allVal, isVal, allCell, isCell, okVal, okCell, cellsOf, fillN, rowsN, cellsN, bnd, lohi, offAt, overL, segL, leave, NodeOK, List.cons_append, List.nil_append, List.append_nil, catA, anys, lenA]; (refine eval_sound 2000 _ _ _ ?_; simp (maxSteps := 1000000) only [ptrL, lenV, Bool.not_true, Bool.not_false, lookR, valOf, asGrow, jump, findA, restA, and, Nat.reduceAdd, Nat.reduceSub, Nat.reduceMul, Int.reduceToNat, eval, nf, nfO, opN, appTo, rowsV, getL, setL, getO, setO, snocO, lenO, putL, ev, evs, ifEq, killV, killL, kill1, kill1L, kill, kills, killO, killOs, bin, binI, binS, binB, eq1, eqB, lit, sameK, kn, unI, mxA, mnA, mkAgg, fits, partN, partA, resN, retV, allVal, isVal, allCell, isCell, okVal, okCell, cellsOf, fillN, rowsN, cellsN, bnd, lohi, offAt, overL, segL, leave, NodeOK, List.cons_append, List.nil_append, List.append_nil, catA, anys, lenA]))
          subst hE
          (repeat (with_reducible refine And.intro ?_ ?_; focus (simp; done)))
          ((repeat (with_reducible refine And.intro ?_ ?_; focus (simp; done))); refine ⟨[], rfl, _, _, ?_, ?_, rfl, rfl⟩ <;> simp [Wk, mtc, mtcS, mtcSL, mtc0, mtc0L, mtcL, mtcO, mtcOs, cutM, takeE, stA, rl, renV, renL, ren1, ren1L, ren, rens, renO, Nat.blt, lenO, getO, setO, setL, anys, okS, endM, endH, idxN, takeE, pickE, catO, rl, renV, renL, ren1, ren1L, ren, rens, renO, Nat.blt, lenO, getO, setO, setL, anys, cellsT8])
end Go.Proofs.YtlnafekmiidpkaaDoor.S
