/- Items that tell of sets, and sets of items. -/
import Derived.Test.YtikogdkjmnpfcaaMb2
namespace Go.Proofs.Ytikogdkjmnpfcaa.S
set_option linter.all false
set_option maxRecDepth 100000
theorem bs_eq (s t : ByteArray) : (s == t) = decide (s = t) := by
  cases s with | mk a =>
  cases t with | mk b =>
  show (a == b) = _
  rw [Bool.eq_iff_iff]
  simp
def itA (t k : Int) (s : ByteArray) : AV := .arr [.int .u64 t, .int .i64 k, .str s]
def oneS (x : Nat) : ByteArray := ⟨#[UInt8.ofNat x]⟩
def emS : ByteArray := ⟨#[]⟩
theorem put1 (x : Nat) (h : x < 256) : putS [] 1 [(x : Int)] = [[.int .u8 (x : Int)]] := by
  have e : byteAt (x : Int) 0 = x := by
    rw [byteAt_eq _ (by omega) 0 (by omega)]
    simp
    omega
  unfold putS
  rw [if_neg (by omega)]
  simp [numS, e]
theorem str1 (x : Nat) (h : x < 256) : strOf [[.int .u8 (x : Int)]] = oneS x := by
  simp [strOf, byteOf, oneS]
def itemV (set : Nat) (term : Int) : AV := .tup [if fineB set = true then itA term 2 (oneS set) else itA 0 0 emS, .bool (fineB set)]
theorem item_c (set : Nat) (term : Int) : ACalls Try.prog 13 [.int .u64 (set : Int), .int .u64 term] [] (fun r hs => r = itemV set term ∧ hs = []) := by
  have hf := fine_c set
  refine acalls_weak (acalls_of (fn := Try.f13) (A := a13) Try.func13 ok_13 en_13 ?_)
  dsimp only [a13, u8s]
  (refine eval_sound 2000 _ _ _ ?_; simp only [and, Nat.reduceAdd, Nat.reduceSub, Nat.reduceMul, eval, nf, nfO, opN, appTo, rowsV, getL, setL, getO, setO, snocO, lenO, putL, ev, evs, ifEq, killV, killL, kill1, kill1L, kill, kills, killO, killOs, bin, binI, binS, binB, eq1, eqB, lit, sameK, kn, unI, mxA, mnA, mkAgg, fits, partN, partA, resN, retV, allVal, isVal, allCell, isCell, okVal, okCell, cellsOf, fillN, rowsN, cellsN, bnd, lohi, offAt, overL, segL, leave, NodeOK, List.cons_append, List.nil_append, List.append_nil, catA, anys, lenA])
  ((repeat (with_reducible refine And.intro ?_ ?_; focus (simp; done))); refine aw_call (hf) [] rfl (by simp [upM, nthN, matchO, rens, ren, ren1, ren1L, renL, renV, renO, rl, lenO, getO, Nat.blt, mtc, mtc0, mtc0L]) rfl (by simp [upM, nthN, matchO, rens, ren, ren1, ren1L, renL, renV, renO, rl, lenO, getO, Nat.blt, mtc, mtc0, mtc0L]) rfl (fun r hs hp hl => ?_); obtain ⟨rfl, rfl⟩ := hp; simp only [snocO, upM, nthN, putAll, snocAll, killsA, killOsA, grows, putL, rl, renV, renL, ren1, ren1L, ren, rens, renO, Nat.blt, lenO, getO, setO, setL, anys]; (refine eval_sound 2000 _ _ _ ?_; simp only [and, Nat.reduceAdd, Nat.reduceSub, Nat.reduceMul, eval, nf, nfO, opN, appTo, rowsV, getL, setL, getO, setO, snocO, lenO, putL, ev, evs, ifEq, killV, killL, kill1, kill1L, kill, kills, killO, killOs, bin, binI, binS, binB, eq1, eqB, lit, sameK, kn, unI, mxA, mnA, mkAgg, fits, partN, partA, resN, retV, allVal, isVal, allCell, isCell, okVal, okCell, cellsOf, fillN, rowsN, cellsN, bnd, lohi, offAt, overL, segL, leave, NodeOK, List.cons_append, List.nil_append, List.append_nil, catA, anys, lenA]))
  refine ⟨fun h1 => ?_, fun h1 => ?_⟩
  · have : fineB set = false := by simpa using h1
    ((repeat (with_reducible refine And.intro ?_ ?_; focus (simp; done))); refine ⟨[], rfl, _, _, ?_, ?_, rfl, rfl⟩ <;> simp [Wk, mtc, mtc0, mtc0L, mtcL, mtcO, mtcOs, cutM, takeE, stA, rl, renV, renL, ren1, ren1L, ren, rens, renO, Nat.blt, lenO, getO, setO, setL, anys, okS, endM, endH, idxN, takeE, pickE, catO, rl, renV, renL, ren1, ren1L, ren, rens, renO, Nat.blt, lenO, getO, setO, setL, anys, itemV, this, itA, emS])
  · have h2 : fineB set = true := by simpa using h1
    have h3 : set ≤ 127 := by simp [fineB] at h2; omega
    (refine acall_trans (trans_frz 1 _ _ _ rfl) ?_; simp only [snocO, mapA, frz, frz1, frzV, mapO, frzO, ifEq, setO, getO, getL, setL])
    refine acall_args [.ro 1 (u8s []), .int .i64 1, .ro 1 (u64s [(set : Int)])] (by simp [mtc, mtc0, mtcL, u8s, u64s]) ?_
    have hP := put_calls (u8s []) 1 [(set : Int)] (by simp [u8s])
    rw [show u8s [] = [] from rfl, put1 set (by omega)] at hP
    ((repeat (with_reducible refine And.intro ?_ ?_; focus (simp; done))); refine aw_call (hP) [] rfl (by simp [upM, nthN, matchO, rens, ren, ren1, ren1L, renL, renV, renO, rl, lenO, getO, Nat.blt, mtc, mtc0, mtc0L, u8s]) rfl (by simp [upM, nthN, matchO, rens, ren, ren1, ren1L, renL, renV, renO, rl, lenO, getO, Nat.blt, mtc, mtc0, mtc0L, u8s]) rfl (fun r hs hp hl => ?_); obtain ⟨rfl, rfl⟩ := hp; simp only [snocO, upM, nthN, putAll, snocAll, killsA, killOsA, grows, putL, rl, renV, renL, ren1, ren1L, ren, rens, renO, Nat.blt, lenO, getO, setO, setL, anys, u8s]; (refine eval_sound 2000 _ _ _ ?_; simp only [and, Nat.reduceAdd, Nat.reduceSub, Nat.reduceMul, eval, nf, nfO, opN, appTo, rowsV, getL, setL, getO, setO, snocO, lenO, putL, ev, evs, ifEq, killV, killL, kill1, kill1L, kill, kills, killO, killOs, bin, binI, binS, binB, eq1, eqB, lit, sameK, kn, unI, mxA, mnA, mkAgg, fits, partN, partA, resN, retV, allVal, isVal, allCell, isCell, okVal, okCell, cellsOf, fillN, rowsN, cellsN, bnd, lohi, offAt, overL, segL, leave, NodeOK, List.cons_append, List.nil_append, List.append_nil, catA, anys, lenA]))
    rw [str1 set (by omega)]
    refine ⟨fun row h => ?_, by simp, ?_⟩
    · simp at h; exact ⟨_, h⟩
    · have e : itemV set term = .tup [itA term 2 (oneS set), .bool true] := by unfold itemV; rw [if_pos h2, h2]
      rw [e]
      ((repeat (with_reducible refine And.intro ?_ ?_; focus (simp; done))); refine ⟨[], rfl, _, _, ?_, ?_, rfl, rfl⟩ <;> simp [Wk, mtc, mtc0, mtc0L, mtcL, mtcO, mtcOs, cutM, takeE, stA, rl, renV, renL, ren1, ren1L, ren, rens, renO, Nat.blt, lenO, getO, setO, setL, anys, okS, endM, endH, idxN, takeE, pickE, catO, rl, renV, renL, ren1, ren1L, ren, rens, renO, Nat.blt, lenO, getO, setO, setL, anys, itA])
theorem ritem_c (set : Nat) (term : Int) (hs : set < 18446744073709551616) : ACalls Try.prog 14 [.int .u64 (set : Int), .int .u64 term] [] (fun r hs => r = itemV set term ∧ hs = []) := by
  refine acalls_weak (acalls_of (fn := Try.f14) (A := a14) Try.func14 ok_14 en_14 ?_)
  dsimp only [a14, u8s]
  (refine eval_sound 2000 _ _ _ ?_; simp only [and, Nat.reduceAdd, Nat.reduceSub, Nat.reduceMul, eval, nf, nfO, opN, appTo, rowsV, getL, setL, getO, setO, snocO, lenO, putL, ev, evs, ifEq, killV, killL, kill1, kill1L, kill, kills, killO, killOs, bin, binI, binS, binB, eq1, eqB, lit, sameK, kn, unI, mxA, mnA, mkAgg, fits, partN, partA, resN, retV, allVal, isVal, allCell, isCell, okVal, okCell, cellsOf, fillN, rowsN, cellsN, bnd, lohi, offAt, overL, segL, leave, NodeOK, List.cons_append, List.nil_append, List.append_nil, catA, anys, lenA])
  simp only [decide_eq_true_eq, decide_eq_false_iff_not]
  refine ⟨fun h1 => ?_, fun h1 => ⟨fun h2 => ?_, fun h2 => ?_⟩⟩
  · have h1 : set = 0 := by simpa using h1
    have : fineB set = false := by simp [fineB, h1]
    ((repeat (with_reducible refine And.intro ?_ ?_; focus (simp; done))); refine ⟨[], rfl, _, _, ?_, ?_, rfl, rfl⟩ <;> simp [Wk, mtc, mtc0, mtc0L, mtcL, mtcO, mtcOs, cutM, takeE, stA, rl, renV, renL, ren1, ren1L, ren, rens, renO, Nat.blt, lenO, getO, setO, setL, anys, okS, endM, endH, idxN, takeE, pickE, catO, rl, renV, renL, ren1, ren1L, ren, rens, renO, Nat.blt, lenO, getO, setO, setL, anys, itemV, this, itA, emS])
  · have : fineB set = false := by simp [fineB]; omega
    ((repeat (with_reducible refine And.intro ?_ ?_; focus (simp; done))); refine ⟨[], rfl, _, _, ?_, ?_, rfl, rfl⟩ <;> simp [Wk, mtc, mtc0, mtc0L, mtcL, mtcO, mtcOs, cutM, takeE, stA, rl, renV, renL, ren1, ren1L, ren, rens, renO, Nat.blt, lenO, getO, setO, setL, anys, okS, endM, endH, idxN, takeE, pickE, catO, rl, renV, renL, ren1, ren1L, ren, rens, renO, Nat.blt, lenO, getO, setO, setL, anys, itemV, this, itA, emS])
  · have h1 : ¬ set = 0 := by simpa using h1
    have h3 : set ≤ 127 := by omega
    have h2 : fineB set = true := by simp [fineB]; omega
    have e0 : IntKind.u8.wrap (set : Int) = (set : Int) := by rw [IntKind.wrap_u8]; omega
    rw [e0, str1 set (by omega)]
    refine ⟨fun row h => ?_, by simp, ?_⟩
    · simp at h; exact ⟨_, h⟩
    · have e : itemV set term = .tup [itA term 2 (oneS set), .bool true] := by unfold itemV; rw [if_pos h2, h2]
      rw [e]
      ((repeat (with_reducible refine And.intro ?_ ?_; focus (simp; done))); refine ⟨[], rfl, _, _, ?_, ?_, rfl, rfl⟩ <;> simp [Wk, mtc, mtc0, mtc0L, mtcL, mtcO, mtcOs, cutM, takeE, stA, rl, renV, renL, ren1, ren1L, ren, rens, renO, Nat.blt, lenO, getO, setO, setL, anys, okS, endM, endH, idxN, takeE, pickE, catO, rl, renV, renL, ren1, ren1L, ren, rens, renO, Nat.blt, lenO, getO, setO, setL, anys, itA])
def ofB (k : Int) (s : ByteArray) : Bool := decide (k = 2 ∧ s.size = 1 ∧ 1 ≤ bt s 0 ∧ bt s 0 ≤ 127)
def ofW (k : Int) (s : ByteArray) : AV := .tup [.int .u64 (if ofB k s = true then bt s 0 else 0 : Nat), .bool (ofB k s)]
theorem rof_c (t k : Int) (s : ByteArray) : ACalls Try.prog 12 [itA t k s] [] (fun r hs => r = ofW k s ∧ hs = []) := by
  refine acalls_weak (acalls_of (fn := Try.f12) (A := a12) Try.func12 ok_12 en_12 ?_)
  dsimp only [a12, itA]
  (refine eval_sound 2000 _ _ _ ?_; simp only [and, Nat.reduceAdd, Nat.reduceSub, Nat.reduceMul, eval, nf, nfO, opN, appTo, rowsV, getL, setL, getO, setO, snocO, lenO, putL, ev, evs, ifEq, killV, killL, kill1, kill1L, kill, kills, killO, killOs, bin, binI, binS, binB, eq1, eqB, lit, sameK, kn, unI, mxA, mnA, mkAgg, fits, partN, partA, resN, retV, allVal, isVal, allCell, isCell, okVal, okCell, cellsOf, fillN, rowsN, cellsN, bnd, lohi, offAt, overL, segL, leave, NodeOK, List.cons_append, List.nil_append, List.append_nil, catA, anys, lenA])
  simp only [decide_eq_true_eq, decide_eq_false_iff_not]
  have no : ofB k s = false → ofW k s = .tup [.int .u64 0, .bool false] := fun h => by unfold ofW; rw [h]; rfl
  have b8 : bt s (Int.toNat 0) = bt s 0 := rfl
  rw [b8]
  have hlt : bt s 0 < 256 := by unfold bt; exact UInt8.toNat_lt _
  refine ⟨fun h1 => ?_, fun h1 => ⟨fun h2 => ?_, fun h2 => ?_⟩⟩
  · have h1 : ¬ k = 2 := by simpa using h1
    rw [no (by simp [ofB, h1])]
    ((repeat (with_reducible refine And.intro ?_ ?_; focus (simp; done))); refine ⟨[], rfl, _, _, ?_, ?_, rfl, rfl⟩ <;> simp [Wk, mtc, mtc0, mtc0L, mtcL, mtcO, mtcOs, cutM, takeE, stA, rl, renV, renL, ren1, ren1L, ren, rens, renO, Nat.blt, lenO, getO, setO, setL, anys, okS, endM, endH, idxN, takeE, pickE, catO, rl, renV, renL, ren1, ren1L, ren, rens, renO, Nat.blt, lenO, getO, setO, setL, anys, itA])
  · have h2 : ¬ s.size = 1 := by simp at h2; omega
    rw [no (by simp [ofB]; intro _ h; exact absurd h h2)]
    ((repeat (with_reducible refine And.intro ?_ ?_; focus (simp; done))); refine ⟨[], rfl, _, _, ?_, ?_, rfl, rfl⟩ <;> simp [Wk, mtc, mtc0, mtc0L, mtcL, mtcO, mtcOs, cutM, takeE, stA, rl, renV, renL, ren1, ren1L, ren, rens, renO, Nat.blt, lenO, getO, setO, setL, anys, okS, endM, endH, idxN, takeE, pickE, catO, rl, renV, renL, ren1, ren1L, ren, rens, renO, Nat.blt, lenO, getO, setO, setL, anys, itA])
  · have h1 : k = 2 := by simpa using h1
    have h2 : s.size = 1 := by simp at h2; omega
    refine ⟨⟨by omega, by omega⟩, fun h3 => ?_, fun h3 => ⟨⟨by omega, by omega⟩, fun h4 => ?_, fun h4 => ⟨⟨by omega, by omega⟩, ?_⟩⟩⟩
    · have h3 : bt s 0 = 0 := by simpa using h3
      rw [no (by simp [ofB, h3])]
      ((repeat (with_reducible refine And.intro ?_ ?_; focus (simp; done))); refine ⟨[], rfl, _, _, ?_, ?_, rfl, rfl⟩ <;> simp [Wk, mtc, mtc0, mtc0L, mtcL, mtcO, mtcOs, cutM, takeE, stA, rl, renV, renL, ren1, ren1L, ren, rens, renO, Nat.blt, lenO, getO, setO, setL, anys, okS, endM, endH, idxN, takeE, pickE, catO, rl, renV, renL, ren1, ren1L, ren, rens, renO, Nat.blt, lenO, getO, setO, setL, anys, itA])
    · rw [no (by simp [ofB]; intros; omega)]
      ((repeat (with_reducible refine And.intro ?_ ?_; focus (simp; done))); refine ⟨[], rfl, _, _, ?_, ?_, rfl, rfl⟩ <;> simp [Wk, mtc, mtc0, mtc0L, mtcL, mtcO, mtcOs, cutM, takeE, stA, rl, renV, renL, ren1, ren1L, ren, rens, renO, Nat.blt, lenO, getO, setO, setL, anys, okS, endM, endH, idxN, takeE, pickE, catO, rl, renV, renL, ren1, ren1L, ren, rens, renO, Nat.blt, lenO, getO, setO, setL, anys, itA])
    · have h3 : ¬ bt s 0 = 0 := by simpa using h3
      have e : ofB k s = true := by simp [ofB, h1, h2]; omega
      have e2 : ofW k s = .tup [.int .u64 (bt s 0 : Nat), .bool true] := by unfold ofW; rw [if_pos e, e]
      rw [e2, wruN (n := bt s 0) (by omega)]
      ((repeat (with_reducible refine And.intro ?_ ?_; focus (simp; done))); refine ⟨[], rfl, _, _, ?_, ?_, rfl, rfl⟩ <;> simp [Wk, mtc, mtc0, mtc0L, mtcL, mtcO, mtcOs, cutM, takeE, stA, rl, renV, renL, ren1, ren1L, ren, rens, renO, Nat.blt, lenO, getO, setO, setL, anys, okS, endM, endH, idxN, takeE, pickE, catO, rl, renV, renL, ren1, ren1L, ren, rens, renO, Nat.blt, lenO, getO, setO, setL, anys, itA])
theorem bytesOf_u8s (s : ByteArray) : bytesOf s = u8s (s.data.toList.map fun b => (b.toNat : Int)) := by simp [bytesOf, u8s]
theorem one_of (s : ByteArray) (h : s.size = 1) : s = oneS (bt s 0) ∧ s.data.toList.map (fun b => (b.toNat : Int)) = [(bt s 0 : Int)] := by
  obtain ⟨⟨l⟩⟩ := s
  match l, h with
  | [a], _ => simp [bt, oneS]
theorem of_c (t k : Int) (s : ByteArray) : ACalls Try.prog 11 [itA t k s] [] (fun r hs => r = ofW k s ∧ hs = []) := by
  refine acalls_weak (acalls_of (fn := Try.f11) (A := a11) Try.func11 ok_11 en_11 ?_)
  dsimp only [a11, itA]
  (refine eval_sound 2000 _ _ _ ?_; simp only [and, Nat.reduceAdd, Nat.reduceSub, Nat.reduceMul, eval, nf, nfO, opN, appTo, rowsV, getL, setL, getO, setO, snocO, lenO, putL, ev, evs, ifEq, killV, killL, kill1, kill1L, kill, kills, killO, killOs, bin, binI, binS, binB, eq1, eqB, lit, sameK, kn, unI, mxA, mnA, mkAgg, fits, partN, partA, resN, retV, allVal, isVal, allCell, isCell, okVal, okCell, cellsOf, fillN, rowsN, cellsN, bnd, lohi, offAt, overL, segL, leave, NodeOK, List.cons_append, List.nil_append, List.append_nil, catA, anys, lenA])
  have no : ofB k s = false → ofW k s = .tup [.int .u64 0, .bool false] := fun h => by unfold ofW; rw [h]; rfl
  have hlt : bt s 0 < 256 := by unfold bt; exact UInt8.toNat_lt _
  refine ⟨fun h1 => ?_, fun h1 => ⟨fun h2 => ?_, fun h2 => ?_⟩⟩
  · have h1 : ¬ k = 2 := by simpa using h1
    rw [no (by simp [ofB, h1])]
    ((repeat (with_reducible refine And.intro ?_ ?_; focus (simp; done))); refine ⟨[], rfl, _, _, ?_, ?_, rfl, rfl⟩ <;> simp [Wk, mtc, mtc0, mtc0L, mtcL, mtcO, mtcOs, cutM, takeE, stA, rl, renV, renL, ren1, ren1L, ren, rens, renO, Nat.blt, lenO, getO, setO, setL, anys, okS, endM, endH, idxN, takeE, pickE, catO, rl, renV, renL, ren1, ren1L, ren, rens, renO, Nat.blt, lenO, getO, setO, setL, anys, itA])
  · have h2 : ¬ s.size = 1 := by simp at h2; omega
    rw [no (by simp [ofB]; intro _ h; exact absurd h h2)]
    ((repeat (with_reducible refine And.intro ?_ ?_; focus (simp; done))); refine ⟨[], rfl, _, _, ?_, ?_, rfl, rfl⟩ <;> simp [Wk, mtc, mtc0, mtc0L, mtcL, mtcO, mtcOs, cutM, takeE, stA, rl, renV, renL, ren1, ren1L, ren, rens, renO, Nat.blt, lenO, getO, setO, setL, anys, okS, endM, endH, idxN, takeE, pickE, catO, rl, renV, renL, ren1, ren1L, ren, rens, renO, Nat.blt, lenO, getO, setO, setL, anys, itA])
  · have h1 : k = 2 := by simpa using h1
    have h2 : s.size = 1 := by simp at h2; omega
    obtain ⟨o1, o2⟩ := one_of s h2
    rw [bytesOf_u8s, o2]
    generalize hb : bt s 0 = x at *
    (refine acall_trans (trans_frz 1 _ _ _ rfl) ?_; simp only [snocO, mapA, frz, frz1, frzV, mapO, frzO, ifEq, setO, getO, getL, setL])
    have hR := read_ [(x : Int)]
    ((repeat (with_reducible refine And.intro ?_ ?_; focus (simp; done))); refine aw_call (hR) [] rfl (by simp [upM, nthN, matchO, rens, ren, ren1, ren1L, renL, renV, renO, rl, lenO, getO, Nat.blt, mtc, mtc0, mtc0L, rdO]) rfl (by simp [upM, nthN, matchO, rens, ren, ren1, ren1L, renL, renV, renO, rl, lenO, getO, Nat.blt, mtc, mtc0, mtc0L, rdO]) rfl (fun r hs hp hl => ?_); obtain ⟨rfl, rfl⟩ := hp; simp only [snocO, upM, nthN, putAll, snocAll, killsA, killOsA, grows, putL, rl, renV, renL, ren1, ren1L, ren, rens, renO, Nat.blt, lenO, getO, setO, setL, anys, rdO]; (refine eval_sound 2000 _ _ _ ?_; simp only [and, Nat.reduceAdd, Nat.reduceSub, Nat.reduceMul, eval, nf, nfO, opN, appTo, rowsV, getL, setL, getO, setO, snocO, lenO, putL, ev, evs, ifEq, killV, killL, kill1, kill1L, kill, kills, killO, killOs, bin, binI, binS, binB, eq1, eqB, lit, sameK, kn, unI, mxA, mnA, mkAgg, fits, partN, partA, resN, retV, allVal, isVal, allCell, isCell, okVal, okCell, cellsOf, fillN, rowsN, cellsN, bnd, lohi, offAt, overL, segL, leave, NodeOK, List.cons_append, List.nil_append, List.append_nil, catA, anys, lenA]))
    have hN := num_c [(x : Int)] false 1
    have hv : numV [(x : Int)] false 1 = ((x : Int), [], false) := by
      have := numV_num (x : Int) 1 (by omega) (by omega) (by omega) []
      have e : numI (x : Int) 1 = [(x : Int)] := by
        have e : byteAt (x : Int) 0 = x := by
          rw [byteAt_eq _ (by omega) 0 (by omega)]
          simp
          omega
        simp [numI, e]
      rw [e] at this
      exact this
    rw [hv] at hN
    ((repeat (with_reducible refine And.intro ?_ ?_; focus (simp; done))); refine aw_call (hN) [2] rfl (by simp [upM, nthN, matchO, rens, ren, ren1, ren1L, renL, renV, renO, rl, lenO, getO, Nat.blt, mtc, mtc0, mtc0L, rdO]) rfl (by simp [upM, nthN, matchO, rens, ren, ren1, ren1L, renL, renV, renO, rl, lenO, getO, Nat.blt, mtc, mtc0, mtc0L, rdO]) rfl (fun r hs hp hl => ?_); obtain ⟨rfl, rfl⟩ := hp; simp only [snocO, upM, nthN, putAll, snocAll, killsA, killOsA, grows, putL, rl, renV, renL, ren1, ren1L, ren, rens, renO, Nat.blt, lenO, getO, setO, setL, anys, rdO]; (refine eval_sound 2000 _ _ _ ?_; simp only [and, Nat.reduceAdd, Nat.reduceSub, Nat.reduceMul, eval, nf, nfO, opN, appTo, rowsV, getL, setL, getO, setO, snocO, lenO, putL, ev, evs, ifEq, killV, killL, kill1, kill1L, kill, kills, killO, killOs, bin, binI, binS, binB, eq1, eqB, lit, sameK, kn, unI, mxA, mnA, mkAgg, fits, partN, partA, resN, retV, allVal, isVal, allCell, isCell, okVal, okCell, cellsOf, fillN, rowsN, cellsN, bnd, lohi, offAt, overL, segL, leave, NodeOK, List.cons_append, List.nil_append, List.append_nil, catA, anys, lenA]))
    have hI := item_c x t
    cases hf : fineB x with
    | false =>
      have e : itemV x t = .tup [itA 0 0 emS, .bool false] := by unfold itemV; rw [hf]; rfl
      rw [e] at hI
      have hn : ofB k s = false := by
        have : ¬ (1 ≤ x ∧ x ≤ 127) := by simpa [fineB] using hf
        simp only [ofB, hb, decide_eq_false_iff_not]
        omega
      rw [no hn]
      ((repeat (with_reducible refine And.intro ?_ ?_; focus (simp; done))); refine aw_call (hI) [] rfl (by simp [upM, nthN, matchO, rens, ren, ren1, ren1L, renL, renV, renO, rl, lenO, getO, Nat.blt, mtc, mtc0, mtc0L, itA, emS]) rfl (by simp [upM, nthN, matchO, rens, ren, ren1, ren1L, renL, renV, renO, rl, lenO, getO, Nat.blt, mtc, mtc0, mtc0L, itA, emS]) rfl (fun r hs hp hl => ?_); obtain ⟨rfl, rfl⟩ := hp; simp only [snocO, upM, nthN, putAll, snocAll, killsA, killOsA, grows, putL, rl, renV, renL, ren1, ren1L, ren, rens, renO, Nat.blt, lenO, getO, setO, setL, anys, itA, emS]; (refine eval_sound 2000 _ _ _ ?_; simp only [and, Nat.reduceAdd, Nat.reduceSub, Nat.reduceMul, eval, nf, nfO, opN, appTo, rowsV, getL, setL, getO, setO, snocO, lenO, putL, ev, evs, ifEq, killV, killL, kill1, kill1L, kill, kills, killO, killOs, bin, binI, binS, binB, eq1, eqB, lit, sameK, kn, unI, mxA, mnA, mkAgg, fits, partN, partA, resN, retV, allVal, isVal, allCell, isCell, okVal, okCell, cellsOf, fillN, rowsN, cellsN, bnd, lohi, offAt, overL, segL, leave, NodeOK, List.cons_append, List.nil_append, List.append_nil, catA, anys, lenA]))
      refine ⟨by simp, by simp, by simp, fun _ => ?_, fun h => by simp at h⟩
      ((repeat (with_reducible refine And.intro ?_ ?_; focus (simp; done))); refine ⟨[], rfl, _, _, ?_, ?_, rfl, rfl⟩ <;> simp [Wk, mtc, mtc0, mtc0L, mtcL, mtcO, mtcOs, cutM, takeE, stA, rl, renV, renL, ren1, ren1L, ren, rens, renO, Nat.blt, lenO, getO, setO, setL, anys, okS, endM, endH, idxN, takeE, pickE, catO, rl, renV, renL, ren1, ren1L, ren, rens, renO, Nat.blt, lenO, getO, setO, setL, anys, itA])
    | true =>
      have e : itemV x t = .tup [itA t 2 (oneS x), .bool true] := by unfold itemV; rw [hf]; rfl
      rw [e] at hI
      have hn : ofB k s = true := by
        have : 1 ≤ x ∧ x ≤ 127 := by simpa [fineB] using hf
        simp only [ofB, hb, decide_eq_true_eq]
        omega
      have e2 : ofW k s = .tup [.int .u64 (x : Nat), .bool true] := by unfold ofW; rw [if_pos hn, hn, hb]
      rw [e2]
      ((repeat (with_reducible refine And.intro ?_ ?_; focus (simp; done))); refine aw_call (hI) [] rfl (by simp [upM, nthN, matchO, rens, ren, ren1, ren1L, renL, renV, renO, rl, lenO, getO, Nat.blt, mtc, mtc0, mtc0L, itA]) rfl (by simp [upM, nthN, matchO, rens, ren, ren1, ren1L, renL, renV, renO, rl, lenO, getO, Nat.blt, mtc, mtc0, mtc0L, itA]) rfl (fun r hs hp hl => ?_); obtain ⟨rfl, rfl⟩ := hp; simp only [snocO, upM, nthN, putAll, snocAll, killsA, killOsA, grows, putL, rl, renV, renL, ren1, ren1L, ren, rens, renO, Nat.blt, lenO, getO, setO, setL, anys, itA]; (refine eval_sound 2000 _ _ _ ?_; simp only [and, Nat.reduceAdd, Nat.reduceSub, Nat.reduceMul, eval, nf, nfO, opN, appTo, rowsV, getL, setL, getO, setO, snocO, lenO, putL, ev, evs, ifEq, killV, killL, kill1, kill1L, kill, kills, killO, killOs, bin, binI, binS, binB, eq1, eqB, lit, sameK, kn, unI, mxA, mnA, mkAgg, fits, partN, partA, resN, retV, allVal, isVal, allCell, isCell, okVal, okCell, cellsOf, fillN, rowsN, cellsN, bnd, lohi, offAt, overL, segL, leave, NodeOK, List.cons_append, List.nil_append, List.append_nil, catA, anys, lenA]))
      rw [o1, h1]
      refine ⟨by simp, by simp, by simp, fun h => by simp at h, fun _ => ⟨by simp, by simp, by simp [Fit], fun h => ?_, fun _ => ?_⟩⟩
      · simp [eqCells, eqCell, bs_eq] at h
      · ((repeat (with_reducible refine And.intro ?_ ?_; focus (simp; done))); refine ⟨[], rfl, _, _, ?_, ?_, rfl, rfl⟩ <;> simp [Wk, mtc, mtc0, mtc0L, mtcL, mtcO, mtcOs, cutM, takeE, stA, rl, renV, renL, ren1, ren1L, ren, rens, renO, Nat.blt, lenO, getO, setO, setL, anys, okS, endM, endH, idxN, takeE, pickE, catO, rl, renV, renL, ren1, ren1L, ren, rens, renO, Nat.blt, lenO, getO, setO, setL, anys, itA])
theorem cnt_xor (f : Nat) : ∀ a b, cnt (f + 1) (a ^^^ b) = (if a % 2 = b % 2 then 0 else 1) + cnt f ((a / 2) ^^^ (b / 2)) := by
  intro a b
  simp only [cnt]
  have h1 : (a ^^^ b) / 2 = (a / 2) ^^^ (b / 2) := by
    have := Nat.xor_div_two_pow (a := a) (b := b) (n := 1)
    simpa using this
  have h2 : (a ^^^ b) % 2 = (a % 2) ^^^ (b % 2) := by
    have := Nat.xor_mod_two_pow (a := a) (b := b) (n := 1)
    simpa using this
  rw [h1, h2]
  have ha : a % 2 = 0 ∨ a % 2 = 1 := by omega
  have hb : b % 2 = 0 ∨ b % 2 = 1 := by omega
  rcases ha with h | h <;> rcases hb with g | g <;> simp [h, g]
theorem rbits_c (a b : Nat) (ha : a < 18446744073709551616) (hb : b < 18446744073709551616) : ACalls Try.prog 56 [.int .u64 (a : Int), .int .u64 (b : Int)] [] (fun r hs => r = .int .i64 (cnt 64 (a ^^^ b) : Nat) ∧ hs = []) := by
  refine acalls_weak (acalls_of (fn := Try.f56) (A := a56) Try.func56 ok_56 en_56 ?_)
  dsimp only [a56, u8s]
  (refine eval_sound 2000 _ _ _ ?_; simp only [and, Nat.reduceAdd, Nat.reduceSub, Nat.reduceMul, eval, nf, nfO, opN, appTo, rowsV, getL, setL, getO, setO, snocO, lenO, putL, ev, evs, ifEq, killV, killL, kill1, kill1L, kill, kills, killO, killOs, bin, binI, binS, binB, eq1, eqB, lit, sameK, kn, unI, mxA, mnA, mkAgg, fits, partN, partA, resN, retV, allVal, isVal, allCell, isCell, okVal, okCell, cellsOf, fillN, rowsN, cellsN, bnd, lohi, offAt, overL, segL, leave, NodeOK, List.cons_append, List.nil_append, List.append_nil, catA, anys, lenA])
  refine aw_loopU (α := Nat × Nat × Nat × Nat) (fun q => q.1 ≤ 64 ∧ q.2.1 < 18446744073709551616 ∧ q.2.2.1 < 18446744073709551616 ∧ q.2.2.2 ≤ q.1 ∧ q.2.2.2 + cnt (64 - q.1) (q.2.1 ^^^ q.2.2.1) = cnt 64 (a ^^^ b)) (fun q => [(6, .int .i64 (q.1 : Nat)), (0, .int .u64 (q.2.1 : Nat)), (1, .int .u64 (q.2.2.1 : Nat)), (5, .int .i64 (q.2.2.2 : Nat))]) (fun k => []) (fun q => 64 - q.1) ((0, a, b, 0)) (⟨Nat.zero_le _, ha, hb, Nat.le_refl _, by simp⟩) ?_ fun x hx => ?_
  · (simp only [wrC, wrOs, keepT, memN, setsL, setsO, setL, setO, snocO, List.cons_append, List.nil_append, List.append_nil, Nat.reduceAdd, Nat.zero_add, Wk, mtc, mtc0, mtc0L, mtcL, mtcO, mtcOs, cutM, takeE, stA, rl, renV, renL, ren1, ren1L, ren, rens, renO, Nat.blt, lenO, getO, setO, setL, anys, u8s]; simp [u8s])
  obtain ⟨k, x, y, n⟩ := x
  simp only at hx
  obtain ⟨h1, h2, h3, h4, h5⟩ := hx
  (simp only [wrC, wrOs, keepT, memN, setsL, setsO, setL, setO, snocO, List.cons_append, List.nil_append, List.append_nil, Nat.reduceAdd, Nat.zero_add, u8s]; (refine eval_sound 2000 _ _ _ ?_; simp only [and, Nat.reduceAdd, Nat.reduceSub, Nat.reduceMul, eval, nf, nfO, opN, appTo, rowsV, getL, setL, getO, setO, snocO, lenO, putL, ev, evs, ifEq, killV, killL, kill1, kill1L, kill, kills, killO, killOs, bin, binI, binS, binB, eq1, eqB, lit, sameK, kn, unI, mxA, mnA, mkAgg, fits, partN, partA, resN, retV, allVal, isVal, allCell, isCell, okVal, okCell, cellsOf, fillN, rowsN, cellsN, bnd, lohi, offAt, overL, segL, leave, NodeOK, List.cons_append, List.nil_append, List.append_nil, catA, anys, lenA]))
  simp only [decide_eq_true_eq, decide_eq_false_iff_not]
  have t1 : (x : Int).tmod 2 = ((x % 2 : Nat) : Int) := by rw [Int.tmod_eq_emod_of_nonneg (by omega)]; omega
  have t2 : (y : Int).tmod 2 = ((y % 2 : Nat) : Int) := by rw [Int.tmod_eq_emod_of_nonneg (by omega)]; omega
  have t3 : (x : Int).tdiv 2 = ((x / 2 : Nat) : Int) := by rw [Int.tdiv_eq_ediv_of_nonneg (by omega)]; omega
  have t4 : (y : Int).tdiv 2 = ((y / 2 : Nat) : Int) := by rw [Int.tdiv_eq_ediv_of_nonneg (by omega)]; omega
  rw [t1, t2, t3, t4, wruN (n := x / 2) (by omega), wruN (n := y / 2) (by omega)]
  refine ⟨fun g1 => ?_, fun g1 => ?_⟩
  · have hk : 64 - k = (64 - (k + 1)) + 1 := by omega
    rw [hk, cnt_xor] at h5
    rw [wr64 (n := (k : Int) + 1) (by omega) (by omega), wr64 (n := (n : Int) + 1) (by omega) (by omega)]
    refine ⟨by omega, by omega, fun g2 => ⟨by omega, by omega, (k + 1, x / 2, y / 2, n + 1), ?_, by show 64 - (k + 1) < 64 - k; omega, ?_⟩, fun g2 => ⟨by omega, by omega, (k + 1, x / 2, y / 2, n), ?_, by show 64 - (k + 1) < 64 - k; omega, ?_⟩⟩
    · have g2 : ¬ x % 2 = y % 2 := by simp at g2; omega
      rw [if_neg g2] at h5
      exact ⟨by show k + 1 ≤ 64; omega, by show x / 2 < _; omega, by show y / 2 < _; omega, by show n + 1 ≤ k + 1; omega, by show n + 1 + cnt (64 - (k + 1)) (x / 2 ^^^ y / 2) = _; omega⟩
    · (simp only [wrC, wrOs, keepT, memN, setsL, setsO, setL, setO, snocO, List.cons_append, List.nil_append, List.append_nil, Nat.reduceAdd, Nat.zero_add, Wk, mtc, mtc0, mtc0L, mtcL, mtcO, mtcOs, cutM, takeE, stA, rl, renV, renL, ren1, ren1L, ren, rens, renO, Nat.blt, lenO, getO, setO, setL, anys, u8s]; simp [u8s])
    · have g2 : x % 2 = y % 2 := by simp at g2; omega
      rw [if_pos g2] at h5
      exact ⟨by show k + 1 ≤ 64; omega, by show x / 2 < _; omega, by show y / 2 < _; omega, by show n ≤ k + 1; omega, by show n + cnt (64 - (k + 1)) (x / 2 ^^^ y / 2) = _; omega⟩
    · (simp only [wrC, wrOs, keepT, memN, setsL, setsO, setL, setO, snocO, List.cons_append, List.nil_append, List.append_nil, Nat.reduceAdd, Nat.zero_add, Wk, mtc, mtc0, mtc0L, mtcL, mtcO, mtcOs, cutM, takeE, stA, rl, renV, renL, ren1, ren1L, ren, rens, renO, Nat.blt, lenO, getO, setO, setL, anys, u8s]; simp [u8s])
  · have : k = 64 := by omega
    subst this
    have : n = cnt 64 (a ^^^ b) := by rw [← h5, Nat.sub_self]; rfl
    rw [this]
    ((repeat (with_reducible refine And.intro ?_ ?_; focus (simp; done))); refine ⟨[], rfl, _, _, ?_, ?_, rfl, rfl⟩ <;> simp [Wk, mtc, mtc0, mtc0L, mtcL, mtcO, mtcOs, cutM, takeE, stA, rl, renV, renL, ren1, ren1L, ren, rens, renO, Nat.blt, lenO, getO, setO, setL, anys, okS, endM, endH, idxN, takeE, pickE, catO, rl, renV, renL, ren1, ren1L, ren, rens, renO, Nat.blt, lenO, getO, setO, setL, anys, u8s])
theorem rmay_c (a b : Nat) (ha : a < 18446744073709551616) (hb : b < 18446744073709551616) : ACalls Try.prog 18 [.int .u64 (a : Int), .int .u64 (b : Int)] [] (fun r hs => r = .bool (mayB a b) ∧ hs = []) := by
  have hB := rbits_c a b ha hb
  refine acalls_weak (acalls_of (fn := Try.f18) (A := a18) Try.func18 ok_18 en_18 ?_)
  dsimp only [a18, u8s]
  (refine eval_sound 2000 _ _ _ ?_; simp only [and, Nat.reduceAdd, Nat.reduceSub, Nat.reduceMul, eval, nf, nfO, opN, appTo, rowsV, getL, setL, getO, setO, snocO, lenO, putL, ev, evs, ifEq, killV, killL, kill1, kill1L, kill, kills, killO, killOs, bin, binI, binS, binB, eq1, eqB, lit, sameK, kn, unI, mxA, mnA, mkAgg, fits, partN, partA, resN, retV, allVal, isVal, allCell, isCell, okVal, okCell, cellsOf, fillN, rowsN, cellsN, bnd, lohi, offAt, overL, segL, leave, NodeOK, List.cons_append, List.nil_append, List.append_nil, catA, anys, lenA])
  simp only [decide_eq_true_eq, decide_eq_false_iff_not]
  refine ⟨fun h1 => ⟨fun h2 => ?_, fun h2 => ?_⟩, fun h1 => ?_⟩
  · have h3 : fineB b = true := by simp [fineB]; omega
    ((repeat (with_reducible refine And.intro ?_ ?_; focus (simp; done))); refine aw_call (hB) [] rfl (by simp [upM, nthN, matchO, rens, ren, ren1, ren1L, renL, renV, renO, rl, lenO, getO, Nat.blt, mtc, mtc0, mtc0L]) rfl (by simp [upM, nthN, matchO, rens, ren, ren1, ren1L, renL, renV, renO, rl, lenO, getO, Nat.blt, mtc, mtc0, mtc0L]) rfl (fun r hs hp hl => ?_); obtain ⟨rfl, rfl⟩ := hp; simp only [snocO, upM, nthN, putAll, snocAll, killsA, killOsA, grows, putL, rl, renV, renL, ren1, ren1L, ren, rens, renO, Nat.blt, lenO, getO, setO, setL, anys]; (refine eval_sound 2000 _ _ _ ?_; simp only [and, Nat.reduceAdd, Nat.reduceSub, Nat.reduceMul, eval, nf, nfO, opN, appTo, rowsV, getL, setL, getO, setO, snocO, lenO, putL, ev, evs, ifEq, killV, killL, kill1, kill1L, kill, kills, killO, killOs, bin, binI, binS, binB, eq1, eqB, lit, sameK, kn, unI, mxA, mnA, mkAgg, fits, partN, partA, resN, retV, allVal, isVal, allCell, isCell, okVal, okCell, cellsOf, fillN, rowsN, cellsN, bnd, lohi, offAt, overL, segL, leave, NodeOK, List.cons_append, List.nil_append, List.append_nil, catA, anys, lenA]))
    have : mayB a b = (((cnt 64 (a ^^^ b) : Nat) : Int) == 1) := by
      unfold mayB
      rw [h3, Bool.true_and, Bool.eq_iff_iff, beq_iff_eq, beq_iff_eq]
      omega
    ((repeat (with_reducible refine And.intro ?_ ?_; focus (simp; done))); refine ⟨[], rfl, _, _, ?_, ?_, rfl, rfl⟩ <;> simp [Wk, mtc, mtc0, mtc0L, mtcL, mtcO, mtcOs, cutM, takeE, stA, rl, renV, renL, ren1, ren1L, ren, rens, renO, Nat.blt, lenO, getO, setO, setL, anys, okS, endM, endH, idxN, takeE, pickE, catO, rl, renV, renL, ren1, ren1L, ren, rens, renO, Nat.blt, lenO, getO, setO, setL, anys, this])
  · have : mayB a b = false := by unfold mayB; rw [show fineB b = false by simp [fineB]; omega]; rfl
    ((repeat (with_reducible refine And.intro ?_ ?_; focus (simp; done))); refine ⟨[], rfl, _, _, ?_, ?_, rfl, rfl⟩ <;> simp [Wk, mtc, mtc0, mtc0L, mtcL, mtcO, mtcOs, cutM, takeE, stA, rl, renV, renL, ren1, ren1L, ren, rens, renO, Nat.blt, lenO, getO, setO, setL, anys, okS, endM, endH, idxN, takeE, pickE, catO, rl, renV, renL, ren1, ren1L, ren, rens, renO, Nat.blt, lenO, getO, setO, setL, anys, this])
  · have : mayB a b = false := by unfold mayB; rw [show fineB b = false by simp [fineB]; omega]; rfl
    ((repeat (with_reducible refine And.intro ?_ ?_; focus (simp; done))); refine ⟨[], rfl, _, _, ?_, ?_, rfl, rfl⟩ <;> simp [Wk, mtc, mtc0, mtc0L, mtcL, mtcO, mtcOs, cutM, takeE, stA, rl, renV, renL, ren1, ren1L, ren, rens, renO, Nat.blt, lenO, getO, setO, setL, anys, okS, endM, endH, idxN, takeE, pickE, catO, rl, renV, renL, ren1, ren1L, ren, rens, renO, Nat.blt, lenO, getO, setO, setL, anys, this])
end Go.Proofs.Ytikogdkjmnpfcaa.S
