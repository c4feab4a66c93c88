/- Contracts of image: what is read. -/
import Derived.Test.YtlnafekmiidpkaaImQ
namespace Go.Proofs.Ytlnafekmiidpkaa.S
set_option linter.all false
set_option maxRecDepth 100000
set_option maxHeartbeats 2000000
def q1 (b : List Int) : Int × List Int × Bool := numV b false 8
def q2 (b : List Int) : Int × List Int × Bool := numV (q1 b).2.1 (q1 b).2.2 8
def q3 (b : List Int) : List Int × List Int × Bool := txtR (q2 b).2.1 (q2 b).2.2
def q4 (b : List Int) : List (Int × Int) × List Int × Bool := rdN ((q3 b).2.1, (q3 b).2.2) 8
def prM (b : List Int) : Mk := ⟨(q1 b).1.toNat, (q2 b).1.toNat⟩
def prS (b : List Int) : ByteArray := strOf (u8s (q3 b).1)
def prT (b : List Int) : List (Int × Int) := rdT ((q3 b).2.1, (q3 b).2.2)
def prE (b : List Int) : Int := endR (q4 b).2.1 (q4 b).2.2
theorem rdN_inv (l : List Int) (b0 : Bool) (hb : ByteL l) : ∀ k, ByteL (rdN (l, b0) k).2.1 ∧ TOK (rdN (l, b0) k).1 ∧ ((rdN (l, b0) k).2.2 = false → b0 = false ∧ l = bytesI (rdN (l, b0) k).1 ++ (rdN (l, b0) k).2.1)
  | 0 => ⟨hb, fun c hc => by simp [rdN] at hc, fun h => ⟨h, rfl⟩⟩
  | k + 1 => by
    obtain ⟨h1, h2, h3⟩ := rdN_inv l b0 hb k
    have e : rdN (l, b0) (k + 1) = ((rdN (l, b0) k).1 ++ [(rd2 (rdN (l, b0) k).2).1], (rd2 (rdN (l, b0) k).2).2) := rfl
    rw [e]
    generalize rdN (l, b0) k = R at *
    obtain ⟨p, l1, b1⟩ := R
    simp only [] at h1 h2 h3 ⊢
    obtain ⟨⟨a1, a2⟩, a3, a4⟩ := numV_inv l1 b1 h1 8 (by omega)
    obtain ⟨⟨c1, c2⟩, c3, c4⟩ := numV_inv _ (numV l1 b1 8).2.2 a3 2 (by omega)
    simp only [rd2]
    rw [show ((8 : Nat) : Int) = 8 from rfl] at *
    rw [show ((2 : Nat) : Int) = 2 from rfl] at *
    have hw : IntKind.u16.wrap (numV (numV l1 b1 8).2.1 (numV l1 b1 8).2.2 2).1 = (numV (numV l1 b1 8).2.1 (numV l1 b1 8).2.2 2).1 := by
      rw [IntKind.wrap_u16]
      exact Int.emod_eq_of_lt c1 (by omega)
    refine ⟨c3, fun c hc => ?_, fun h => ?_⟩
    · rcases List.mem_append.1 hc with hc | hc
      · exact h2 c hc
      · have : c = ((numV l1 b1 8).1, IntKind.u16.wrap (numV (numV l1 b1 8).2.1 (numV l1 b1 8).2.2 2).1) := by simpa using hc
        rw [this, hw]
        exact ⟨⟨a1, by omega⟩, c1, by omega⟩
    · obtain ⟨d1, d2⟩ := c4 h
      obtain ⟨d3, d4⟩ := a4 d1
      obtain ⟨d5, d6⟩ := h3 d3
      refine ⟨d5, ?_⟩
      rw [hw, d6]
      unfold bytesI
      rw [List.flatMap_append, List.append_assoc]
      congr 1
      rw [List.flatMap_cons, List.flatMap_nil, List.append_nil]
      simp only []
      rw [List.append_assoc, ← d2, ← d4]
theorem zT_ok (n : Nat) : TOK (zT n) := fun c hc => by
  rw [List.eq_of_mem_replicate hc]
  exact ⟨⟨by omega, by omega⟩, by omega, by omega⟩
theorem read1_c (l : List Int) (bad : Bool) : ACalls Try.prog 65 [.ptr 0 0] [.cells 123 [.ptr 1 0], rdO l bad] (fun r hs => r = .int .u64 (numV l bad 8).1 ∧ hs = [.cells 123 [.ptr 1 0], rdO (numV l bad 8).2.1 (numV l bad 8).2.2]) := by
  have h := num_c l bad 8
  generalize numV l bad 8 = R at *
  refine acalls_weak (acalls_of (fn := Try.f65) (A := a65) Try.func65 ok_65 en_65 ?_)
  dsimp only [a65, rdO]
  (refine eval_sound 2000 _ _ _ ?_; simp (maxSteps := 1000000) only [ptrL, lenV, Bool.not_true, Bool.not_false, lookR, valOf, asGrow, jump, findA, restA, and, Nat.reduceAdd, Nat.reduceSub, Nat.reduceMul, Int.reduceToNat, eval, nf, nfO, opN, appTo, rowsV, getL, setL, getO, setO, snocO, lenO, putL, ev, evs, ifEq, killV, killL, kill1, kill1L, kill, kills, killO, killOs, bin, binI, binS, binB, eq1, eqB, lit, sameK, kn, unI, mxA, mnA, mkAgg, fits, partN, partA, resN, retV, allVal, isVal, allCell, isCell, okVal, okCell, cellsOf, fillN, rowsN, cellsN, bnd, lohi, offAt, overL, segL, leave, NodeOK, List.cons_append, List.nil_append, List.append_nil, catA, anys, lenA])
  ((repeat (with_reducible refine And.intro ?_ ?_; focus (simp; done))); refine aw_call (h) [1] rfl (by simp [upM, nthN, matchO, rens, ren, ren1, ren1L, renL, renV, renO, rl, lenO, getO, Nat.blt, mtc, mtcS, mtcSL, mtc0, mtc0L, rdO]) rfl (by simp [upM, nthN, matchO, rens, ren, ren1, ren1L, renL, renV, renO, rl, lenO, getO, Nat.blt, mtc, mtcS, mtcSL, mtc0, mtc0L, rdO]) rfl (fun r hs hp hl => ?_); obtain ⟨rfl, rfl⟩ := hp; simp only [snocO, upM, nthN, putAll, snocAll, killsA, killOsA, grows, putL, rl, renV, renL, ren1, ren1L, ren, rens, renO, Nat.blt, lenO, getO, setO, setL, anys, rdO]; (refine eval_sound 2000 _ _ _ ?_; simp (maxSteps := 1000000) only [ptrL, lenV, Bool.not_true, Bool.not_false, lookR, valOf, asGrow, jump, findA, restA, and, Nat.reduceAdd, Nat.reduceSub, Nat.reduceMul, Int.reduceToNat, eval, nf, nfO, opN, appTo, rowsV, getL, setL, getO, setO, snocO, lenO, putL, ev, evs, ifEq, killV, killL, kill1, kill1L, kill, kills, killO, killOs, bin, binI, binS, binB, eq1, eqB, lit, sameK, kn, unI, mxA, mnA, mkAgg, fits, partN, partA, resN, retV, allVal, isVal, allCell, isCell, okVal, okCell, cellsOf, fillN, rowsN, cellsN, bnd, lohi, offAt, overL, segL, leave, NodeOK, List.cons_append, List.nil_append, List.append_nil, catA, anys, lenA]))
  ((repeat (with_reducible refine And.intro ?_ ?_; focus (simp; done))); refine ⟨[], rfl, _, _, ?_, ?_, rfl, rfl⟩ <;> simp [Wk, mtc, mtcS, mtcSL, mtc0, mtc0L, mtcL, mtcO, mtcOs, cutM, takeE, stA, rl, renV, renL, ren1, ren1L, ren, rens, renO, Nat.blt, lenO, getO, setO, setL, anys, okS, endM, endH, idxN, takeE, pickE, catO, rl, renV, renL, ren1, ren1L, ren, rens, renO, Nat.blt, lenO, getO, setO, setL, anys, rdO])
def zeroI : AV := imA ⟨0, 0⟩ ⟨#[]⟩ (zT 8)
theorem zeroI_eq : zeroI = .arr [.int .u64 0, .int .u64 0, .str ⟨#[]⟩, .int .u64 0, .int .u16 0, .int .u64 0, .int .u16 0, .int .u64 0, .int .u16 0, .int .u64 0, .int .u16 0, .int .u64 0, .int .u16 0, .int .u64 0, .int .u16 0, .int .u64 0, .int .u16 0, .int .u64 0, .int .u16 0] := rfl
theorem readS_i (s : ByteArray) (hs : s.size < 4) : ACalls Try.prog 32 [.str s] [] (fun r hs => r = .tup [zeroI, .int .i64 10] ∧ hs = []) := by
  have h := openS_c (nmI s) (by rw [nmI_len]; omega)
  rw [zeroI_eq]
  refine acalls_weak (acalls_of (fn := Try.f32) (A := a32) Try.func32 ok_32 en_32 ?_)
  dsimp only [a32, rdO]
  (refine eval_sound 2000 _ _ _ ?_; simp (maxSteps := 1000000) only [ptrL, lenV, Bool.not_true, Bool.not_false, lookR, valOf, asGrow, jump, findA, restA, and, Nat.reduceAdd, Nat.reduceSub, Nat.reduceMul, Int.reduceToNat, eval, nf, nfO, opN, appTo, rowsV, getL, setL, getO, setO, snocO, lenO, putL, ev, evs, ifEq, killV, killL, kill1, kill1L, kill, kills, killO, killOs, bin, binI, binS, binB, eq1, eqB, lit, sameK, kn, unI, mxA, mnA, mkAgg, fits, partN, partA, resN, retV, allVal, isVal, allCell, isCell, okVal, okCell, cellsOf, fillN, rowsN, cellsN, bnd, lohi, offAt, overL, segL, leave, NodeOK, List.cons_append, List.nil_append, List.append_nil, catA, anys, lenA])
  rw [bytesOf_I]
  (refine acall_trans (trans_frz 1 _ _ _ rfl) ?_; simp only [snocO, mapA, frz, frz1, frzV, mapO, frzO, ifEq, setO, getO, getL, setL])
  ((repeat (with_reducible refine And.intro ?_ ?_; focus (simp; done))); refine aw_call (h) [] rfl (by simp [upM, nthN, matchO, rens, ren, ren1, ren1L, renL, renV, renO, rl, lenO, getO, Nat.blt, mtc, mtcS, mtcSL, mtc0, mtc0L, rdO]) rfl (by simp [upM, nthN, matchO, rens, ren, ren1, ren1L, renL, renV, renO, rl, lenO, getO, Nat.blt, mtc, mtcS, mtcSL, mtc0, mtc0L, rdO]) rfl (fun r hs hp hl => ?_); obtain ⟨rfl, rfl⟩ := hp; simp only [snocO, upM, nthN, putAll, snocAll, killsA, killOsA, grows, putL, rl, renV, renL, ren1, ren1L, ren, rens, renO, Nat.blt, lenO, getO, setO, setL, anys, rdO]; (refine eval_sound 2000 _ _ _ ?_; simp (maxSteps := 1000000) only [ptrL, lenV, Bool.not_true, Bool.not_false, lookR, valOf, asGrow, jump, findA, restA, and, Nat.reduceAdd, Nat.reduceSub, Nat.reduceMul, Int.reduceToNat, eval, nf, nfO, opN, appTo, rowsV, getL, setL, getO, setO, snocO, lenO, putL, ev, evs, ifEq, killV, killL, kill1, kill1L, kill, kills, killO, killOs, bin, binI, binS, binB, eq1, eqB, lit, sameK, kn, unI, mxA, mnA, mkAgg, fits, partN, partA, resN, retV, allVal, isVal, allCell, isCell, okVal, okCell, cellsOf, fillN, rowsN, cellsN, bnd, lohi, offAt, overL, segL, leave, NodeOK, List.cons_append, List.nil_append, List.append_nil, catA, anys, lenA]))
  refine ⟨by simp, by simp, fun _ => ?_, fun h => by simp at h⟩
  ((repeat (with_reducible refine And.intro ?_ ?_; focus (simp; done))); refine ⟨[], rfl, _, _, ?_, ?_, rfl, rfl⟩ <;> simp [Wk, mtc, mtcS, mtcSL, mtc0, mtc0L, mtcL, mtcO, mtcOs, cutM, takeE, stA, rl, renV, renL, ren1, ren1L, ren, rens, renO, Nat.blt, lenO, getO, setO, setL, anys, okS, endM, endH, idxN, takeE, pickE, catO, rl, renV, renL, ren1, ren1L, ren, rens, renO, Nat.blt, lenO, getO, setO, setL, anys, rdO])
theorem readB_i (s : ByteArray) (hs : 4 ≤ s.size ∧ s.size ≤ 3000) (hd : sealed (nmI s) = false) : ACalls Try.prog 32 [.str s] [] (fun r hs => r = .tup [zeroI, .int .i64 12] ∧ hs = []) := by
  have h := openB_c (nmI s) (by rw [nmI_len]; omega) (nmI_byte s) (by rw [nmI_len]; omega) hd
  rw [zeroI_eq]
  refine acalls_weak (acalls_of (fn := Try.f32) (A := a32) Try.func32 ok_32 en_32 ?_)
  dsimp only [a32, rdO]
  (refine eval_sound 2000 _ _ _ ?_; simp (maxSteps := 1000000) only [ptrL, lenV, Bool.not_true, Bool.not_false, lookR, valOf, asGrow, jump, findA, restA, and, Nat.reduceAdd, Nat.reduceSub, Nat.reduceMul, Int.reduceToNat, eval, nf, nfO, opN, appTo, rowsV, getL, setL, getO, setO, snocO, lenO, putL, ev, evs, ifEq, killV, killL, kill1, kill1L, kill, kills, killO, killOs, bin, binI, binS, binB, eq1, eqB, lit, sameK, kn, unI, mxA, mnA, mkAgg, fits, partN, partA, resN, retV, allVal, isVal, allCell, isCell, okVal, okCell, cellsOf, fillN, rowsN, cellsN, bnd, lohi, offAt, overL, segL, leave, NodeOK, List.cons_append, List.nil_append, List.append_nil, catA, anys, lenA])
  rw [bytesOf_I]
  (refine acall_trans (trans_frz 1 _ _ _ rfl) ?_; simp only [snocO, mapA, frz, frz1, frzV, mapO, frzO, ifEq, setO, getO, getL, setL])
  ((repeat (with_reducible refine And.intro ?_ ?_; focus (simp; done))); refine aw_call (h) [] rfl (by simp [upM, nthN, matchO, rens, ren, ren1, ren1L, renL, renV, renO, rl, lenO, getO, Nat.blt, mtc, mtcS, mtcSL, mtc0, mtc0L, rdO]) rfl (by simp [upM, nthN, matchO, rens, ren, ren1, ren1L, renL, renV, renO, rl, lenO, getO, Nat.blt, mtc, mtcS, mtcSL, mtc0, mtc0L, rdO]) rfl (fun r hs hp hl => ?_); obtain ⟨rfl, rfl⟩ := hp; simp only [snocO, upM, nthN, putAll, snocAll, killsA, killOsA, grows, putL, rl, renV, renL, ren1, ren1L, ren, rens, renO, Nat.blt, lenO, getO, setO, setL, anys, rdO]; (refine eval_sound 2000 _ _ _ ?_; simp (maxSteps := 1000000) only [ptrL, lenV, Bool.not_true, Bool.not_false, lookR, valOf, asGrow, jump, findA, restA, and, Nat.reduceAdd, Nat.reduceSub, Nat.reduceMul, Int.reduceToNat, eval, nf, nfO, opN, appTo, rowsV, getL, setL, getO, setO, snocO, lenO, putL, ev, evs, ifEq, killV, killL, kill1, kill1L, kill, kills, killO, killOs, bin, binI, binS, binB, eq1, eqB, lit, sameK, kn, unI, mxA, mnA, mkAgg, fits, partN, partA, resN, retV, allVal, isVal, allCell, isCell, okVal, okCell, cellsOf, fillN, rowsN, cellsN, bnd, lohi, offAt, overL, segL, leave, NodeOK, List.cons_append, List.nil_append, List.append_nil, catA, anys, lenA]))
  refine ⟨by simp, by simp, fun _ => ?_, fun h => by simp at h⟩
  ((repeat (with_reducible refine And.intro ?_ ?_; focus (simp; done))); refine ⟨[], rfl, _, _, ?_, ?_, rfl, rfl⟩ <;> simp [Wk, mtc, mtcS, mtcSL, mtc0, mtc0L, mtcL, mtcO, mtcOs, cutM, takeE, stA, rl, renV, renL, ren1, ren1L, ren, rens, renO, Nat.blt, lenO, getO, setO, setL, anys, okS, endM, endH, idxN, takeE, pickE, catO, rl, renV, renL, ren1, ren1L, ren, rens, renO, Nat.blt, lenO, getO, setO, setL, anys, rdO])
def resJ (b : List Int) : AV := if prE b = 0 ∧ goodI (prM b) (prS b) = true then .tup [imA (prM b) (prS b) (prT b), .int .i64 0] else .tup [zeroI, .int .i64 10]
theorem txtR_len (l : List Int) (bad : Bool) : (txtR l bad).1.length ≤ l.length := by
  have h := numV_len l bad 2
  unfold txtR
  dsimp only
  unfold cutR
  split <;> split <;> simp <;> omega
theorem q_ok {b : List Int} (hb : ByteL b) (hl : b.length ≤ 3000) : ((q1 b).1 = ((prM b).l : Nat) ∧ (q2 b).1 = ((prM b).b : Nat) ∧ MkOK (prM b)) ∧ (prS b).size ≤ 3000 ∧ TOK (prT b) ∧ (prT b).length = 8 ∧ (prE b = 0 → headI (prM b) ++ numI (prS b).size 2 ++ nmI (prS b) ++ bytesI (prT b) = b) := by
  obtain ⟨⟨a1, a2⟩, a3, a4⟩ := numV_inv b false hb 8 (by omega)
  rw [show ((8 : Nat) : Int) = 8 from rfl, show numV b false 8 = q1 b from rfl] at *
  have g1 : (q1 b).2.1.length ≤ b.length := numV_len b false 8
  obtain ⟨⟨b1, b2⟩, b3, b4⟩ := numV_inv (q1 b).2.1 (q1 b).2.2 a3 8 (by omega)
  rw [show ((8 : Nat) : Int) = 8 from rfl, show numV (q1 b).2.1 (q1 b).2.2 8 = q2 b from rfl] at *
  have g2 : (q2 b).2.1.length ≤ (q1 b).2.1.length := numV_len _ _ 8
  obtain ⟨c1, c2, c3⟩ := txtR_inv (q2 b).2.1 (q2 b).2.2 b3 (by omega)
  rw [show txtR (q2 b).2.1 (q2 b).2.2 = q3 b from rfl] at *
  obtain ⟨d1, d2, d3⟩ := rdN_inv (q3 b).2.1 (q3 b).2.2 c2 8
  rw [show rdN ((q3 b).2.1, (q3 b).2.2) 8 = q4 b from rfl] at *
  have hsz : (prS b).size = (q3 b).1.length := strOf_size _
  have hnm : nmI (prS b) = (q3 b).1 := nmI_str _ c1
  have hm : (q1 b).1 = ((prM b).l : Nat) ∧ (q2 b).1 = ((prM b).b : Nat) := ⟨(Int.toNat_of_nonneg a1).symm, (Int.toNat_of_nonneg b1).symm⟩
  have hT : TOK (prT b) := by
    unfold prT rdT
    split
    · exact zT_ok 8
    · exact d2
  refine ⟨⟨hm.1, hm.2, by unfold MkOK; omega⟩, ?_, hT, rdT_len _, fun he => ?_⟩
  · rw [hsz]
    have : (q3 b).1.length ≤ (q2 b).2.1.length := txtR_len _ _
    omega
  · obtain ⟨e1, e2⟩ := (endR_0 _ _).1 he
    obtain ⟨f1, f2⟩ := d3 e1
    obtain ⟨f3, f4⟩ := c3 f1
    obtain ⟨f5, f6⟩ := b4 f3
    obtain ⟨f7, f8⟩ := a4 f5
    have hpT : prT b = (q4 b).1 := by
      unfold prT rdT
      rw [show rdN ((q3 b).2.1, (q3 b).2.2) 8 = q4 b from rfl, if_neg (by rw [e1]; decide)]
    rw [hnm, hsz, hpT]
    unfold headI
    rw [← hm.1, ← hm.2]
    have : bytesI (q4 b).1 = (q3 b).2.1 := by rw [f2, e2, List.append_nil]
    rw [this, List.append_assoc (numI (q1 b).1 8 ++ numI (q2 b).1 8), List.append_assoc (numI (q1 b).1 8), List.append_assoc (numI (q1 b).1 8), List.append_assoc (numI (q2 b).1 8)]
    rw [List.append_assoc] at f4
    rw [List.append_assoc, ← f4, ← f6, ← f8]
theorem readK_i (s : ByteArray) (hs : s.size ≤ 3000) (hd : sealed (nmI s) = true) : ACalls Try.prog 32 [.str s] [] (fun r hs => r = resJ (topI (nmI s)) ∧ hs = []) := by
  have h := openK_c (nmI s) (by rw [nmI_len]; omega) (nmI_byte s) hd
  have hbt : ByteL (topI (nmI s)) := fun x hx => nmI_byte s x (List.mem_of_mem_take hx)
  have hbl : (topI (nmI s)).length ≤ 3000 := by unfold topI; rw [List.length_take, nmI_len]; omega
  generalize topI (nmI s) = B at *
  obtain ⟨⟨k1, k2, k3⟩, k4, k5, k6, _⟩ := q_ok hbt hbl
  have hR := read_ B
  have hr1 := read1_c B false
  rw [show numV B false 8 = q1 B from rfl] at hr1
  have hr2 := read1_c (q1 B).2.1 (q1 B).2.2
  rw [show numV (q1 B).2.1 (q1 B).2.2 8 = q2 B from rfl] at hr2
  have hr3 := text_ (q2 B).2.1 (q2 B).2.2 (by have h1 : (q1 B).2.1.length ≤ B.length := numV_len B false 8; have h2 : (q2 B).2.1.length ≤ (q1 B).2.1.length := numV_len _ _ 8; omega)
  rw [show txtR (q2 B).2.1 (q2 B).2.2 = q3 B from rfl] at hr3
  have hr4 := dread (q3 B).2.1 (q3 B).2.2
  rw [show rdN ((q3 B).2.1, (q3 B).2.2) 8 = q4 B from rfl, show rdT ((q3 B).2.1, (q3 B).2.2) = prT B from rfl] at hr4
  have hr5 := end_ (q4 B).2.1 (q4 B).2.2
  rw [show endR (q4 B).2.1 (q4 B).2.2 = prE B from rfl] at hr5
  have hg := good_i (prM B) k3 (prS B) k4 (prT B) k6
  have hJ : resJ B = if prE B = 0 ∧ goodI (prM B) (prS B) = true then .tup [imA (prM B) (prS B) (prT B), .int .i64 0] else .tup [zeroI, .int .i64 10] := rfl
  rw [show strOf (u8s (q3 B).1) = prS B from rfl] at hr3
  rw [hJ]
  clear hJ
  rw [zeroI_eq]
  obtain ⟨a, b, c, d, e, f, g, i, hT⟩ := t8 k6
  rw [hT] at hr4 hg ⊢
  rw [k1] at hr1
  rw [k2] at hr2
  simp only [imA, imC, tabA, cellsT8] at hr4 hg ⊢
  generalize (prM B).l = x1 at *
  generalize (prM B).b = x2 at *
  generalize hX : prS B = X at *
  generalize prE B = E at *
  generalize goodI (prM B) X = G at *
  generalize (q1 B).2.1 = l1 at *
  generalize (q1 B).2.2 = b1 at *
  generalize (q2 B).2.1 = l2 at *
  generalize (q2 B).2.2 = b2 at *
  generalize (q3 B).2.1 = l3 at *
  generalize (q3 B).2.2 = b3 at *
  generalize (q4 B).2.1 = l4 at *
  generalize (q4 B).2.2 = b4 at *
  clear hX hT k1 k2 k3 k4 k5 k6
  refine acalls_weak (acalls_of (fn := Try.f32) (A := a32) Try.func32 ok_32 en_32 ?_)
  dsimp only [a32, rdO]
  (refine eval_sound 2000 _ _ _ ?_; simp (maxSteps := 1000000) only [ptrL, lenV, Bool.not_true, Bool.not_false, lookR, valOf, asGrow, jump, findA, restA, and, Nat.reduceAdd, Nat.reduceSub, Nat.reduceMul, Int.reduceToNat, eval, nf, nfO, opN, appTo, rowsV, getL, setL, getO, setO, snocO, lenO, putL, ev, evs, ifEq, killV, killL, kill1, kill1L, kill, kills, killO, killOs, bin, binI, binS, binB, eq1, eqB, lit, sameK, kn, unI, mxA, mnA, mkAgg, fits, partN, partA, resN, retV, allVal, isVal, allCell, isCell, okVal, okCell, cellsOf, fillN, rowsN, cellsN, bnd, lohi, offAt, overL, segL, leave, NodeOK, List.cons_append, List.nil_append, List.append_nil, catA, anys, lenA])
  rw [bytesOf_I]
  (refine acall_trans (trans_frz 1 _ _ _ rfl) ?_; simp only [snocO, mapA, frz, frz1, frzV, mapO, frzO, ifEq, setO, getO, getL, setL])
  ((repeat (with_reducible refine And.intro ?_ ?_; focus (simp; done))); refine aw_call (h) [] rfl (by simp [upM, nthN, matchO, rens, ren, ren1, ren1L, renL, renV, renO, rl, lenO, getO, Nat.blt, mtc, mtcS, mtcSL, mtc0, mtc0L, rdO]) rfl (by simp [upM, nthN, matchO, rens, ren, ren1, ren1L, renL, renV, renO, rl, lenO, getO, Nat.blt, mtc, mtcS, mtcSL, mtc0, mtc0L, rdO]) rfl (fun r hs hp hl => ?_); obtain ⟨rfl, rfl⟩ := hp; simp only [snocO, upM, nthN, putAll, snocAll, killsA, killOsA, grows, putL, rl, renV, renL, ren1, ren1L, ren, rens, renO, Nat.blt, lenO, getO, setO, setL, anys, rdO]; (refine eval_sound 2000 _ _ _ ?_; simp (maxSteps := 1000000) only [ptrL, lenV, Bool.not_true, Bool.not_false, lookR, valOf, asGrow, jump, findA, restA, and, Nat.reduceAdd, Nat.reduceSub, Nat.reduceMul, Int.reduceToNat, eval, nf, nfO, opN, appTo, rowsV, getL, setL, getO, setO, snocO, lenO, putL, ev, evs, ifEq, killV, killL, kill1, kill1L, kill, kills, killO, killOs, bin, binI, binS, binB, eq1, eqB, lit, sameK, kn, unI, mxA, mnA, mkAgg, fits, partN, partA, resN, retV, allVal, isVal, allCell, isCell, okVal, okCell, cellsOf, fillN, rowsN, cellsN, bnd, lohi, offAt, overL, segL, leave, NodeOK, List.cons_append, List.nil_append, List.append_nil, catA, anys, lenA]))
  refine ⟨by simp, by simp, fun h => by simp at h, fun _ => ?_⟩
  ((repeat (with_reducible refine And.intro ?_ ?_; focus (simp; done))); refine aw_call (hR) [] rfl (by simp [upM, nthN, matchO, rens, ren, ren1, ren1L, renL, renV, renO, rl, lenO, getO, Nat.blt, mtc, mtcS, mtcSL, mtc0, mtc0L, rdO]) rfl (by simp [upM, nthN, matchO, rens, ren, ren1, ren1L, renL, renV, renO, rl, lenO, getO, Nat.blt, mtc, mtcS, mtcSL, mtc0, mtc0L, rdO]) rfl (fun r hs hp hl => ?_); obtain ⟨rfl, rfl⟩ := hp; simp only [snocO, upM, nthN, putAll, snocAll, killsA, killOsA, grows, putL, rl, renV, renL, ren1, ren1L, ren, rens, renO, Nat.blt, lenO, getO, setO, setL, anys, rdO]; (refine eval_sound 2000 _ _ _ ?_; simp (maxSteps := 1000000) only [ptrL, lenV, Bool.not_true, Bool.not_false, lookR, valOf, asGrow, jump, findA, restA, and, Nat.reduceAdd, Nat.reduceSub, Nat.reduceMul, Int.reduceToNat, eval, nf, nfO, opN, appTo, rowsV, getL, setL, getO, setO, snocO, lenO, putL, ev, evs, ifEq, killV, killL, kill1, kill1L, kill, kills, killO, killOs, bin, binI, binS, binB, eq1, eqB, lit, sameK, kn, unI, mxA, mnA, mkAgg, fits, partN, partA, resN, retV, allVal, isVal, allCell, isCell, okVal, okCell, cellsOf, fillN, rowsN, cellsN, bnd, lohi, offAt, overL, segL, leave, NodeOK, List.cons_append, List.nil_append, List.append_nil, catA, anys, lenA]))
  (repeat (with_reducible refine And.intro ?_ ?_; focus (simp; done)))
  refine aw_dregA (show Try.prog.follows .mixedOrders = true by kernel_rfl) 5 [(1, ⟨.int .u64 x1, [(2, rdO l1 b1)], [], [3]⟩), (3, ⟨.int .u64 x2, [(2, rdO l2 b2)], [], [3]⟩), (6, ⟨.str X, [(2, rdO l3 b3)], [], []⟩), (8, ⟨.arr [.int .u64 a.1, .int .u16 a.2, .int .u64 b.1, .int .u16 b.2, .int .u64 c.1, .int .u16 c.2, .int .u64 d.1, .int .u16 d.2, .int .u64 e.1, .int .u16 e.2, .int .u64 f.1, .int .u16 f.2, .int .u64 g.1, .int .u16 g.2, .int .u64 i.1, .int .u16 i.2], [(2, rdO l4 b4)], [], []⟩), (9, ⟨.arr [.int .u64 x1, .int .u64 x2, .str X, .int .u64 a.1, .int .u16 a.2, .int .u64 b.1, .int .u16 b.2, .int .u64 c.1, .int .u16 c.2, .int .u64 d.1, .int .u16 d.2, .int .u64 e.1, .int .u16 e.2, .int .u64 f.1, .int .u16 f.2, .int .u64 g.1, .int .u16 g.2, .int .u64 i.1, .int .u16 i.2], [], [], []⟩), (10, ⟨.ptr 4 0, [], [(4, 5, .arr 57 [.int .u64 0, .int .u64 0, .str ⟨#[]⟩, .int .u64 0, .int .u16 0, .int .u64 0, .int .u16 0, .int .u64 0, .int .u16 0, .int .u64 0, .int .u16 0, .int .u64 0, .int .u16 0, .int .u64 0, .int .u16 0, .int .u64 0, .int .u16 0, .int .u64 0, .int .u16 0])], []⟩), (11, ⟨.any, [(4, .arr 57 [.int .u64 x1, .int .u64 x2, .str X, .int .u64 a.1, .int .u16 a.2, .int .u64 b.1, .int .u16 b.2, .int .u64 c.1, .int .u16 c.2, .int .u64 d.1, .int .u16 d.2, .int .u64 e.1, .int .u16 e.2, .int .u64 f.1, .int .u16 f.2, .int .u64 g.1, .int .u16 g.2, .int .u64 i.1, .int .u16 i.2])], [], []⟩)] ?_ ?_ ?_
  · kernel_rfl
  · (simp only [tkO, dpO, tkN, AllOps, OpOK, mkR, autoV, autoR, labV, lkD, vOf, preT, preO, setTs, preV, wrt, memN, usesO, usesT, opT, optT, opsT, ptsT, setHs, objF, updD, newO, lkO, lkF, keysO, keysF, visN, deads, getL, setL, getO, setO, lenO, lenA, anys, setDs, setWr, setFr, endO, catD, List.getD_cons_zero, List.getD_cons_succ, List.getElem?_cons_zero, List.getElem?_cons_succ, List.cons_append, List.nil_append, List.append_nil, Nat.reduceAdd, Nat.reduceSub, ptrL, lenV, Bool.not_true, Bool.not_false, lookR, valOf, asGrow, jump, findA, restA, and, Nat.reduceAdd, Nat.reduceSub, Nat.reduceMul, Int.reduceToNat, eval, nf, nfO, opN, appTo, rowsV, getL, setL, getO, setO, snocO, lenO, putL, ev, evs, ifEq, killV, killL, kill1, kill1L, kill, kills, killO, killOs, bin, binI, binS, binB, eq1, eqB, lit, sameK, kn, unI, mxA, mnA, mkAgg, fits, partN, partA, resN, retV, allVal, isVal, allCell, isCell, okVal, okCell, cellsOf, fillN, rowsN, cellsN, bnd, lohi, offAt, overL, segL, leave, NodeOK, List.cons_append, List.nil_append, List.append_nil, catA, anys, lenA]; and_intros) <;> (first | exact trivial | ((refine eval_sound 2000 _ _ _ ?_; simp (maxSteps := 1000000) only [ptrL, lenV, Bool.not_true, Bool.not_false, lookR, valOf, asGrow, jump, findA, restA, and, Nat.reduceAdd, Nat.reduceSub, Nat.reduceMul, Int.reduceToNat, eval, nf, nfO, opN, appTo, rowsV, getL, setL, getO, setO, snocO, lenO, putL, ev, evs, ifEq, killV, killL, kill1, kill1L, kill, kills, killO, killOs, bin, binI, binS, binB, eq1, eqB, lit, sameK, kn, unI, mxA, mnA, mkAgg, fits, partN, partA, resN, retV, allVal, isVal, allCell, isCell, okVal, okCell, cellsOf, fillN, rowsN, cellsN, bnd, lohi, offAt, overL, segL, leave, NodeOK, List.cons_append, List.nil_append, List.append_nil, catA, anys, lenA]); try simp only [JR, dstOK, wrOK, frOK, rdOK, getL, getO]; try simp only [JR, dstOK, wrOK, frOK, rdOK, sig, sigF, isGrowB, mtc, mtcS, mtcSL, mtc0, mtc0L, mtcO, mtcL, memN, Nat.blt, rl, renV, renL, ren1, ren1L, ren, rens, renO, Nat.blt, lenO, getO, setO, setL, anys]; try simp))
    · (refine aw_call (hr1) [3, 2] rfl (by simp [upM, nthN, matchO, rens, ren, ren1, ren1L, renL, renV, renO, rl, lenO, getO, Nat.blt, mtc, mtcS, mtcSL, mtc0, mtc0L, rdO]) rfl (by simp [upM, nthN, matchO, rens, ren, ren1, ren1L, renL, renV, renO, rl, lenO, getO, Nat.blt, mtc, mtcS, mtcSL, mtc0, mtc0L, rdO]) rfl (fun r hs hp hl => ?_); obtain ⟨rfl, rfl⟩ := hp; simp only [snocO, upM, nthN, putAll, snocAll, killsA, killOsA, grows, putL, rl, renV, renL, ren1, ren1L, ren, rens, renO, Nat.blt, lenO, getO, setO, setL, anys, rdO]; (refine eval_sound 2000 _ _ _ ?_; simp (maxSteps := 1000000) only [ptrL, lenV, Bool.not_true, Bool.not_false, lookR, valOf, asGrow, jump, findA, restA, and, Nat.reduceAdd, Nat.reduceSub, Nat.reduceMul, Int.reduceToNat, eval, nf, nfO, opN, appTo, rowsV, getL, setL, getO, setO, snocO, lenO, putL, ev, evs, ifEq, killV, killL, kill1, kill1L, kill, kills, killO, killOs, bin, binI, binS, binB, eq1, eqB, lit, sameK, kn, unI, mxA, mnA, mkAgg, fits, partN, partA, resN, retV, allVal, isVal, allCell, isCell, okVal, okCell, cellsOf, fillN, rowsN, cellsN, bnd, lohi, offAt, overL, segL, leave, NodeOK, List.cons_append, List.nil_append, List.append_nil, catA, anys, lenA]); (try simp only [JR, dstOK, wrOK, frOK, rdOK, getL, getO]); (try simp only [JR, dstOK, wrOK, frOK, rdOK, sig, sigF, isGrowB, mtc, mtcS, mtcSL, mtc0, mtc0L, mtcO, mtcL, memN, Nat.blt, rl, renV, renL, ren1, ren1L, ren, rens, renO, Nat.blt, lenO, getO, setO, setL, anys, rdO]); try simp)
    · (refine aw_call (hr2) [3, 2] rfl (by simp [upM, nthN, matchO, rens, ren, ren1, ren1L, renL, renV, renO, rl, lenO, getO, Nat.blt, mtc, mtcS, mtcSL, mtc0, mtc0L, rdO]) rfl (by simp [upM, nthN, matchO, rens, ren, ren1, ren1L, renL, renV, renO, rl, lenO, getO, Nat.blt, mtc, mtcS, mtcSL, mtc0, mtc0L, rdO]) rfl (fun r hs hp hl => ?_); obtain ⟨rfl, rfl⟩ := hp; simp only [snocO, upM, nthN, putAll, snocAll, killsA, killOsA, grows, putL, rl, renV, renL, ren1, ren1L, ren, rens, renO, Nat.blt, lenO, getO, setO, setL, anys, rdO]; (refine eval_sound 2000 _ _ _ ?_; simp (maxSteps := 1000000) only [ptrL, lenV, Bool.not_true, Bool.not_false, lookR, valOf, asGrow, jump, findA, restA, and, Nat.reduceAdd, Nat.reduceSub, Nat.reduceMul, Int.reduceToNat, eval, nf, nfO, opN, appTo, rowsV, getL, setL, getO, setO, snocO, lenO, putL, ev, evs, ifEq, killV, killL, kill1, kill1L, kill, kills, killO, killOs, bin, binI, binS, binB, eq1, eqB, lit, sameK, kn, unI, mxA, mnA, mkAgg, fits, partN, partA, resN, retV, allVal, isVal, allCell, isCell, okVal, okCell, cellsOf, fillN, rowsN, cellsN, bnd, lohi, offAt, overL, segL, leave, NodeOK, List.cons_append, List.nil_append, List.append_nil, catA, anys, lenA]); (try simp only [JR, dstOK, wrOK, frOK, rdOK, getL, getO]); (try simp only [JR, dstOK, wrOK, frOK, rdOK, sig, sigF, isGrowB, mtc, mtcS, mtcSL, mtc0, mtc0L, mtcO, mtcL, memN, Nat.blt, rl, renV, renL, ren1, ren1L, ren, rens, renO, Nat.blt, lenO, getO, setO, setL, anys, rdO]); try simp)
    · (refine aw_call (hr3) [2] rfl (by simp [upM, nthN, matchO, rens, ren, ren1, ren1L, renL, renV, renO, rl, lenO, getO, Nat.blt, mtc, mtcS, mtcSL, mtc0, mtc0L, rdO]) rfl (by simp [upM, nthN, matchO, rens, ren, ren1, ren1L, renL, renV, renO, rl, lenO, getO, Nat.blt, mtc, mtcS, mtcSL, mtc0, mtc0L, rdO]) rfl (fun r hs hp hl => ?_); obtain ⟨rfl, rfl⟩ := hp; simp only [snocO, upM, nthN, putAll, snocAll, killsA, killOsA, grows, putL, rl, renV, renL, ren1, ren1L, ren, rens, renO, Nat.blt, lenO, getO, setO, setL, anys, rdO]; (refine eval_sound 2000 _ _ _ ?_; simp (maxSteps := 1000000) only [ptrL, lenV, Bool.not_true, Bool.not_false, lookR, valOf, asGrow, jump, findA, restA, and, Nat.reduceAdd, Nat.reduceSub, Nat.reduceMul, Int.reduceToNat, eval, nf, nfO, opN, appTo, rowsV, getL, setL, getO, setO, snocO, lenO, putL, ev, evs, ifEq, killV, killL, kill1, kill1L, kill, kills, killO, killOs, bin, binI, binS, binB, eq1, eqB, lit, sameK, kn, unI, mxA, mnA, mkAgg, fits, partN, partA, resN, retV, allVal, isVal, allCell, isCell, okVal, okCell, cellsOf, fillN, rowsN, cellsN, bnd, lohi, offAt, overL, segL, leave, NodeOK, List.cons_append, List.nil_append, List.append_nil, catA, anys, lenA]); (try simp only [JR, dstOK, wrOK, frOK, rdOK, getL, getO]); (try simp only [JR, dstOK, wrOK, frOK, rdOK, sig, sigF, isGrowB, mtc, mtcS, mtcSL, mtc0, mtc0L, mtcO, mtcL, memN, Nat.blt, rl, renV, renL, ren1, ren1L, ren, rens, renO, Nat.blt, lenO, getO, setO, setL, anys, rdO]); try simp)
    · (refine aw_call (hr4) [2] rfl (by simp [upM, nthN, matchO, rens, ren, ren1, ren1L, renL, renV, renO, rl, lenO, getO, Nat.blt, mtc, mtcS, mtcSL, mtc0, mtc0L, rdO]) rfl (by simp [upM, nthN, matchO, rens, ren, ren1, ren1L, renL, renV, renO, rl, lenO, getO, Nat.blt, mtc, mtcS, mtcSL, mtc0, mtc0L, rdO]) rfl (fun r hs hp hl => ?_); obtain ⟨rfl, rfl⟩ := hp; simp only [snocO, upM, nthN, putAll, snocAll, killsA, killOsA, grows, putL, rl, renV, renL, ren1, ren1L, ren, rens, renO, Nat.blt, lenO, getO, setO, setL, anys, rdO]; (refine eval_sound 2000 _ _ _ ?_; simp (maxSteps := 1000000) only [ptrL, lenV, Bool.not_true, Bool.not_false, lookR, valOf, asGrow, jump, findA, restA, and, Nat.reduceAdd, Nat.reduceSub, Nat.reduceMul, Int.reduceToNat, eval, nf, nfO, opN, appTo, rowsV, getL, setL, getO, setO, snocO, lenO, putL, ev, evs, ifEq, killV, killL, kill1, kill1L, kill, kills, killO, killOs, bin, binI, binS, binB, eq1, eqB, lit, sameK, kn, unI, mxA, mnA, mkAgg, fits, partN, partA, resN, retV, allVal, isVal, allCell, isCell, okVal, okCell, cellsOf, fillN, rowsN, cellsN, bnd, lohi, offAt, overL, segL, leave, NodeOK, List.cons_append, List.nil_append, List.append_nil, catA, anys, lenA]); (try simp only [JR, dstOK, wrOK, frOK, rdOK, getL, getO]); (try simp only [JR, dstOK, wrOK, frOK, rdOK, sig, sigF, isGrowB, mtc, mtcS, mtcSL, mtc0, mtc0L, mtcO, mtcL, memN, Nat.blt, rl, renV, renL, ren1, ren1L, ren, rens, renO, Nat.blt, lenO, getO, setO, setL, anys, rdO]); try simp)
  · (simp only [tkO, dpO, tkN, AllOps, OpOK, mkR, autoV, autoR, labV, lkD, vOf, preT, preO, setTs, preV, wrt, memN, usesO, usesT, opT, optT, opsT, ptsT, setHs, objF, updD, newO, lkO, lkF, keysO, keysF, visN, deads, getL, setL, getO, setO, lenO, lenA, anys, setDs, setWr, setFr, endO, catD, List.getD_cons_zero, List.getD_cons_succ, List.getElem?_cons_zero, List.getElem?_cons_succ, List.cons_append, List.nil_append, List.append_nil, Nat.reduceAdd, Nat.reduceSub, ptrL, lenV, Bool.not_true, Bool.not_false, lookR, valOf, asGrow, jump, findA, restA, and, Nat.reduceAdd, Nat.reduceSub, Nat.reduceMul, Int.reduceToNat, eval, nf, nfO, opN, appTo, rowsV, getL, setL, getO, setO, snocO, lenO, putL, ev, evs, ifEq, killV, killL, kill1, kill1L, kill, kills, killO, killOs, bin, binI, binS, binB, eq1, eqB, lit, sameK, kn, unI, mxA, mnA, mkAgg, fits, partN, partA, resN, retV, allVal, isVal, allCell, isCell, okVal, okCell, cellsOf, fillN, rowsN, cellsN, bnd, lohi, offAt, overL, segL, leave, NodeOK, List.cons_append, List.nil_append, List.append_nil, catA, anys, lenA]; (refine eval_sound 2000 _ _ _ ?_; simp (maxSteps := 1000000) only [ptrL, lenV, Bool.not_true, Bool.not_false, lookR, valOf, asGrow, jump, findA, restA, and, Nat.reduceAdd, Nat.reduceSub, Nat.reduceMul, Int.reduceToNat, eval, nf, nfO, opN, appTo, rowsV, getL, setL, getO, setO, snocO, lenO, putL, ev, evs, ifEq, killV, killL, kill1, kill1L, kill, kills, killO, killOs, bin, binI, binS, binB, eq1, eqB, lit, sameK, kn, unI, mxA, mnA, mkAgg, fits, partN, partA, resN, retV, allVal, isVal, allCell, isCell, okVal, okCell, cellsOf, fillN, rowsN, cellsN, bnd, lohi, offAt, overL, segL, leave, NodeOK, List.cons_append, List.nil_append, List.append_nil, catA, anys, lenA]))
    ((repeat (with_reducible refine And.intro ?_ ?_; focus (simp; done))); refine aw_call (hr5) [2] rfl (by simp [upM, nthN, matchO, rens, ren, ren1, ren1L, renL, renV, renO, rl, lenO, getO, Nat.blt, mtc, mtcS, mtcSL, mtc0, mtc0L, rdO]) rfl (by simp [upM, nthN, matchO, rens, ren, ren1, ren1L, renL, renV, renO, rl, lenO, getO, Nat.blt, mtc, mtcS, mtcSL, mtc0, mtc0L, rdO]) rfl (fun r hs hp hl => ?_); obtain ⟨rfl, rfl⟩ := hp; simp only [snocO, upM, nthN, putAll, snocAll, killsA, killOsA, grows, putL, rl, renV, renL, ren1, ren1L, ren, rens, renO, Nat.blt, lenO, getO, setO, setL, anys, rdO]; (refine eval_sound 2000 _ _ _ ?_; simp (maxSteps := 1000000) only [ptrL, lenV, Bool.not_true, Bool.not_false, lookR, valOf, asGrow, jump, findA, restA, and, Nat.reduceAdd, Nat.reduceSub, Nat.reduceMul, Int.reduceToNat, eval, nf, nfO, opN, appTo, rowsV, getL, setL, getO, setO, snocO, lenO, putL, ev, evs, ifEq, killV, killL, kill1, kill1L, kill, kills, killO, killOs, bin, binI, binS, binB, eq1, eqB, lit, sameK, kn, unI, mxA, mnA, mkAgg, fits, partN, partA, resN, retV, allVal, isVal, allCell, isCell, okVal, okCell, cellsOf, fillN, rowsN, cellsN, bnd, lohi, offAt, overL, segL, leave, NodeOK, List.cons_append, List.nil_append, List.append_nil, catA, anys, lenA]))
    refine ⟨fun h => ?_, fun h => ?_⟩
    · rw [if_neg (by rintro ⟨e, _⟩; subst e; simp at h)]
      refine ⟨by simp, by simp, ?_⟩
      ((repeat (with_reducible refine And.intro ?_ ?_; focus (simp; done))); refine ⟨[], rfl, _, _, ?_, ?_, rfl, rfl⟩ <;> simp [Wk, mtc, mtcS, mtcSL, mtc0, mtc0L, mtcL, mtcO, mtcOs, cutM, takeE, stA, rl, renV, renL, ren1, ren1L, ren, rens, renO, Nat.blt, lenO, getO, setO, setL, anys, okS, endM, endH, idxN, takeE, pickE, catO, rl, renV, renL, ren1, ren1L, ren, rens, renO, Nat.blt, lenO, getO, setO, setL, anys, rdO])
    · have hE : E = 0 := by simpa using h
      subst hE
      (repeat (with_reducible refine And.intro ?_ ?_; focus (simp; done)))
      ((repeat (with_reducible refine And.intro ?_ ?_; focus (simp; done))); refine aw_call (hg) [] rfl (by simp [upM, nthN, matchO, rens, ren, ren1, ren1L, renL, renV, renO, rl, lenO, getO, Nat.blt, mtc, mtcS, mtcSL, mtc0, mtc0L, rdO]) rfl (by simp [upM, nthN, matchO, rens, ren, ren1, ren1L, renL, renV, renO, rl, lenO, getO, Nat.blt, mtc, mtcS, mtcSL, mtc0, mtc0L, rdO]) rfl (fun r hs hp hl => ?_); obtain ⟨rfl, rfl⟩ := hp; simp only [snocO, upM, nthN, putAll, snocAll, killsA, killOsA, grows, putL, rl, renV, renL, ren1, ren1L, ren, rens, renO, Nat.blt, lenO, getO, setO, setL, anys, rdO]; (refine eval_sound 2000 _ _ _ ?_; simp (maxSteps := 1000000) only [ptrL, lenV, Bool.not_true, Bool.not_false, lookR, valOf, asGrow, jump, findA, restA, and, Nat.reduceAdd, Nat.reduceSub, Nat.reduceMul, Int.reduceToNat, eval, nf, nfO, opN, appTo, rowsV, getL, setL, getO, setO, snocO, lenO, putL, ev, evs, ifEq, killV, killL, kill1, kill1L, kill, kills, killO, killOs, bin, binI, binS, binB, eq1, eqB, lit, sameK, kn, unI, mxA, mnA, mkAgg, fits, partN, partA, resN, retV, allVal, isVal, allCell, isCell, okVal, okCell, cellsOf, fillN, rowsN, cellsN, bnd, lohi, offAt, overL, segL, leave, NodeOK, List.cons_append, List.nil_append, List.append_nil, catA, anys, lenA]))
      refine ⟨fun h => ?_, fun h => ?_⟩
      · rw [if_neg (by rintro ⟨_, e⟩; rw [e] at h; simp at h)]
        refine ⟨by simp, by simp, ?_⟩
        ((repeat (with_reducible refine And.intro ?_ ?_; focus (simp; done))); refine ⟨[], rfl, _, _, ?_, ?_, rfl, rfl⟩ <;> simp [Wk, mtc, mtcS, mtcSL, mtc0, mtc0L, mtcL, mtcO, mtcOs, cutM, takeE, stA, rl, renV, renL, ren1, ren1L, ren, rens, renO, Nat.blt, lenO, getO, setO, setL, anys, okS, endM, endH, idxN, takeE, pickE, catO, rl, renV, renL, ren1, ren1L, ren, rens, renO, Nat.blt, lenO, getO, setO, setL, anys, rdO])
      · rw [if_pos ⟨by trivial, by simpa using h⟩]
        (repeat (with_reducible refine And.intro ?_ ?_; focus (simp; done)))
        ((repeat (with_reducible refine And.intro ?_ ?_; focus (simp; done))); refine ⟨[], rfl, _, _, ?_, ?_, rfl, rfl⟩ <;> simp [Wk, mtc, mtcS, mtcSL, mtc0, mtc0L, mtcL, mtcO, mtcOs, cutM, takeE, stA, rl, renV, renL, ren1, ren1L, ren, rens, renO, Nat.blt, lenO, getO, setO, setL, anys, okS, endM, endH, idxN, takeE, pickE, catO, rl, renV, renL, ren1, ren1L, ren, rens, renO, Nat.blt, lenO, getO, setO, setL, anys, rdO])
theorem rrN (b : List Int) (hb : ByteL b) (l : List Int) (bad : Bool) (k : Int) (h : Rl b l bad k) : ∀ j, (rdN (l, bad) j).1 = (rfN b (k, bad) j).1 ∧ (rdN (l, bad) j).2.2 = (rfN b (k, bad) j).2.2 ∧ Rl b (rdN (l, bad) j).2.1 (rdN (l, bad) j).2.2 (rfN b (k, bad) j).2.1
  | 0 => ⟨rfl, rfl, h⟩
  | j + 1 => by
    obtain ⟨h1, h2, h3⟩ := rrN b hb l bad k h j
    obtain ⟨g1, g2, g3⟩ := rl_num 8 hb h3
    rw [show (numF b (rfN b (k, bad) j).2.1 (rdN (l, bad) j).2.2 8) = numF b (rfN b (k, bad) j).2.1 (rfN b (k, bad) j).2.2 8 by rw [h2]] at g1 g2 g3
    obtain ⟨e1, e2, e3⟩ := rl_num 2 hb g3
    rw [g2] at e1 e2 e3
    simp only [rdN, rfN, rd2, rf2, g2]
    refine ⟨by rw [h1, g1, e1], e2, e3⟩
theorem rfnumR (b : List Int) (hb : ByteL b) (hbl : b.length ≤ 20000) (l : List Int) (bad : Bool) (k : Int) (h : Rl b l bad k) : ACalls Try.prog 71 [.ptr 0 0, .int .i64 8] [refO b k bad] (fun r hs => ∃ k', Rl b (numV l bad 8).2.1 (numV l bad 8).2.2 k' ∧ r = .int .u64 (numV l bad 8).1 ∧ hs = [refO b k' (numV l bad 8).2.2]) := by
  obtain ⟨g1, g2, g3⟩ := rl_num 8 hb h
  refine (rfnum b k bad 8 h.1 h.2.1 hbl).mono fun r hs q => ?_
  obtain ⟨rfl, rfl⟩ := q
  exact ⟨_, g3, by rw [g1], by rw [g2]⟩
theorem rftextR (b : List Int) (hb : ByteL b) (hbl : b.length ≤ 20000) (l : List Int) (bad : Bool) (k : Int) (h : Rl b l bad k) : ACalls Try.prog 72 [.ptr 0 0] [refO b k bad] (fun r hs => ∃ k', Rl b (txtR l bad).2.1 (txtR l bad).2.2 k' ∧ r = .str (strOf (u8s (txtR l bad).1)) ∧ hs = [refO b k' (txtR l bad).2.2]) := by
  obtain ⟨g1, g2, g3⟩ := rl_text hb h
  refine (rftext b k bad h.1 h.2.1 hbl).mono fun r hs q => ?_
  obtain ⟨rfl, rfl⟩ := q
  exact ⟨_, g3, by rw [g1], by rw [g2]⟩
theorem rreadR (b : List Int) (hb : ByteL b) (hbl : b.length ≤ 20000) (l : List Int) (bad : Bool) (k : Int) (h : Rl b l bad k) : ACalls Try.prog 73 [.ptr 0 0] [refO b k bad] (fun r hs => ∃ k', Rl b (rdN (l, bad) 8).2.1 (rdN (l, bad) 8).2.2 k' ∧ r = tabA (rdT (l, bad)) ∧ hs = [refO b k' (rdN (l, bad) 8).2.2]) := by
  obtain ⟨g1, g2, g3⟩ := rrN b hb l bad k h 8
  have e : rdT (l, bad) = rfT b (k, bad) := by unfold rdT rfT; rw [g1, g2]
  refine (rread b k bad h.1 h.2.1 hbl).mono fun r hs q => ?_
  obtain ⟨rfl, rfl⟩ := q
  exact ⟨_, g3, by rw [e], by rw [g2]⟩
theorem rfendR (b : List Int) (hb : ByteL b) (hbl : b.length ≤ 20000) (l : List Int) (bad : Bool) (k : Int) (h : Rl b l bad k) : ACalls Try.prog 74 [.ptr 0 0] [refO b k bad] (fun r hs => r = .int .i64 (endR l bad) ∧ hs = [refO b k bad]) := by
  refine (rfend b k bad h.1 h.2.1 hbl).mono fun r hs q => ?_
  obtain ⟨rfl, rfl⟩ := q
  exact ⟨by rw [rl_end h], rfl⟩
theorem rreadS_i (s : ByteArray) (hs : s.size < 4) : ACalls Try.prog 33 [.str s] [] (fun r hs => r = .tup [zeroI, .int .i64 10] ∧ hs = []) := by
  have h := ropenS_c (nmI s) (by rw [nmI_len]; omega)
  rw [zeroI_eq]
  refine acalls_weak (acalls_of (fn := Try.f33) (A := a33) Try.func33 ok_33 en_33 ?_)
  dsimp only [a33, rdO]
  (refine eval_sound 2000 _ _ _ ?_; simp (maxSteps := 1000000) only [ptrL, lenV, Bool.not_true, Bool.not_false, lookR, valOf, asGrow, jump, findA, restA, and, Nat.reduceAdd, Nat.reduceSub, Nat.reduceMul, Int.reduceToNat, eval, nf, nfO, opN, appTo, rowsV, getL, setL, getO, setO, snocO, lenO, putL, ev, evs, ifEq, killV, killL, kill1, kill1L, kill, kills, killO, killOs, bin, binI, binS, binB, eq1, eqB, lit, sameK, kn, unI, mxA, mnA, mkAgg, fits, partN, partA, resN, retV, allVal, isVal, allCell, isCell, okVal, okCell, cellsOf, fillN, rowsN, cellsN, bnd, lohi, offAt, overL, segL, leave, NodeOK, List.cons_append, List.nil_append, List.append_nil, catA, anys, lenA])
  rw [bytesOf_I]
  (refine acall_trans (trans_frz 1 _ _ _ rfl) ?_; simp only [snocO, mapA, frz, frz1, frzV, mapO, frzO, ifEq, setO, getO, getL, setL])
  ((repeat (with_reducible refine And.intro ?_ ?_; focus (simp; done))); refine aw_call (h) [] rfl (by simp [upM, nthN, matchO, rens, ren, ren1, ren1L, renL, renV, renO, rl, lenO, getO, Nat.blt, mtc, mtcS, mtcSL, mtc0, mtc0L, rdO]) rfl (by simp [upM, nthN, matchO, rens, ren, ren1, ren1L, renL, renV, renO, rl, lenO, getO, Nat.blt, mtc, mtcS, mtcSL, mtc0, mtc0L, rdO]) rfl (fun r hs hp hl => ?_); obtain ⟨rfl, rfl⟩ := hp; simp only [snocO, upM, nthN, putAll, snocAll, killsA, killOsA, grows, putL, rl, renV, renL, ren1, ren1L, ren, rens, renO, Nat.blt, lenO, getO, setO, setL, anys, rdO]; (refine eval_sound 2000 _ _ _ ?_; simp (maxSteps := 1000000) only [ptrL, lenV, Bool.not_true, Bool.not_false, lookR, valOf, asGrow, jump, findA, restA, and, Nat.reduceAdd, Nat.reduceSub, Nat.reduceMul, Int.reduceToNat, eval, nf, nfO, opN, appTo, rowsV, getL, setL, getO, setO, snocO, lenO, putL, ev, evs, ifEq, killV, killL, kill1, kill1L, kill, kills, killO, killOs, bin, binI, binS, binB, eq1, eqB, lit, sameK, kn, unI, mxA, mnA, mkAgg, fits, partN, partA, resN, retV, allVal, isVal, allCell, isCell, okVal, okCell, cellsOf, fillN, rowsN, cellsN, bnd, lohi, offAt, overL, segL, leave, NodeOK, List.cons_append, List.nil_append, List.append_nil, catA, anys, lenA]))
  refine ⟨by simp, by simp, fun _ => ?_, fun h => by simp at h⟩
  ((repeat (with_reducible refine And.intro ?_ ?_; focus (simp; done))); refine ⟨[], rfl, _, _, ?_, ?_, rfl, rfl⟩ <;> simp [Wk, mtc, mtcS, mtcSL, mtc0, mtc0L, mtcL, mtcO, mtcOs, cutM, takeE, stA, rl, renV, renL, ren1, ren1L, ren, rens, renO, Nat.blt, lenO, getO, setO, setL, anys, okS, endM, endH, idxN, takeE, pickE, catO, rl, renV, renL, ren1, ren1L, ren, rens, renO, Nat.blt, lenO, getO, setO, setL, anys, rdO])
theorem rreadB_i (s : ByteArray) (hs : 4 ≤ s.size ∧ s.size ≤ 3000) (hd : sealed (nmI s) = false) : ACalls Try.prog 33 [.str s] [] (fun r hs => r = .tup [zeroI, .int .i64 12] ∧ hs = []) := by
  have h := ropenB_c (nmI s) (by rw [nmI_len]; omega) (nmI_byte s) (by rw [nmI_len]; omega) hd
  rw [zeroI_eq]
  refine acalls_weak (acalls_of (fn := Try.f33) (A := a33) Try.func33 ok_33 en_33 ?_)
  dsimp only [a33, rdO]
  (refine eval_sound 2000 _ _ _ ?_; simp (maxSteps := 1000000) only [ptrL, lenV, Bool.not_true, Bool.not_false, lookR, valOf, asGrow, jump, findA, restA, and, Nat.reduceAdd, Nat.reduceSub, Nat.reduceMul, Int.reduceToNat, eval, nf, nfO, opN, appTo, rowsV, getL, setL, getO, setO, snocO, lenO, putL, ev, evs, ifEq, killV, killL, kill1, kill1L, kill, kills, killO, killOs, bin, binI, binS, binB, eq1, eqB, lit, sameK, kn, unI, mxA, mnA, mkAgg, fits, partN, partA, resN, retV, allVal, isVal, allCell, isCell, okVal, okCell, cellsOf, fillN, rowsN, cellsN, bnd, lohi, offAt, overL, segL, leave, NodeOK, List.cons_append, List.nil_append, List.append_nil, catA, anys, lenA])
  rw [bytesOf_I]
  (refine acall_trans (trans_frz 1 _ _ _ rfl) ?_; simp only [snocO, mapA, frz, frz1, frzV, mapO, frzO, ifEq, setO, getO, getL, setL])
  ((repeat (with_reducible refine And.intro ?_ ?_; focus (simp; done))); refine aw_call (h) [] rfl (by simp [upM, nthN, matchO, rens, ren, ren1, ren1L, renL, renV, renO, rl, lenO, getO, Nat.blt, mtc, mtcS, mtcSL, mtc0, mtc0L, rdO]) rfl (by simp [upM, nthN, matchO, rens, ren, ren1, ren1L, renL, renV, renO, rl, lenO, getO, Nat.blt, mtc, mtcS, mtcSL, mtc0, mtc0L, rdO]) rfl (fun r hs hp hl => ?_); obtain ⟨rfl, rfl⟩ := hp; simp only [snocO, upM, nthN, putAll, snocAll, killsA, killOsA, grows, putL, rl, renV, renL, ren1, ren1L, ren, rens, renO, Nat.blt, lenO, getO, setO, setL, anys, rdO]; (refine eval_sound 2000 _ _ _ ?_; simp (maxSteps := 1000000) only [ptrL, lenV, Bool.not_true, Bool.not_false, lookR, valOf, asGrow, jump, findA, restA, and, Nat.reduceAdd, Nat.reduceSub, Nat.reduceMul, Int.reduceToNat, eval, nf, nfO, opN, appTo, rowsV, getL, setL, getO, setO, snocO, lenO, putL, ev, evs, ifEq, killV, killL, kill1, kill1L, kill, kills, killO, killOs, bin, binI, binS, binB, eq1, eqB, lit, sameK, kn, unI, mxA, mnA, mkAgg, fits, partN, partA, resN, retV, allVal, isVal, allCell, isCell, okVal, okCell, cellsOf, fillN, rowsN, cellsN, bnd, lohi, offAt, overL, segL, leave, NodeOK, List.cons_append, List.nil_append, List.append_nil, catA, anys, lenA]))
  refine ⟨by simp, by simp, fun _ => ?_, fun h => by simp at h⟩
  ((repeat (with_reducible refine And.intro ?_ ?_; focus (simp; done))); refine ⟨[], rfl, _, _, ?_, ?_, rfl, rfl⟩ <;> simp [Wk, mtc, mtcS, mtcSL, mtc0, mtc0L, mtcL, mtcO, mtcOs, cutM, takeE, stA, rl, renV, renL, ren1, ren1L, ren, rens, renO, Nat.blt, lenO, getO, setO, setL, anys, okS, endM, endH, idxN, takeE, pickE, catO, rl, renV, renL, ren1, ren1L, ren, rens, renO, Nat.blt, lenO, getO, setO, setL, anys, rdO])
theorem rreadK_i (s : ByteArray) (hs : s.size ≤ 3000) (hd : sealed (nmI s) = true) : ACalls Try.prog 33 [.str s] [] (fun r hs => r = resJ (topI (nmI s)) ∧ hs = []) := by
  have h := ropenK_c (nmI s) (by rw [nmI_len]; omega) (nmI_byte s) hd
  have hbt : ByteL (topI (nmI s)) := fun x hx => nmI_byte s x (List.mem_of_mem_take hx)
  have hbl : (topI (nmI s)).length ≤ 3000 := by unfold topI; rw [List.length_take, nmI_len]; omega
  generalize topI (nmI s) = B at *
  obtain ⟨⟨k1, k2, k3⟩, k4, k5, k6, _⟩ := q_ok hbt hbl
  have hl0 : B.length ≤ 20000 := by omega
  have hr1 := fun k h => rfnumR B hbt hl0 B false k h
  rw [show numV B false 8 = q1 B from rfl] at hr1
  have hr2 := fun k h => rfnumR B hbt hl0 (q1 B).2.1 (q1 B).2.2 k h
  rw [show numV (q1 B).2.1 (q1 B).2.2 8 = q2 B from rfl] at hr2
  have hr3 := fun k h => rftextR B hbt hl0 (q2 B).2.1 (q2 B).2.2 k h
  rw [show txtR (q2 B).2.1 (q2 B).2.2 = q3 B from rfl] at hr3
  have hr4 := fun k h => rreadR B hbt hl0 (q3 B).2.1 (q3 B).2.2 k h
  rw [show rdN ((q3 B).2.1, (q3 B).2.2) 8 = q4 B from rfl, show rdT ((q3 B).2.1, (q3 B).2.2) = prT B from rfl] at hr4
  have hr5 := fun k h => rfendR B hbt hl0 (q4 B).2.1 (q4 B).2.2 k h
  rw [show endR (q4 B).2.1 (q4 B).2.2 = prE B from rfl] at hr5
  have hg := rgood_i (prM B) k3 (prS B) k4 (prT B) k6
  have hJ : resJ B = if prE B = 0 ∧ goodI (prM B) (prS B) = true then .tup [imA (prM B) (prS B) (prT B), .int .i64 0] else .tup [zeroI, .int .i64 10] := rfl
  rw [show strOf (u8s (q3 B).1) = prS B from rfl] at hr3
  rw [hJ]
  clear hJ
  rw [zeroI_eq]
  obtain ⟨a, b, c, d, e, f, g, i, hT⟩ := t8 k6
  rw [hT] at hr4 hg ⊢
  rw [k1] at hr1
  rw [k2] at hr2
  have hr0 : Rl B B false 0 := ⟨by omega, by omega, rfl⟩
  simp only [imA, imC, tabA, cellsT8] at hr4 hg ⊢
  generalize (prM B).l = x1 at *
  generalize (prM B).b = x2 at *
  generalize hX : prS B = X at *
  generalize prE B = E at *
  generalize goodI (prM B) X = G at *
  generalize (q1 B).2.1 = l1 at *
  generalize (q1 B).2.2 = b1 at *
  generalize (q2 B).2.1 = l2 at *
  generalize (q2 B).2.2 = b2 at *
  generalize (q3 B).2.1 = l3 at *
  generalize (q3 B).2.2 = b3 at *
  generalize (q4 B).2.1 = l4 at *
  generalize (q4 B).2.2 = b4 at *
  clear hX hT k1 k2 k3 k4 k5 k6
  refine acalls_weak (acalls_of (fn := Try.f33) (A := a33) Try.func33 ok_33 en_33 ?_)
  dsimp only [a33, rdO]
  (refine eval_sound 2000 _ _ _ ?_; simp (maxSteps := 1000000) only [ptrL, lenV, Bool.not_true, Bool.not_false, lookR, valOf, asGrow, jump, findA, restA, and, Nat.reduceAdd, Nat.reduceSub, Nat.reduceMul, Int.reduceToNat, eval, nf, nfO, opN, appTo, rowsV, getL, setL, getO, setO, snocO, lenO, putL, ev, evs, ifEq, killV, killL, kill1, kill1L, kill, kills, killO, killOs, bin, binI, binS, binB, eq1, eqB, lit, sameK, kn, unI, mxA, mnA, mkAgg, fits, partN, partA, resN, retV, allVal, isVal, allCell, isCell, okVal, okCell, cellsOf, fillN, rowsN, cellsN, bnd, lohi, offAt, overL, segL, leave, NodeOK, List.cons_append, List.nil_append, List.append_nil, catA, anys, lenA])
  rw [bytesOf_I]
  (refine acall_trans (trans_frz 1 _ _ _ rfl) ?_; simp only [snocO, mapA, frz, frz1, frzV, mapO, frzO, ifEq, setO, getO, getL, setL])
  ((repeat (with_reducible refine And.intro ?_ ?_; focus (simp; done))); refine aw_call (h) [] rfl (by simp [upM, nthN, matchO, rens, ren, ren1, ren1L, renL, renV, renO, rl, lenO, getO, Nat.blt, mtc, mtcS, mtcSL, mtc0, mtc0L, rdO]) rfl (by simp [upM, nthN, matchO, rens, ren, ren1, ren1L, renL, renV, renO, rl, lenO, getO, Nat.blt, mtc, mtcS, mtcSL, mtc0, mtc0L, rdO]) rfl (fun r hs hp hl => ?_); obtain ⟨rfl, rfl⟩ := hp; simp only [snocO, upM, nthN, putAll, snocAll, killsA, killOsA, grows, putL, rl, renV, renL, ren1, ren1L, ren, rens, renO, Nat.blt, lenO, getO, setO, setL, anys, rdO]; (refine eval_sound 2000 _ _ _ ?_; simp (maxSteps := 1000000) only [ptrL, lenV, Bool.not_true, Bool.not_false, lookR, valOf, asGrow, jump, findA, restA, and, Nat.reduceAdd, Nat.reduceSub, Nat.reduceMul, Int.reduceToNat, eval, nf, nfO, opN, appTo, rowsV, getL, setL, getO, setO, snocO, lenO, putL, ev, evs, ifEq, killV, killL, kill1, kill1L, kill, kills, killO, killOs, bin, binI, binS, binB, eq1, eqB, lit, sameK, kn, unI, mxA, mnA, mkAgg, fits, partN, partA, resN, retV, allVal, isVal, allCell, isCell, okVal, okCell, cellsOf, fillN, rowsN, cellsN, bnd, lohi, offAt, overL, segL, leave, NodeOK, List.cons_append, List.nil_append, List.append_nil, catA, anys, lenA]))
  refine ⟨by simp, by simp, fun h => by simp at h, fun _ => ?_⟩
  refine acall_obj [.arr 64 [.int .u64 0, .int .u64 0, .str ⟨#[]⟩, .int .u64 0, .int .u16 0, .int .u64 0, .int .u16 0, .int .u64 0, .int .u16 0, .int .u64 0, .int .u16 0, .int .u64 0, .int .u16 0, .int .u64 0, .int .u16 0, .int .u64 0, .int .u16 0, .int .u64 0, .int .u16 0], .dead, refO B 0 false, .arr 64 [.int .u64 0, .int .u64 0, .str ⟨#[]⟩, .int .u64 0, .int .u16 0, .int .u64 0, .int .u16 0, .int .u64 0, .int .u16 0, .int .u64 0, .int .u16 0, .int .u64 0, .int .u16 0, .int .u64 0, .int .u16 0, .int .u64 0, .int .u16 0, .int .u64 0, .int .u16 0]] (by simp [mtcOs, mtcO, mtcL, mtc, mtc0, refO]) ?_
  ((repeat (with_reducible refine And.intro ?_ ?_; focus (simp; done))); refine aw_call (hr1 0 hr0) [2] rfl (by simp [upM, nthN, matchO, rens, ren, ren1, ren1L, renL, renV, renO, rl, lenO, getO, Nat.blt, mtc, mtcS, mtcSL, mtc0, mtc0L, refO]) rfl (by simp [upM, nthN, matchO, rens, ren, ren1, ren1L, renL, renV, renO, rl, lenO, getO, Nat.blt, mtc, mtcS, mtcSL, mtc0, mtc0L, refO]) rfl (fun r hs hp hl => ?_); obtain ⟨n1, hn1, rfl, rfl⟩ := hp; simp only [snocO, upM, nthN, putAll, snocAll, killsA, killOsA, grows, putL, rl, renV, renL, ren1, ren1L, ren, rens, renO, Nat.blt, lenO, getO, setO, setL, anys, refO]; (refine eval_sound 2000 _ _ _ ?_; simp (maxSteps := 1000000) only [ptrL, lenV, Bool.not_true, Bool.not_false, lookR, valOf, asGrow, jump, findA, restA, and, Nat.reduceAdd, Nat.reduceSub, Nat.reduceMul, Int.reduceToNat, eval, nf, nfO, opN, appTo, rowsV, getL, setL, getO, setO, snocO, lenO, putL, ev, evs, ifEq, killV, killL, kill1, kill1L, kill, kills, killO, killOs, bin, binI, binS, binB, eq1, eqB, lit, sameK, kn, unI, mxA, mnA, mkAgg, fits, partN, partA, resN, retV, allVal, isVal, allCell, isCell, okVal, okCell, cellsOf, fillN, rowsN, cellsN, bnd, lohi, offAt, overL, segL, leave, NodeOK, List.cons_append, List.nil_append, List.append_nil, catA, anys, lenA]))
  ((repeat (with_reducible refine And.intro ?_ ?_; focus (simp; done))); refine aw_call (hr2 n1 hn1) [2] rfl (by simp [upM, nthN, matchO, rens, ren, ren1, ren1L, renL, renV, renO, rl, lenO, getO, Nat.blt, mtc, mtcS, mtcSL, mtc0, mtc0L, refO]) rfl (by simp [upM, nthN, matchO, rens, ren, ren1, ren1L, renL, renV, renO, rl, lenO, getO, Nat.blt, mtc, mtcS, mtcSL, mtc0, mtc0L, refO]) rfl (fun r hs hp hl => ?_); obtain ⟨n2, hn2, rfl, rfl⟩ := hp; simp only [snocO, upM, nthN, putAll, snocAll, killsA, killOsA, grows, putL, rl, renV, renL, ren1, ren1L, ren, rens, renO, Nat.blt, lenO, getO, setO, setL, anys, refO]; (refine eval_sound 2000 _ _ _ ?_; simp (maxSteps := 1000000) only [ptrL, lenV, Bool.not_true, Bool.not_false, lookR, valOf, asGrow, jump, findA, restA, and, Nat.reduceAdd, Nat.reduceSub, Nat.reduceMul, Int.reduceToNat, eval, nf, nfO, opN, appTo, rowsV, getL, setL, getO, setO, snocO, lenO, putL, ev, evs, ifEq, killV, killL, kill1, kill1L, kill, kills, killO, killOs, bin, binI, binS, binB, eq1, eqB, lit, sameK, kn, unI, mxA, mnA, mkAgg, fits, partN, partA, resN, retV, allVal, isVal, allCell, isCell, okVal, okCell, cellsOf, fillN, rowsN, cellsN, bnd, lohi, offAt, overL, segL, leave, NodeOK, List.cons_append, List.nil_append, List.append_nil, catA, anys, lenA]))
  ((repeat (with_reducible refine And.intro ?_ ?_; focus (simp; done))); refine aw_call (hr3 n2 hn2) [2] rfl (by simp [upM, nthN, matchO, rens, ren, ren1, ren1L, renL, renV, renO, rl, lenO, getO, Nat.blt, mtc, mtcS, mtcSL, mtc0, mtc0L, refO]) rfl (by simp [upM, nthN, matchO, rens, ren, ren1, ren1L, renL, renV, renO, rl, lenO, getO, Nat.blt, mtc, mtcS, mtcSL, mtc0, mtc0L, refO]) rfl (fun r hs hp hl => ?_); obtain ⟨n3, hn3, rfl, rfl⟩ := hp; simp only [snocO, upM, nthN, putAll, snocAll, killsA, killOsA, grows, putL, rl, renV, renL, ren1, ren1L, ren, rens, renO, Nat.blt, lenO, getO, setO, setL, anys, refO]; (refine eval_sound 2000 _ _ _ ?_; simp (maxSteps := 1000000) only [ptrL, lenV, Bool.not_true, Bool.not_false, lookR, valOf, asGrow, jump, findA, restA, and, Nat.reduceAdd, Nat.reduceSub, Nat.reduceMul, Int.reduceToNat, eval, nf, nfO, opN, appTo, rowsV, getL, setL, getO, setO, snocO, lenO, putL, ev, evs, ifEq, killV, killL, kill1, kill1L, kill, kills, killO, killOs, bin, binI, binS, binB, eq1, eqB, lit, sameK, kn, unI, mxA, mnA, mkAgg, fits, partN, partA, resN, retV, allVal, isVal, allCell, isCell, okVal, okCell, cellsOf, fillN, rowsN, cellsN, bnd, lohi, offAt, overL, segL, leave, NodeOK, List.cons_append, List.nil_append, List.append_nil, catA, anys, lenA]))
  ((repeat (with_reducible refine And.intro ?_ ?_; focus (simp; done))); refine aw_call (hr4 n3 hn3) [2] rfl (by simp [upM, nthN, matchO, rens, ren, ren1, ren1L, renL, renV, renO, rl, lenO, getO, Nat.blt, mtc, mtcS, mtcSL, mtc0, mtc0L, refO]) rfl (by simp [upM, nthN, matchO, rens, ren, ren1, ren1L, renL, renV, renO, rl, lenO, getO, Nat.blt, mtc, mtcS, mtcSL, mtc0, mtc0L, refO]) rfl (fun r hs hp hl => ?_); obtain ⟨n4, hn4, rfl, rfl⟩ := hp; simp only [snocO, upM, nthN, putAll, snocAll, killsA, killOsA, grows, putL, rl, renV, renL, ren1, ren1L, ren, rens, renO, Nat.blt, lenO, getO, setO, setL, anys, refO]; (refine eval_sound 2000 _ _ _ ?_; simp (maxSteps := 1000000) only [ptrL, lenV, Bool.not_true, Bool.not_false, lookR, valOf, asGrow, jump, findA, restA, and, Nat.reduceAdd, Nat.reduceSub, Nat.reduceMul, Int.reduceToNat, eval, nf, nfO, opN, appTo, rowsV, getL, setL, getO, setO, snocO, lenO, putL, ev, evs, ifEq, killV, killL, kill1, kill1L, kill, kills, killO, killOs, bin, binI, binS, binB, eq1, eqB, lit, sameK, kn, unI, mxA, mnA, mkAgg, fits, partN, partA, resN, retV, allVal, isVal, allCell, isCell, okVal, okCell, cellsOf, fillN, rowsN, cellsN, bnd, lohi, offAt, overL, segL, leave, NodeOK, List.cons_append, List.nil_append, List.append_nil, catA, anys, lenA]))
  (repeat (with_reducible refine And.intro ?_ ?_; focus (simp; done)))
  ((repeat (with_reducible refine And.intro ?_ ?_; focus (simp; done))); refine aw_call (hr5 n4 hn4) [2] rfl (by simp [upM, nthN, matchO, rens, ren, ren1, ren1L, renL, renV, renO, rl, lenO, getO, Nat.blt, mtc, mtcS, mtcSL, mtc0, mtc0L, refO]) rfl (by simp [upM, nthN, matchO, rens, ren, ren1, ren1L, renL, renV, renO, rl, lenO, getO, Nat.blt, mtc, mtcS, mtcSL, mtc0, mtc0L, refO]) rfl (fun r hs hp hl => ?_); obtain ⟨rfl, rfl⟩ := hp; simp only [snocO, upM, nthN, putAll, snocAll, killsA, killOsA, grows, putL, rl, renV, renL, ren1, ren1L, ren, rens, renO, Nat.blt, lenO, getO, setO, setL, anys, refO]; (refine eval_sound 2000 _ _ _ ?_; simp (maxSteps := 1000000) only [ptrL, lenV, Bool.not_true, Bool.not_false, lookR, valOf, asGrow, jump, findA, restA, and, Nat.reduceAdd, Nat.reduceSub, Nat.reduceMul, Int.reduceToNat, eval, nf, nfO, opN, appTo, rowsV, getL, setL, getO, setO, snocO, lenO, putL, ev, evs, ifEq, killV, killL, kill1, kill1L, kill, kills, killO, killOs, bin, binI, binS, binB, eq1, eqB, lit, sameK, kn, unI, mxA, mnA, mkAgg, fits, partN, partA, resN, retV, allVal, isVal, allCell, isCell, okVal, okCell, cellsOf, fillN, rowsN, cellsN, bnd, lohi, offAt, overL, segL, leave, NodeOK, List.cons_append, List.nil_append, List.append_nil, catA, anys, lenA]))
  refine ⟨fun h => ?_, fun h => ?_⟩
  · rw [if_neg (by rintro ⟨e, _⟩; subst e; simp at h)]
    refine ⟨by simp, by simp, ?_⟩
    ((repeat (with_reducible refine And.intro ?_ ?_; focus (simp; done))); refine ⟨[], rfl, _, _, ?_, ?_, rfl, rfl⟩ <;> simp [Wk, mtc, mtcS, mtcSL, mtc0, mtc0L, mtcL, mtcO, mtcOs, cutM, takeE, stA, rl, renV, renL, ren1, ren1L, ren, rens, renO, Nat.blt, lenO, getO, setO, setL, anys, okS, endM, endH, idxN, takeE, pickE, catO, rl, renV, renL, ren1, ren1L, ren, rens, renO, Nat.blt, lenO, getO, setO, setL, anys, refO])
  · have hE : E = 0 := by simpa using h
    subst hE
    (repeat (with_reducible refine And.intro ?_ ?_; focus (simp; done)))
    ((repeat (with_reducible refine And.intro ?_ ?_; focus (simp; done))); refine aw_call (hg) [] rfl (by simp [upM, nthN, matchO, rens, ren, ren1, ren1L, renL, renV, renO, rl, lenO, getO, Nat.blt, mtc, mtcS, mtcSL, mtc0, mtc0L, refO]) rfl (by simp [upM, nthN, matchO, rens, ren, ren1, ren1L, renL, renV, renO, rl, lenO, getO, Nat.blt, mtc, mtcS, mtcSL, mtc0, mtc0L, refO]) rfl (fun r hs hp hl => ?_); obtain ⟨rfl, rfl⟩ := hp; simp only [snocO, upM, nthN, putAll, snocAll, killsA, killOsA, grows, putL, rl, renV, renL, ren1, ren1L, ren, rens, renO, Nat.blt, lenO, getO, setO, setL, anys, refO]; (refine eval_sound 2000 _ _ _ ?_; simp (maxSteps := 1000000) only [ptrL, lenV, Bool.not_true, Bool.not_false, lookR, valOf, asGrow, jump, findA, restA, and, Nat.reduceAdd, Nat.reduceSub, Nat.reduceMul, Int.reduceToNat, eval, nf, nfO, opN, appTo, rowsV, getL, setL, getO, setO, snocO, lenO, putL, ev, evs, ifEq, killV, killL, kill1, kill1L, kill, kills, killO, killOs, bin, binI, binS, binB, eq1, eqB, lit, sameK, kn, unI, mxA, mnA, mkAgg, fits, partN, partA, resN, retV, allVal, isVal, allCell, isCell, okVal, okCell, cellsOf, fillN, rowsN, cellsN, bnd, lohi, offAt, overL, segL, leave, NodeOK, List.cons_append, List.nil_append, List.append_nil, catA, anys, lenA]))
    refine ⟨fun h => ?_, fun h => ?_⟩
    · rw [if_neg (by rintro ⟨_, e⟩; rw [e] at h; simp at h)]
      refine ⟨by simp, by simp, ?_⟩
      ((repeat (with_reducible refine And.intro ?_ ?_; focus (simp; done))); refine ⟨[], rfl, _, _, ?_, ?_, rfl, rfl⟩ <;> simp [Wk, mtc, mtcS, mtcSL, mtc0, mtc0L, mtcL, mtcO, mtcOs, cutM, takeE, stA, rl, renV, renL, ren1, ren1L, ren, rens, renO, Nat.blt, lenO, getO, setO, setL, anys, okS, endM, endH, idxN, takeE, pickE, catO, rl, renV, renL, ren1, ren1L, ren, rens, renO, Nat.blt, lenO, getO, setO, setL, anys, refO])
    · rw [if_pos ⟨by trivial, by simpa using h⟩]
      (repeat (with_reducible refine And.intro ?_ ?_; focus (simp; done)))
      ((repeat (with_reducible refine And.intro ?_ ?_; focus (simp; done))); refine ⟨[], rfl, _, _, ?_, ?_, rfl, rfl⟩ <;> simp [Wk, mtc, mtcS, mtcSL, mtc0, mtc0L, mtcL, mtcO, mtcOs, cutM, takeE, stA, rl, renV, renL, ren1, ren1L, ren, rens, renO, Nat.blt, lenO, getO, setO, setL, anys, okS, endM, endH, idxN, takeE, pickE, catO, rl, renV, renL, ren1, ren1L, ren, rens, renO, Nat.blt, lenO, getO, setO, setL, anys, refO])
def resR (s : ByteArray) : AV := if s.size < 4 then .tup [zeroI, .int .i64 10] else if sealed (nmI s) = true then resJ (topI (nmI s)) else .tup [zeroI, .int .i64 12]
theorem read_i (s : ByteArray) (hs : s.size ≤ 3000) : ACalls Try.prog 32 [.str s] [] (fun r hs => r = resR s ∧ hs = []) := by
  unfold resR
  split
  · exact readS_i s (by assumption)
  · split
    · exact readK_i s hs (by assumption)
    · exact readB_i s ⟨by omega, hs⟩ (by simpa using (by assumption : ¬ sealed (nmI s) = true))
theorem rread_i (s : ByteArray) (hs : s.size ≤ 3000) : ACalls Try.prog 33 [.str s] [] (fun r hs => r = resR s ∧ hs = []) := by
  unfold resR
  split
  · exact rreadS_i s (by assumption)
  · split
    · exact rreadK_i s hs (by assumption)
    · exact rreadB_i s ⟨by omega, hs⟩ (by simpa using (by assumption : ¬ sealed (nmI s) = true))
theorem body_back (m : Mk) (hm : MkOK m) (s : ByteArray) (hs : s.size ≤ 1000) (t : List (Int × Int)) (ht : t.length = 8) (hT : TOK t) : prM (bodyI m s t) = m ∧ prS (bodyI m s t) = s ∧ prT (bodyI m s t) = t ∧ prE (bodyI m s t) = 0 := by
  have e : bodyI m s t = numI m.l 8 ++ (numI m.b 8 ++ (numI (nmI s).length 2 ++ (nmI s ++ bytesI t))) := by
    unfold bodyI headI
    rw [nmI_len]
    simp only [List.append_assoc]
  have h1 : q1 (bodyI m s t) = ((m.l : Int), numI m.b 8 ++ (numI (nmI s).length 2 ++ (nmI s ++ bytesI t)), false) := by
    unfold q1; rw [e]; exact numV8 (by omega) (by have := hm.1; omega)
  have h2 : q2 (bodyI m s t) = ((m.b : Int), numI (nmI s).length 2 ++ (nmI s ++ bytesI t), false) := by
    unfold q2; rw [h1]; exact numV8 (by omega) (by have := hm.2; omega)
  have h3 : q3 (bodyI m s t) = (nmI s, bytesI t, false) := by
    unfold q3; rw [h2]; exact txtR_txt (nmI s) (bytesI t) (by rw [nmI_len]; exact hs)
  have h4 : q4 (bodyI m s t) = (t, [], false) := by
    unfold q4
    rw [h3]
    have := rd_bytes t t hT [] 8 (by omega)
    rw [List.append_nil, List.append_nil, ← ht, List.take_length, List.drop_length] at this
    rw [ht] at this
    exact this
  refine ⟨?_, ?_, ?_, ?_⟩
  · unfold prM; rw [h1, h2]; rfl
  · unfold prS; rw [h3]; exact strOf_nm s
  · unfold prT; rw [h3]
    have := rdT_bytes t ht hT []
    rwa [List.append_nil] at this
  · unfold prE; rw [h4]; rfl
theorem textI_byte (m : Mk) (s : ByteArray) (t : List (Int × Int)) : ByteL (textI m s t) := (bodyI_byte m s t).app (numI_byte _ _)
theorem text_len (m : Mk) (s : ByteArray) (t : List (Int × Int)) (ht : t.length = 8) : (strOf (u8s (textI m s t))).size = 102 + s.size := by
  rw [strOf_size]
  unfold textI
  rw [sealI_len, bodyI_len, ht]
  omega
theorem back_i (m : Mk) (hm : MkOK m) (s : ByteArray) (t : List (Int × Int)) (ht : t.length = 8) (hT : TOK t) (hG : goodI m s = true) : resR (strOf (u8s (textI m s t))) = .tup [imA m s t, .int .i64 0] := by
  have hsz := goodI_size hG
  have hl := text_len m s t ht
  unfold resR
  rw [if_neg (by omega), nmI_str _ (textI_byte m s t)]
  unfold textI
  rw [if_pos (sealed_seal _), (seal_top _).1]
  obtain ⟨h1, h2, h3, h4⟩ := body_back m hm s (by omega) t ht hT
  unfold resJ
  rw [h1, h2, h3, h4, if_pos ⟨rfl, hG⟩]
end Go.Proofs.Ytlnafekmiidpkaa.S
