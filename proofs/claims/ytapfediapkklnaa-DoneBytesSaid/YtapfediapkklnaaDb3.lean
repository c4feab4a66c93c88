/- Tables, plain ones, and tables that are read. -/
import Derived.Test.YtapfediapkklnaaDb2
namespace Go.Proofs.Ytapfediapkklnaa.S
open Go.RowKit
set_option linter.all false
set_option maxRecDepth 100000
def zT (n : Nat) : List (Int × Int) := List.replicate n (0, 0)
theorem zT8 : [AV.int .u64 0, .int .u16 0, .int .u64 0, .int .u16 0, .int .u64 0, .int .u16 0, .int .u64 0, .int .u16 0, .int .u64 0, .int .u16 0, .int .u64 0, .int .u16 0, .int .u64 0, .int .u16 0, .int .u64 0, .int .u16 0] = cellsT (zT 8) := rfl
theorem set_mid (p : List (Int × Int)) (n : Nat) (c : Int × Int) (hn : p.length < n) : (p ++ zT (n - p.length)).set p.length c = (p ++ [c]) ++ zT (n - (p.length + 1)) := by
  rw [List.set_append_right _ _ (Nat.le_refl _), Nat.sub_self, show n - p.length = (n - (p.length + 1)) + 1 by omega]
  simp [zT, List.replicate_succ]
theorem seg_all {cs : List AV} {n : Nat} (h : cs.length = n) : segL cs 0 n = cs := by
  rw [segL_eq, List.drop_zero, List.take_of_length_le (by omega)]
theorem over_all {cs vs : List AV} (h : vs.length = cs.length) : overL cs 0 vs = vs := by
  rw [overL_eq _ _ _ (by omega)]
  simp [h]
theorem fits_of : ∀ {cs : List AV} {n : Nat}, n ≤ cs.length → fits cs 0 n = true
  | l, 0, _ => by cases l <;> rfl
  | [], n + 1, h => by simp at h
  | _ :: l, n + 1, h => by simp only [fits]; exact fits_of (by simpa using h)
theorem fits8 : fits (cellsT (zT 8)) 0 16 = true := rfl
theorem tab_len {l : List (Int × Int)} (h : l.length = 8) : (cellsT l).length = 16 := by rw [cellsT_len, h]
theorem plain_c (l : List (Int × Int)) (hl : l.length = 8) : ACalls Try.prog 10 [tabA l] [] (fun r hs => r = tabA l ∧ hs = []) := by
  have hcl := tab_len hl
  refine acalls_weak (acalls_of (fn := Try.f10) (A := a10) Try.func10 ok_10 en_10 ?_)
  dsimp only [a10, tabA]
  (refine eval_sound 2000 _ _ _ ?_; simp only [and, Nat.reduceAdd, Nat.reduceSub, Nat.reduceMul, eval, nf, nfO, opN, appTo, rowsV, getL, setL, getO, setO, snocO, lenO, putL, ev, evs, ifEq, killV, killL, kill1, kill1L, kill, kills, killO, killOs, bin, binI, binS, binB, eq1, eqB, lit, sameK, kn, unI, mxA, mnA, mkAgg, fits, partN, partA, resN, retV, allVal, isVal, allCell, isCell, okVal, okCell, cellsOf, fillN, rowsN, cellsN, bnd, lohi, offAt, overL, segL, leave, NodeOK, List.cons_append, List.nil_append, List.append_nil, catA, anys, lenA])
  simp only [zT8]
  refine aw_loopU (α := Nat) (fun k => k ≤ 8) (fun k => [(5, .int .i64 k)]) (fun k => [(2, .arr 30 (cellsT (l.take k ++ zT (8 - k))))]) (fun k => 8 - k) (0) (Nat.zero_le _) ?_ fun x hx => ?_
  · (simp only [wrC, wrOs, keepT, memN, setsL, setsO, setL, setO, snocO, List.cons_append, List.nil_append, List.append_nil, Nat.reduceAdd, Nat.zero_add, Wk, mtc, mtc0, mtc0L, mtcL, mtcO, mtcOs, cutM, takeE, stA, rl, renV, renL, ren1, ren1L, ren, rens, renO, Nat.blt, lenO, getO, setO, setL, anys, tabA]; simp [tabA])
  (simp only [wrC, wrOs, keepT, memN, setsL, setsO, setL, setO, snocO, List.cons_append, List.nil_append, List.append_nil, Nat.reduceAdd, Nat.zero_add, tabA]; (refine eval_sound 2000 _ _ _ ?_; simp only [and, Nat.reduceAdd, Nat.reduceSub, Nat.reduceMul, eval, nf, nfO, opN, appTo, rowsV, getL, setL, getO, setO, snocO, lenO, putL, ev, evs, ifEq, killV, killL, kill1, kill1L, kill, kills, killO, killOs, bin, binI, binS, binB, eq1, eqB, lit, sameK, kn, unI, mxA, mnA, mkAgg, fits, partN, partA, resN, retV, allVal, isVal, allCell, isCell, okVal, okCell, cellsOf, fillN, rowsN, cellsN, bnd, lohi, offAt, overL, segL, leave, NodeOK, List.cons_append, List.nil_append, List.append_nil, catA, anys, lenA]))
  simp only [decide_eq_true_eq, decide_eq_false_iff_not]
  refine ⟨fun h4 => ?_, fun h4 => ?_⟩
  · have hk : x < l.length := by omega
    obtain ⟨c, hc⟩ : ∃ c, l[x]? = some c := ⟨_, List.getElem?_eq_getElem hk⟩
    have hsg := seg_tab l x c hc
    have hlt : (l.take x).length = x := by simp; omega
    have hov := over_tab (l.take x ++ zT (8 - x)) x c.1 c.2 (by simp [zT]; omega)
    have hset := set_mid (l.take x) 8 c (by omega)
    rw [hlt] at hset
    have ht : l.take (x + 1) = l.take x ++ [c] := by rw [List.take_add_one, hc]; rfl
    rw [show ((c.1, c.2) : Int × Int) = c from rfl, hset, ← ht] at hov
    simp only [Int.toNat_natCast, Nat.zero_add, hsg, hov]
    rw [wr64 (n := (x : Int) + 1) (by omega) (by omega)]
    refine ⟨⟨by omega, by omega⟩, by omega, ⟨by omega, by omega⟩, by simp, by rw [cellsT_len]; simp [zT]; omega, x + 1, by omega, by omega, ?_⟩
    (simp only [wrC, wrOs, keepT, memN, setsL, setsO, setL, setO, snocO, List.cons_append, List.nil_append, List.append_nil, Nat.reduceAdd, Nat.zero_add, Wk, mtc, mtc0, mtc0L, mtcL, mtcO, mtcOs, cutM, takeE, stA, rl, renV, renL, ren1, ren1L, ren, rens, renO, Nat.blt, lenO, getO, setO, setL, anys, tabA]; simp [tabA])
  · have : x = 8 := by omega
    subst this
    have e : l.take 8 ++ zT (8 - 8) = l := by rw [List.take_of_length_le (by omega)]; simp [zT]
    simp only [e, seg_all hcl, fits8, over_all (show (cellsT l).length = (cellsT (zT 8)).length by rw [hcl]; rfl), NodeOK]
    refine ⟨by omega, hcl, by omega, ?_⟩
    (refine ⟨[], rfl, _, _, ?_, ?_, rfl, rfl⟩ <;> simp [Wk, mtc, mtc0, mtc0L, mtcL, mtcO, mtcOs, cutM, takeE, stA, rl, renV, renL, ren1, ren1L, ren, rens, renO, Nat.blt, lenO, getO, setO, setL, anys, okS, endM, endH, idxN, takeE, pickE, catO, rl, renV, renL, ren1, ren1L, ren, rens, renO, Nat.blt, lenO, getO, setO, setL, anys, tabA])
def rd2 (s : List Int × Bool) : (Int × Int) × (List Int × Bool) := ((( numV s.1 s.2 8).1, IntKind.u16.wrap (numV (numV s.1 s.2 8).2.1 (numV s.1 s.2 8).2.2 2).1), (numV (numV s.1 s.2 8).2.1 (numV s.1 s.2 8).2.2 2).2)
def rdN (s : List Int × Bool) : Nat → List (Int × Int) × List Int × Bool
  | 0 => ([], s)
  | k + 1 => ((rdN s k).1 ++ [(rd2 (rdN s k).2).1], (rd2 (rdN s k).2).2)
theorem rdN_len (s : List Int × Bool) : ∀ k, (rdN s k).1.length = k
  | 0 => rfl
  | k + 1 => by simp [rdN, rdN_len s k]
def rdT (s : List Int × Bool) : List (Int × Int) := if (rdN s 8).2.2 = true then zT 8 else (rdN s 8).1
theorem rdT_len (s : List Int × Bool) : (rdT s).length = 8 := by
  unfold rdT; split
  · simp [zT]
  · exact rdN_len s 8
theorem dread (l : List Int) (bad : Bool) : ACalls Try.prog 34 [.ptr 0 0] [rdO l bad] (fun r hs => r = tabA (rdT (l, bad)) ∧ hs = [rdO (rdN (l, bad) 8).2.1 (rdN (l, bad) 8).2.2]) := by
  refine acalls_weak (acalls_of (fn := Try.f34) (A := a34) Try.func34 ok_34 en_34 ?_)
  dsimp only [a34, tabA, rdO]
  (refine eval_sound 2000 _ _ _ ?_; simp only [and, Nat.reduceAdd, Nat.reduceSub, Nat.reduceMul, eval, nf, nfO, opN, appTo, rowsV, getL, setL, getO, setO, snocO, lenO, putL, ev, evs, ifEq, killV, killL, kill1, kill1L, kill, kills, killO, killOs, bin, binI, binS, binB, eq1, eqB, lit, sameK, kn, unI, mxA, mnA, mkAgg, fits, partN, partA, resN, retV, allVal, isVal, allCell, isCell, okVal, okCell, cellsOf, fillN, rowsN, cellsN, bnd, lohi, offAt, overL, segL, leave, NodeOK, List.cons_append, List.nil_append, List.append_nil, catA, anys, lenA])
  simp only [zT8]
  refine aw_loopU (α := Nat) (fun k => k ≤ 8) (fun k => [(4, .int .i64 k)]) (fun k => [(0, rdO (rdN (l, bad) k).2.1 (rdN (l, bad) k).2.2), (1, .arr 27 (cellsT ((rdN (l, bad) k).1 ++ zT (8 - k))))]) (fun k => 8 - k) (0) (Nat.zero_le _) ?_ fun x hx => ?_
  · (simp only [wrC, wrOs, keepT, memN, setsL, setsO, setL, setO, snocO, List.cons_append, List.nil_append, List.append_nil, Nat.reduceAdd, Nat.zero_add, Wk, mtc, mtc0, mtc0L, mtcL, mtcO, mtcOs, cutM, takeE, stA, rl, renV, renL, ren1, ren1L, ren, rens, renO, Nat.blt, lenO, getO, setO, setL, anys, tabA, rdO, rdN]; simp [tabA, rdO, rdN])
  have hS : rdN (l, bad) (x + 1) = ((rdN (l, bad) x).1 ++ [(rd2 (rdN (l, bad) x).2).1], (rd2 (rdN (l, bad) x).2).2) := rfl
  have hL := rdN_len (l, bad) x
  (simp only [wrC, wrOs, keepT, memN, setsL, setsO, setL, setO, snocO, List.cons_append, List.nil_append, List.append_nil, Nat.reduceAdd, Nat.zero_add, tabA, rdO]; (refine eval_sound 2000 _ _ _ ?_; simp only [and, Nat.reduceAdd, Nat.reduceSub, Nat.reduceMul, eval, nf, nfO, opN, appTo, rowsV, getL, setL, getO, setO, snocO, lenO, putL, ev, evs, ifEq, killV, killL, kill1, kill1L, kill, kills, killO, killOs, bin, binI, binS, binB, eq1, eqB, lit, sameK, kn, unI, mxA, mnA, mkAgg, fits, partN, partA, resN, retV, allVal, isVal, allCell, isCell, okVal, okCell, cellsOf, fillN, rowsN, cellsN, bnd, lohi, offAt, overL, segL, leave, NodeOK, List.cons_append, List.nil_append, List.append_nil, catA, anys, lenA]))
  simp only [decide_eq_true_eq, decide_eq_false_iff_not]
  refine ⟨fun h4 => ?_, fun h4 => ?_⟩
  · generalize rdN (l, bad) x = R at *
    obtain ⟨p, l', b'⟩ := R
    simp only at hL hS
    (refine aw_call (num_c l' b' 8) [0] rfl (by simp [upM, nthN, matchO, rens, ren, ren1, ren1L, renL, renV, renO, rl, lenO, getO, Nat.blt, mtc, mtc0, mtc0L, rdO]) rfl (by simp [upM, nthN, matchO, rens, ren, ren1, ren1L, renL, renV, renO, rl, lenO, getO, Nat.blt, mtc, mtc0, mtc0L, rdO]) rfl (fun r hs hp hl => ?_); obtain ⟨rfl, rfl⟩ := hp; simp only [snocO, upM, nthN, putAll, snocAll, killsA, killOsA, grows, putL, rl, renV, renL, ren1, ren1L, ren, rens, renO, Nat.blt, lenO, getO, setO, setL, anys, rdO]; (refine eval_sound 2000 _ _ _ ?_; simp only [and, Nat.reduceAdd, Nat.reduceSub, Nat.reduceMul, eval, nf, nfO, opN, appTo, rowsV, getL, setL, getO, setO, snocO, lenO, putL, ev, evs, ifEq, killV, killL, kill1, kill1L, kill, kills, killO, killOs, bin, binI, binS, binB, eq1, eqB, lit, sameK, kn, unI, mxA, mnA, mkAgg, fits, partN, partA, resN, retV, allVal, isVal, allCell, isCell, okVal, okCell, cellsOf, fillN, rowsN, cellsN, bnd, lohi, offAt, overL, segL, leave, NodeOK, List.cons_append, List.nil_append, List.append_nil, catA, anys, lenA]))
    (refine aw_call (num_c (numV l' b' 8).2.1 (numV l' b' 8).2.2 2) [0] rfl (by simp [upM, nthN, matchO, rens, ren, ren1, ren1L, renL, renV, renO, rl, lenO, getO, Nat.blt, mtc, mtc0, mtc0L, rdO]) rfl (by simp [upM, nthN, matchO, rens, ren, ren1, ren1L, renL, renV, renO, rl, lenO, getO, Nat.blt, mtc, mtc0, mtc0L, rdO]) rfl (fun r hs hp hl => ?_); obtain ⟨rfl, rfl⟩ := hp; simp only [snocO, upM, nthN, putAll, snocAll, killsA, killOsA, grows, putL, rl, renV, renL, ren1, ren1L, ren, rens, renO, Nat.blt, lenO, getO, setO, setL, anys, rdO]; (refine eval_sound 2000 _ _ _ ?_; simp only [and, Nat.reduceAdd, Nat.reduceSub, Nat.reduceMul, eval, nf, nfO, opN, appTo, rowsV, getL, setL, getO, setO, snocO, lenO, putL, ev, evs, ifEq, killV, killL, kill1, kill1L, kill, kills, killO, killOs, bin, binI, binS, binB, eq1, eqB, lit, sameK, kn, unI, mxA, mnA, mkAgg, fits, partN, partA, resN, retV, allVal, isVal, allCell, isCell, okVal, okCell, cellsOf, fillN, rowsN, cellsN, bnd, lohi, offAt, overL, segL, leave, NodeOK, List.cons_append, List.nil_append, List.append_nil, catA, anys, lenA]))
    have hov := over_tab (p ++ zT (8 - x)) x (rd2 (l', b')).1.1 (rd2 (l', b')).1.2 (by simp [zT]; omega)
    have hset := set_mid p 8 (rd2 (l', b')).1 (by omega)
    rw [hL] at hset
    rw [show (((rd2 (l', b')).1.1, (rd2 (l', b')).1.2) : Int × Int) = (rd2 (l', b')).1 from rfl, hset] at hov
    simp only [rd2] at hov hS
    simp only [Int.toNat_natCast, Nat.zero_add, hov]
    rw [wr64 (n := (x : Int) + 1) (by omega) (by omega)]
    refine ⟨⟨by omega, by omega⟩, by simp, by rw [cellsT_len]; simp [zT]; omega, x + 1, by omega, by omega, ?_⟩
    simp only [hS]
    (simp only [wrC, wrOs, keepT, memN, setsL, setsO, setL, setO, snocO, List.cons_append, List.nil_append, List.append_nil, Nat.reduceAdd, Nat.zero_add, Wk, mtc, mtc0, mtc0L, mtcL, mtcO, mtcOs, cutM, takeE, stA, rl, renV, renL, ren1, ren1L, ren, rens, renO, Nat.blt, lenO, getO, setO, setL, anys, tabA, rdO]; simp [tabA, rdO])
  · have : x = 8 := by omega
    subst this
    have hT : rdT (l, bad) = if (rdN (l, bad) 8).2.2 = true then zT 8 else (rdN (l, bad) 8).1 := rfl
    have hlen := tab_len (rdT_len (l, bad))
    generalize rdT (l, bad) = T at *
    generalize rdN (l, bad) 8 = R at *
    obtain ⟨p, l', b'⟩ := R
    simp only at hL hT
    have e : p ++ zT (8 - 8) = p := by simp [zT]
    rw [e]
    have hp := tab_len hL
    (refine aw_call (bad_ l' b') [0] rfl (by simp [upM, nthN, matchO, rens, ren, ren1, ren1L, renL, renV, renO, rl, lenO, getO, Nat.blt, mtc, mtc0, mtc0L, rdO]) rfl (by simp [upM, nthN, matchO, rens, ren, ren1, ren1L, renL, renV, renO, rl, lenO, getO, Nat.blt, mtc, mtc0, mtc0L, rdO]) rfl (fun r hs hp hl => ?_); obtain ⟨rfl, rfl⟩ := hp; simp only [snocO, upM, nthN, putAll, snocAll, killsA, killOsA, grows, putL, rl, renV, renL, ren1, ren1L, ren, rens, renO, Nat.blt, lenO, getO, setO, setL, anys, rdO]; (refine eval_sound 2000 _ _ _ ?_; simp only [and, Nat.reduceAdd, Nat.reduceSub, Nat.reduceMul, eval, nf, nfO, opN, appTo, rowsV, getL, setL, getO, setO, snocO, lenO, putL, ev, evs, ifEq, killV, killL, kill1, kill1L, kill, kills, killO, killOs, bin, binI, binS, binB, eq1, eqB, lit, sameK, kn, unI, mxA, mnA, mkAgg, fits, partN, partA, resN, retV, allVal, isVal, allCell, isCell, okVal, okCell, cellsOf, fillN, rowsN, cellsN, bnd, lohi, offAt, overL, segL, leave, NodeOK, List.cons_append, List.nil_append, List.append_nil, catA, anys, lenA]))
    have hz : (cellsT (zT 8)).length = 16 := rfl
    simp only [fits_of (show 16 ≤ (cellsT p).length by omega), seg_all hp, zT8, over_all (hz.trans hp.symm), over_all (rfl : (cellsT p).length = (cellsT p).length), seg_all hz, NodeOK]
    refine ⟨fun h5 => ⟨hz, by omega, ?_⟩, fun h5 => ⟨by omega, hp, by omega, ?_⟩⟩
    · rw [hT, if_pos h5]
      (refine ⟨[], rfl, _, _, ?_, ?_, rfl, rfl⟩ <;> simp [Wk, mtc, mtc0, mtc0L, mtcL, mtcO, mtcOs, cutM, takeE, stA, rl, renV, renL, ren1, ren1L, ren, rens, renO, Nat.blt, lenO, getO, setO, setL, anys, okS, endM, endH, idxN, takeE, pickE, catO, rl, renV, renL, ren1, ren1L, ren, rens, renO, Nat.blt, lenO, getO, setO, setL, anys, rdO, tabA])
    · rw [hT, if_neg (by simp [h5])]
      (refine ⟨[], rfl, _, _, ?_, ?_, rfl, rfl⟩ <;> simp [Wk, mtc, mtc0, mtc0L, mtcL, mtcO, mtcOs, cutM, takeE, stA, rl, renV, renL, ren1, ren1L, ren, rens, renO, Nat.blt, lenO, getO, setO, setL, anys, okS, endM, endH, idxN, takeE, pickE, catO, rl, renV, renL, ren1, ren1L, ren, rens, renO, Nat.blt, lenO, getO, setO, setL, anys, rdO, tabA])
def rf2 (b : List Int) (s : Int × Bool) : (Int × Int) × (Int × Bool) := (((numF b s.1 s.2 8).1, IntKind.u16.wrap (numF b (numF b s.1 s.2 8).2.1 (numF b s.1 s.2 8).2.2 2).1), (numF b (numF b s.1 s.2 8).2.1 (numF b s.1 s.2 8).2.2 2).2)
def rfN (b : List Int) (s : Int × Bool) : Nat → List (Int × Int) × Int × Bool
  | 0 => ([], s)
  | k + 1 => ((rfN b s k).1 ++ [(rf2 b (rfN b s k).2).1], (rf2 b (rfN b s k).2).2)
theorem rfN_len (b : List Int) (s : Int × Bool) : ∀ k, (rfN b s k).1.length = k
  | 0 => rfl
  | k + 1 => by simp [rfN, rfN_len b s k]
def rfT (b : List Int) (s : Int × Bool) : List (Int × Int) := if (rfN b s 8).2.2 = true then zT 8 else (rfN b s 8).1
theorem rfT_len (b : List Int) (s : Int × Bool) : (rfT b s).length = 8 := by
  unfold rfT; split
  · simp [zT]
  · exact rfN_len b s 8
theorem rfN_in (b : List Int) (s : Int × Bool) (h0 : 0 ≤ s.1) (h1 : s.1 ≤ b.length) : ∀ k, 0 ≤ (rfN b s k).2.1 ∧ (rfN b s k).2.1 ≤ b.length
  | 0 => ⟨h0, h1⟩
  | k + 1 => by
    obtain ⟨g0, g1⟩ := rfN_in b s h0 h1 k
    obtain ⟨g2, g3⟩ := numF_in b (rfN b s k).2.1 (rfN b s k).2.2 8 g0 g1
    exact numF_in b _ _ 2 g2 g3
theorem over_tab0 : ∀ (l : List (Int × Int)) (k : Nat) (a : Int) (c : Int × Int), l[k]? = some c → over (cellsT l) (k * 2) [.int .u64 a] = cellsT (l.set k (a, c.2))
  | [], k, a, c, h => by simp at h
  | x :: l, 0, a, c, h => by simp at h; subst h; simp [over, cellsT_cons]
  | x :: l, k + 1, a, c, h => by
    have := over_tab0 l k a c (by simpa using h)
    unfold over at this ⊢
    rw [cellsT_cons, show (k + 1) * 2 = (k * 2) + 1 + 1 by omega, List.set_cons_succ, cellsT_cons, ← this]
    simp [Nat.add_right_comm]
theorem over_tab1 : ∀ (l : List (Int × Int)) (k : Nat) (a : Int) (c : Int × Int), l[k]? = some c → over (cellsT l) (k * 2 + 1) [.int .u16 a] = cellsT (l.set k (c.1, a))
  | [], k, a, c, h => by simp at h
  | x :: l, 0, a, c, h => by simp at h; subst h; simp [over, cellsT_cons]
  | x :: l, k + 1, a, c, h => by
    have := over_tab1 l k a c (by simpa using h)
    unfold over at this ⊢
    rw [cellsT_cons, show (k + 1) * 2 + 1 = (k * 2 + 1) + 1 + 1 by omega, List.set_cons_succ, cellsT_cons, ← this]
    simp [Nat.add_right_comm]
theorem rread (b : List Int) (k : Int) (bad : Bool) (h0 : 0 ≤ k) (h1 : k ≤ b.length) (hb : b.length ≤ 20000) : ACalls Try.prog 35 [.ptr 0 0] [refO b k bad] (fun r hs => r = tabA (rfT b (k, bad)) ∧ hs = [refO b (rfN b (k, bad) 8).2.1 (rfN b (k, bad) 8).2.2]) := by
  refine acalls_weak (acalls_of (fn := Try.f35) (A := a35) Try.func35 ok_35 en_35 ?_)
  dsimp only [a35, tabA, refO]
  (refine eval_sound 2000 _ _ _ ?_; simp only [and, Nat.reduceAdd, Nat.reduceSub, Nat.reduceMul, eval, nf, nfO, opN, appTo, rowsV, getL, setL, getO, setO, snocO, lenO, putL, ev, evs, ifEq, killV, killL, kill1, kill1L, kill, kills, killO, killOs, bin, binI, binS, binB, eq1, eqB, lit, sameK, kn, unI, mxA, mnA, mkAgg, fits, partN, partA, resN, retV, allVal, isVal, allCell, isCell, okVal, okCell, cellsOf, fillN, rowsN, cellsN, bnd, lohi, offAt, overL, segL, leave, NodeOK, List.cons_append, List.nil_append, List.append_nil, catA, anys, lenA])
  simp only [zT8]
  refine aw_loopU (α := Nat) (fun i => i ≤ 8) (fun i => [(4, .int .i64 i)]) (fun i => [(0, refO b (rfN b (k, bad) i).2.1 (rfN b (k, bad) i).2.2), (2, .arr 30 (cellsT ((rfN b (k, bad) i).1 ++ zT (8 - i))))]) (fun i => 8 - i) (0) (Nat.zero_le _) ?_ fun x hx => ?_
  · (simp only [wrC, wrOs, keepT, memN, setsL, setsO, setL, setO, snocO, List.cons_append, List.nil_append, List.append_nil, Nat.reduceAdd, Nat.zero_add, Wk, mtc, mtc0, mtc0L, mtcL, mtcO, mtcOs, cutM, takeE, stA, rl, renV, renL, ren1, ren1L, ren, rens, renO, Nat.blt, lenO, getO, setO, setL, anys, tabA, refO, rfN]; simp [tabA, refO, rfN])
  have hS : rfN b (k, bad) (x + 1) = ((rfN b (k, bad) x).1 ++ [(rf2 b (rfN b (k, bad) x).2).1], (rf2 b (rfN b (k, bad) x).2).2) := rfl
  have hL := rfN_len b (k, bad) x
  have hI := rfN_in b (k, bad) h0 h1 x
  (simp only [wrC, wrOs, keepT, memN, setsL, setsO, setL, setO, snocO, List.cons_append, List.nil_append, List.append_nil, Nat.reduceAdd, Nat.zero_add, tabA, refO]; (refine eval_sound 2000 _ _ _ ?_; simp only [and, Nat.reduceAdd, Nat.reduceSub, Nat.reduceMul, eval, nf, nfO, opN, appTo, rowsV, getL, setL, getO, setO, snocO, lenO, putL, ev, evs, ifEq, killV, killL, kill1, kill1L, kill, kills, killO, killOs, bin, binI, binS, binB, eq1, eqB, lit, sameK, kn, unI, mxA, mnA, mkAgg, fits, partN, partA, resN, retV, allVal, isVal, allCell, isCell, okVal, okCell, cellsOf, fillN, rowsN, cellsN, bnd, lohi, offAt, overL, segL, leave, NodeOK, List.cons_append, List.nil_append, List.append_nil, catA, anys, lenA]))
  simp only [decide_eq_true_eq, decide_eq_false_iff_not]
  refine ⟨fun h4 => ?_, fun h4 => ?_⟩
  · generalize rfN b (k, bad) x = R at *
    obtain ⟨p, l', b'⟩ := R
    simp only at hL hS hI
    (refine aw_call (rfnum b l' b' 8 hI.1 hI.2 hb) [0] rfl (by simp [upM, nthN, matchO, rens, ren, ren1, ren1L, renL, renV, renO, rl, lenO, getO, Nat.blt, mtc, mtc0, mtc0L, refO]) rfl (by simp [upM, nthN, matchO, rens, ren, ren1, ren1L, renL, renV, renO, rl, lenO, getO, Nat.blt, mtc, mtc0, mtc0L, refO]) rfl (fun r hs hp hl => ?_); obtain ⟨rfl, rfl⟩ := hp; simp only [snocO, upM, nthN, putAll, snocAll, killsA, killOsA, grows, putL, rl, renV, renL, ren1, ren1L, ren, rens, renO, Nat.blt, lenO, getO, setO, setL, anys, refO]; (refine eval_sound 2000 _ _ _ ?_; simp only [and, Nat.reduceAdd, Nat.reduceSub, Nat.reduceMul, eval, nf, nfO, opN, appTo, rowsV, getL, setL, getO, setO, snocO, lenO, putL, ev, evs, ifEq, killV, killL, kill1, kill1L, kill, kills, killO, killOs, bin, binI, binS, binB, eq1, eqB, lit, sameK, kn, unI, mxA, mnA, mkAgg, fits, partN, partA, resN, retV, allVal, isVal, allCell, isCell, okVal, okCell, cellsOf, fillN, rowsN, cellsN, bnd, lohi, offAt, overL, segL, leave, NodeOK, List.cons_append, List.nil_append, List.append_nil, catA, anys, lenA]))
    obtain ⟨g0, g1⟩ := numF_in b l' b' 8 hI.1 hI.2
    refine ⟨⟨by omega, by omega⟩, by rw [cellsT_len]; simp [zT]; omega, ?_⟩
    have hget : (p ++ zT (8 - x))[x]? = some (0, 0) := by
      rw [List.getElem?_append_right (by omega), hL, Nat.sub_self, show 8 - x = (8 - x - 1) + 1 by omega]
      rfl
    have ho1 := over_tab0 (p ++ zT (8 - x)) x (numF b l' b' 8).1 (0, 0) hget
    simp only [Int.toNat_natCast, Nat.zero_add, Nat.add_zero, ho1]
    (refine aw_call (rfnum b (numF b l' b' 8).2.1 (numF b l' b' 8).2.2 2 g0 g1 hb) [0] rfl (by simp [upM, nthN, matchO, rens, ren, ren1, ren1L, renL, renV, renO, rl, lenO, getO, Nat.blt, mtc, mtc0, mtc0L, refO]) rfl (by simp [upM, nthN, matchO, rens, ren, ren1, ren1L, renL, renV, renO, rl, lenO, getO, Nat.blt, mtc, mtc0, mtc0L, refO]) rfl (fun r hs hp hl => ?_); obtain ⟨rfl, rfl⟩ := hp; simp only [snocO, upM, nthN, putAll, snocAll, killsA, killOsA, grows, putL, rl, renV, renL, ren1, ren1L, ren, rens, renO, Nat.blt, lenO, getO, setO, setL, anys, refO]; (refine eval_sound 2000 _ _ _ ?_; simp only [and, Nat.reduceAdd, Nat.reduceSub, Nat.reduceMul, eval, nf, nfO, opN, appTo, rowsV, getL, setL, getO, setO, snocO, lenO, putL, ev, evs, ifEq, killV, killL, kill1, kill1L, kill, kills, killO, killOs, bin, binI, binS, binB, eq1, eqB, lit, sameK, kn, unI, mxA, mnA, mkAgg, fits, partN, partA, resN, retV, allVal, isVal, allCell, isCell, okVal, okCell, cellsOf, fillN, rowsN, cellsN, bnd, lohi, offAt, overL, segL, leave, NodeOK, List.cons_append, List.nil_append, List.append_nil, catA, anys, lenA]))
    have hget2 : ((p ++ zT (8 - x)).set x ((numF b l' b' 8).1, 0))[x]? = some ((numF b l' b' 8).1, 0) := by
      rw [List.getElem?_set_self (by simp [zT]; omega)]
    have ho2 := over_tab1 ((p ++ zT (8 - x)).set x ((numF b l' b' 8).1, 0)) x (IntKind.u16.wrap (numF b (numF b l' b' 8).2.1 (numF b l' b' 8).2.2 2).1) _ hget2
    rw [List.set_set] at ho2
    have hset := set_mid p 8 (rf2 b (l', b')).1 (by omega)
    rw [hL] at hset
    rw [show (((numF b l' b' 8).1, IntKind.u16.wrap (numF b (numF b l' b' 8).2.1 (numF b l' b' 8).2.2 2).1) : Int × Int) = (rf2 b (l', b')).1 from rfl, hset] at ho2
    simp only [rf2] at ho2 hS
    simp only [Int.toNat_natCast, Nat.zero_add, Nat.add_zero, ho2]
    rw [wr64 (n := (x : Int) + 1) (by omega) (by omega)]
    refine ⟨⟨by omega, by omega⟩, by rw [cellsT_len]; simp [zT]; omega, x + 1, by omega, by omega, ?_⟩
    simp only [hS]
    (simp only [wrC, wrOs, keepT, memN, setsL, setsO, setL, setO, snocO, List.cons_append, List.nil_append, List.append_nil, Nat.reduceAdd, Nat.zero_add, Wk, mtc, mtc0, mtc0L, mtcL, mtcO, mtcOs, cutM, takeE, stA, rl, renV, renL, ren1, ren1L, ren, rens, renO, Nat.blt, lenO, getO, setO, setL, anys, tabA, refO]; simp [tabA, refO])
  · have : x = 8 := by omega
    subst this
    have hT : rfT b (k, bad) = if (rfN b (k, bad) 8).2.2 = true then zT 8 else (rfN b (k, bad) 8).1 := rfl
    have hlen := tab_len (rfT_len b (k, bad))
    generalize rfT b (k, bad) = T at *
    generalize rfN b (k, bad) 8 = R at *
    obtain ⟨p, l', b'⟩ := R
    simp only at hL hT
    have e : p ++ zT (8 - 8) = p := by simp [zT]
    have hp := tab_len hL
    have hz : (cellsT (zT 8)).length = 16 := rfl
    simp only [e, fits8, fits_of (show 16 ≤ (cellsT p).length by omega), seg_all hp, zT8, over_all (hp.trans hz.symm), over_all (rfl : (cellsT (zT 8)).length = (cellsT (zT 8)).length), over_all (rfl : (cellsT p).length = (cellsT p).length), seg_all hz, NodeOK]
    refine ⟨fun h5 => ⟨hz, by omega, ?_⟩, fun h5 => ⟨by omega, hp, by omega, ?_⟩⟩
    · rw [hT, if_pos h5]
      (refine ⟨[], rfl, _, _, ?_, ?_, rfl, rfl⟩ <;> simp [Wk, mtc, mtc0, mtc0L, mtcL, mtcO, mtcOs, cutM, takeE, stA, rl, renV, renL, ren1, ren1L, ren, rens, renO, Nat.blt, lenO, getO, setO, setL, anys, okS, endM, endH, idxN, takeE, pickE, catO, rl, renV, renL, ren1, ren1L, ren, rens, renO, Nat.blt, lenO, getO, setO, setL, anys, refO, tabA])
    · rw [hT, if_neg (by simp [h5])]
      (refine ⟨[], rfl, _, _, ?_, ?_, rfl, rfl⟩ <;> simp [Wk, mtc, mtc0, mtc0L, mtcL, mtcO, mtcOs, cutM, takeE, stA, rl, renV, renL, ren1, ren1L, ren, rens, renO, Nat.blt, lenO, getO, setO, setL, anys, okS, endM, endH, idxN, takeE, pickE, catO, rl, renV, renL, ren1, ren1L, ren, rens, renO, Nat.blt, lenO, getO, setO, setL, anys, refO, tabA])
end Go.Proofs.Ytapfediapkklnaa.S
