/- Contracts, picked of my other texts. -/
import Derived.Test.YtlnafekmiidpkaaDoorOrO
namespace Go.Proofs.YtlnafekmiidpkaaDoor.S
set_option linter.all false
set_option maxRecDepth 100000
set_option maxHeartbeats 1000000
def ByteL (l : List Int) : Prop := ∀ x ∈ l, 0 ≤ x ∧ x ≤ 255
def nmI (s : ByteArray) : List Int := s.data.toList.map fun b => (b.toNat : Int)
theorem strOf_nm (s : ByteArray) : strOf (u8s (nmI s)) = s := by
  obtain ⟨a⟩ := s
  unfold strOf
  congr 1
  have : List.map byteOf (u8s (nmI ⟨a⟩)) = a.toList := by
    simp only [u8s, nmI, List.map_map]
    refine Eq.trans (List.map_congr_left fun b _ => ?_) (List.map_id _)
    simp [byteOf]
  rw [this]
theorem nmI_str (c : List Int) (h : ByteL c) : nmI (strOf (u8s c)) = c := by
  unfold nmI strOf
  simp only [u8s, List.map_map]
  refine Eq.trans (List.map_congr_left fun b hb => ?_) (List.map_id _)
  have := h b hb
  simp only [Function.comp, byteOf, id]
  rw [UInt8.toNat_ofNat']
  omega
theorem nmI_byte (s : ByteArray) : ByteL (nmI s) := by
  intro x hx
  obtain ⟨b, _, rfl⟩ := List.mem_map.1 hx
  have := b.toNat_lt
  omega
theorem nmI_len (s : ByteArray) : (nmI s).length = s.size := by simp [nmI]
def cellsT (l : List (Int × Int)) : List AV := l.flatMap fun c => [.int .u64 c.1, .int .u16 c.2]
theorem cellsT_len (l : List (Int × Int)) : (cellsT l).length = 2 * l.length := by
  induction l with
  | nil => rfl
  | cons x l ih => simp [cellsT] at ih ⊢; omega
theorem cellsT_cons (x : Int × Int) (l : List (Int × Int)) : cellsT (x :: l) = .int .u64 x.1 :: .int .u16 x.2 :: cellsT l := rfl
theorem seg_tab : ∀ (l : List (Int × Int)) (k : Nat) (c : Int × Int), l[k]? = some c → seg (cellsT l) (k * 2) 2 = [.int .u64 c.1, .int .u16 c.2]
  | [], k, c, h => by simp at h
  | x :: l, 0, c, h => by simp at h; subst h; simp [seg, cellsT_cons]
  | x :: l, k + 1, c, h => by
    have := seg_tab l k c (by simpa using h)
    unfold seg at this ⊢
    rw [cellsT_cons, show (k + 1) * 2 = (k * 2) + 1 + 1 by omega]
    simpa using this
theorem over_tab : ∀ (l : List (Int × Int)) (k : Nat) (a b : Int), k < l.length → over (cellsT l) (k * 2) [.int .u64 a, .int .u16 b] = cellsT (l.set k (a, b))
  | [], k, a, b, h => by simp at h
  | x :: l, 0, a, b, h => by simp [over, cellsT_cons]
  | x :: l, k + 1, a, b, h => by
    have := over_tab l k a b (by simpa using h)
    unfold over at this ⊢
    rw [cellsT_cons, show (k + 1) * 2 = (k * 2) + 1 + 1 by omega, List.set_cons_succ, cellsT_cons, ← this]
    simp [Nat.add_right_comm]
def tabA (l : List (Int × Int)) : AV := .arr (cellsT l)
def zT (n : Nat) : List (Int × Int) := List.replicate n (0, 0)
theorem zT8 : [AV.int .u64 0, .int .u16 0, .int .u64 0, .int .u16 0, .int .u64 0, .int .u16 0, .int .u64 0, .int .u16 0, .int .u64 0, .int .u16 0, .int .u64 0, .int .u16 0, .int .u64 0, .int .u16 0, .int .u64 0, .int .u16 0] = cellsT (zT 8) := rfl
theorem set_mid (p : List (Int × Int)) (n : Nat) (c : Int × Int) (hn : p.length < n) : (p ++ zT (n - p.length)).set p.length c = (p ++ [c]) ++ zT (n - (p.length + 1)) := by
  rw [List.set_append_right _ _ (Nat.le_refl _), Nat.sub_self, show n - p.length = (n - (p.length + 1)) + 1 by omega]
  simp [zT, List.replicate_succ]
theorem seg_all {cs : List AV} {n : Nat} (h : cs.length = n) : segL cs 0 n = cs := by
  rw [segL_eq, List.drop_zero, List.take_of_length_le (by omega)]
theorem overL_all {cs vs : List AV} (h : vs.length = cs.length) : overL cs 0 vs = vs := by
  rw [overL_eq _ _ _ (by omega)]
  simp [h]
theorem fits8 : fits (cellsT (zT 8)) 0 16 = true := rfl
theorem tab_len {l : List (Int × Int)} (h : l.length = 8) : (cellsT l).length = 16 := by rw [cellsT_len, h]
theorem plain_c (l : List (Int × Int)) (hl : l.length = 8) : ACalls Tryd.prog 32 [tabA l] [] (fun r hs => r = tabA l ∧ hs = []) := by
  have hcl := tab_len hl
  refine acalls_weak (acalls_of (fn := Tryd.f32) (A := a32) Tryd.func32 ok_32 en_32 ?_)
  dsimp only [a32, tabA]
  (refine eval_sound 2000 _ _ _ ?_; simp (maxSteps := 1000000) only [ptrL, lenV, Bool.not_true, Bool.not_false, lookR, valOf, asGrow, jump, findA, restA, and, Nat.reduceAdd, Nat.reduceSub, Nat.reduceMul, Int.reduceToNat, eval, nf, nfO, opN, appTo, rowsV, getL, setL, getO, setO, snocO, lenO, putL, ev, evs, ifEq, killV, killL, kill1, kill1L, kill, kills, killO, killOs, bin, binI, binS, binB, eq1, eqB, lit, sameK, kn, unI, mxA, mnA, mkAgg, fits, partN, partA, resN, retV, allVal, isVal, allCell, isCell, okVal, okCell, cellsOf, fillN, rowsN, cellsN, bnd, lohi, offAt, overL, segL, leave, NodeOK, List.cons_append, List.nil_append, List.append_nil, catA, anys, lenA])
  simp only [zT8]
  refine aw_loopU (α := Nat) (fun k => k ≤ 8) (fun k => [(5, .int .i64 k)]) (fun k => [(2, .arr 49 (cellsT (l.take k ++ zT (8 - k))))]) (fun k => 8 - k) (0) (Nat.zero_le _) ?_ fun x hx => ?_
  · (simp only [wrC, wrOs, keepT, memN, setsL, setsO, setL, setO, snocO, List.cons_append, List.nil_append, List.append_nil, Nat.reduceAdd, Nat.zero_add, Wk, mtc, mtcS, mtcSL, mtc0, mtc0L, mtcL, mtcO, mtcOs, cutM, takeE, stA, rl, renV, renL, ren1, ren1L, ren, rens, renO, Nat.blt, lenO, getO, setO, setL, anys, tabA]; simp [tabA])
  (simp only [wrC, wrOs, keepT, memN, setsL, setsO, setL, setO, snocO, List.cons_append, List.nil_append, List.append_nil, Nat.reduceAdd, Nat.zero_add, tabA]; (refine eval_sound 2000 _ _ _ ?_; simp (maxSteps := 1000000) only [ptrL, lenV, Bool.not_true, Bool.not_false, lookR, valOf, asGrow, jump, findA, restA, and, Nat.reduceAdd, Nat.reduceSub, Nat.reduceMul, Int.reduceToNat, eval, nf, nfO, opN, appTo, rowsV, getL, setL, getO, setO, snocO, lenO, putL, ev, evs, ifEq, killV, killL, kill1, kill1L, kill, kills, killO, killOs, bin, binI, binS, binB, eq1, eqB, lit, sameK, kn, unI, mxA, mnA, mkAgg, fits, partN, partA, resN, retV, allVal, isVal, allCell, isCell, okVal, okCell, cellsOf, fillN, rowsN, cellsN, bnd, lohi, offAt, overL, segL, leave, NodeOK, List.cons_append, List.nil_append, List.append_nil, catA, anys, lenA]))
  simp only [decide_eq_true_eq, decide_eq_false_iff_not]
  refine ⟨fun h4 => ?_, fun h4 => ?_⟩
  · have hk : x < l.length := by omega
    obtain ⟨c, hc⟩ : ∃ c, l[x]? = some c := ⟨_, List.getElem?_eq_getElem hk⟩
    have hsg := seg_tab l x c hc
    have hlt : (l.take x).length = x := by simp; omega
    have hov := over_tab (l.take x ++ zT (8 - x)) x c.1 c.2 (by simp [zT]; omega)
    have hset := set_mid (l.take x) 8 c (by omega)
    rw [hlt] at hset
    have ht : l.take (x + 1) = l.take x ++ [c] := by rw [List.take_add_one, hc]; rfl
    rw [show ((c.1, c.2) : Int × Int) = c from rfl, hset, ← ht] at hov
    simp only [Int.toNat_natCast, Nat.zero_add, hsg, hov]
    rw [wr64 (n := (x : Int) + 1) (by omega) (by omega)]
    refine ⟨⟨by omega, by omega⟩, by omega, ⟨by omega, by omega⟩, by simp, by rw [cellsT_len]; simp [zT]; omega, x + 1, by omega, by omega, ?_⟩
    (simp only [wrC, wrOs, keepT, memN, setsL, setsO, setL, setO, snocO, List.cons_append, List.nil_append, List.append_nil, Nat.reduceAdd, Nat.zero_add, Wk, mtc, mtcS, mtcSL, mtc0, mtc0L, mtcL, mtcO, mtcOs, cutM, takeE, stA, rl, renV, renL, ren1, ren1L, ren, rens, renO, Nat.blt, lenO, getO, setO, setL, anys, tabA]; simp [tabA])
  · have : x = 8 := by omega
    subst this
    have e : l.take 8 ++ zT (8 - 8) = l := by rw [List.take_of_length_le (by omega)]; simp [zT]
    simp only [e, seg_all hcl, fits8, overL_all (show (cellsT l).length = (cellsT (zT 8)).length by rw [hcl]; rfl), NodeOK]
    refine ⟨by omega, hcl, by omega, ?_⟩
    ((repeat (with_reducible refine And.intro ?_ ?_; focus (simp; done))); refine ⟨[], rfl, _, _, ?_, ?_, rfl, rfl⟩ <;> simp [Wk, mtc, mtcS, mtcSL, mtc0, mtc0L, mtcL, mtcO, mtcOs, cutM, takeE, stA, rl, renV, renL, ren1, ren1L, ren, rens, renO, Nat.blt, lenO, getO, setO, setL, anys, okS, endM, endH, idxN, takeE, pickE, catO, rl, renV, renL, ren1, ren1L, ren, rens, renO, Nat.blt, lenO, getO, setO, setL, anys, tabA])
def imC (m : Mk) (s : ByteArray) (t : List (Int × Int)) : List AV := .int .u64 m.l :: .int .u64 m.b :: .str s :: cellsT t
def imA (m : Mk) (s : ByteArray) (t : List (Int × Int)) : AV := .arr (imC m s t)
theorem t8 {t : List (Int × Int)} (h : t.length = 8) : ∃ a b c d e f g i, t = [a, b, c, d, e, f, g, i] := by
  match t, h with
  | [a, b, c, d, e, f, g, i], _ => exact ⟨a, b, c, d, e, f, g, i, rfl⟩
theorem cellsT8 (a b c d e f g i : Int × Int) : cellsT [a, b, c, d, e, f, g, i] = [.int .u64 a.1, .int .u16 a.2, .int .u64 b.1, .int .u16 b.2, .int .u64 c.1, .int .u16 c.2, .int .u64 d.1, .int .u16 d.2, .int .u64 e.1, .int .u16 e.2, .int .u64 f.1, .int .u16 f.2, .int .u64 g.1, .int .u16 g.2, .int .u64 i.1, .int .u16 i.2] := rfl
theorem divS (n : Nat) : ((n : Int)).tdiv 8 = ((n / 8 : Nat) : Int) := by rw [Int.tdiv_eq_ediv_of_nonneg (by omega)]; rfl
theorem wr32N' {n : Nat} (h : n < 4294967296) : IntKind.u32.wrap (n : Int) = n := IntWalk.u32_in _ ⟨by omega, by omega⟩
theorem blocks_c (m : Mk) (s : ByteArray) (hs : s.size ≤ 3000) (t : List (Int × Int)) (ht : t.length = 8) : ACalls Tryd.prog 45 [imA m s t] [] (fun r hs => r = .int .u32 (s.size / 8 : Nat) ∧ hs = []) := by
  obtain ⟨a, b, c, d, e, f, g, i, rfl⟩ := t8 ht
  simp only [imA, imC, cellsT8]
  have hd := divS s.size
  refine acalls_weak (acalls_of (fn := Tryd.f45) (A := a45) Tryd.func45 ok_45 en_45 ?_)
  dsimp only [a45, cellsT8]
  (refine eval_sound 2000 _ _ _ ?_; simp (maxSteps := 1000000) only [ptrL, lenV, Bool.not_true, Bool.not_false, lookR, valOf, asGrow, jump, findA, restA, and, Nat.reduceAdd, Nat.reduceSub, Nat.reduceMul, Int.reduceToNat, eval, nf, nfO, opN, appTo, rowsV, getL, setL, getO, setO, snocO, lenO, putL, ev, evs, ifEq, killV, killL, kill1, kill1L, kill, kills, killO, killOs, bin, binI, binS, binB, eq1, eqB, lit, sameK, kn, unI, mxA, mnA, mkAgg, fits, partN, partA, resN, retV, allVal, isVal, allCell, isCell, okVal, okCell, cellsOf, fillN, rowsN, cellsN, bnd, lohi, offAt, overL, segL, leave, NodeOK, List.cons_append, List.nil_append, List.append_nil, catA, anys, lenA])
  rw [hd]
  refine ⟨by omega, ?_⟩
  rw [wr64 (n := ((s.size / 8 : Nat) : Int)) (by omega) (by omega), wr32N' (by omega)]
  ((repeat (with_reducible refine And.intro ?_ ?_; focus (simp; done))); refine ⟨[], rfl, _, _, ?_, ?_, rfl, rfl⟩ <;> simp [Wk, mtc, mtcS, mtcSL, mtc0, mtc0L, mtcL, mtcO, mtcOs, cutM, takeE, stA, rl, renV, renL, ren1, ren1L, ren, rens, renO, Nat.blt, lenO, getO, setO, setL, anys, okS, endM, endH, idxN, takeE, pickE, catO, rl, renV, renL, ren1, ren1L, ren, rens, renO, Nat.blt, lenO, getO, setO, setL, anys, cellsT8])
theorem plain_i (m : Mk) (s : ByteArray) (t : List (Int × Int)) (ht : t.length = 8) : ACalls Tryd.prog 11 [imA m s t] [] (fun r hs => r = imA m s t ∧ hs = []) := by
  obtain ⟨a, b, c, d, e, f, g, i, rfl⟩ := t8 ht
  have hp := plain_c [a, b, c, d, e, f, g, i] rfl
  simp only [imA, imC, cellsT8]
  simp only [tabA, cellsT8] at hp
  refine acalls_weak (acalls_of (fn := Tryd.f11) (A := a11) Tryd.func11 ok_11 en_11 ?_)
  dsimp only [a11, cellsT8]
  (refine eval_sound 2000 _ _ _ ?_; simp (maxSteps := 1000000) only [ptrL, lenV, Bool.not_true, Bool.not_false, lookR, valOf, asGrow, jump, findA, restA, and, Nat.reduceAdd, Nat.reduceSub, Nat.reduceMul, Int.reduceToNat, eval, nf, nfO, opN, appTo, rowsV, getL, setL, getO, setO, snocO, lenO, putL, ev, evs, ifEq, killV, killL, kill1, kill1L, kill, kills, killO, killOs, bin, binI, binS, binB, eq1, eqB, lit, sameK, kn, unI, mxA, mnA, mkAgg, fits, partN, partA, resN, retV, allVal, isVal, allCell, isCell, okVal, okCell, cellsOf, fillN, rowsN, cellsN, bnd, lohi, offAt, overL, segL, leave, NodeOK, List.cons_append, List.nil_append, List.append_nil, catA, anys, lenA])
  refine aw_dregA (show Tryd.prog.follows .mixedOrders = true by kernel_rfl) 2 [(6, ⟨.arr [.int .u64 a.1, .int .u16 a.2, .int .u64 b.1, .int .u16 b.2, .int .u64 c.1, .int .u16 c.2, .int .u64 d.1, .int .u16 d.2, .int .u64 e.1, .int .u16 e.2, .int .u64 f.1, .int .u16 f.2, .int .u64 g.1, .int .u16 g.2, .int .u64 i.1, .int .u16 i.2], [], [], []⟩), (7, ⟨.arr [.int .u64 m.l, .int .u64 m.b, .str s, .int .u64 a.1, .int .u16 a.2, .int .u64 b.1, .int .u16 b.2, .int .u64 c.1, .int .u16 c.2, .int .u64 d.1, .int .u16 d.2, .int .u64 e.1, .int .u16 e.2, .int .u64 f.1, .int .u16 f.2, .int .u64 g.1, .int .u16 g.2, .int .u64 i.1, .int .u16 i.2], [], [], []⟩), (8, ⟨.any, [(1, .arr 51 [.int .u64 m.l, .int .u64 m.b, .str s, .int .u64 a.1, .int .u16 a.2, .int .u64 b.1, .int .u16 b.2, .int .u64 c.1, .int .u16 c.2, .int .u64 d.1, .int .u16 d.2, .int .u64 e.1, .int .u16 e.2, .int .u64 f.1, .int .u16 f.2, .int .u64 g.1, .int .u16 g.2, .int .u64 i.1, .int .u16 i.2])], [], []⟩)] ?_ ?_ ?_
  · kernel_rfl
  · (simp only [tkO, dpO, tkN, AllOps, OpOK, mkR, autoV, autoR, labV, lkD, vOf, preT, preO, setTs, preV, wrt, memN, usesO, usesT, opT, optT, opsT, ptsT, setHs, objF, updD, newO, lkO, lkF, keysO, keysF, visN, deads, getL, setL, getO, setO, lenO, lenA, anys, setDs, setWr, setFr, endO, catD, List.getD_cons_zero, List.getD_cons_succ, List.getElem?_cons_zero, List.getElem?_cons_succ, List.cons_append, List.nil_append, List.append_nil, Nat.reduceAdd, Nat.reduceSub, ptrL, lenV, Bool.not_true, Bool.not_false, lookR, valOf, asGrow, jump, findA, restA, and, Nat.reduceAdd, Nat.reduceSub, Nat.reduceMul, Int.reduceToNat, eval, nf, nfO, opN, appTo, rowsV, getL, setL, getO, setO, snocO, lenO, putL, ev, evs, ifEq, killV, killL, kill1, kill1L, kill, kills, killO, killOs, bin, binI, binS, binB, eq1, eqB, lit, sameK, kn, unI, mxA, mnA, mkAgg, fits, partN, partA, resN, retV, allVal, isVal, allCell, isCell, okVal, okCell, cellsOf, fillN, rowsN, cellsN, bnd, lohi, offAt, overL, segL, leave, NodeOK, List.cons_append, List.nil_append, List.append_nil, catA, anys, lenA]; and_intros) <;> (first | exact trivial | ((refine eval_sound 2000 _ _ _ ?_; simp (maxSteps := 1000000) only [ptrL, lenV, Bool.not_true, Bool.not_false, lookR, valOf, asGrow, jump, findA, restA, and, Nat.reduceAdd, Nat.reduceSub, Nat.reduceMul, Int.reduceToNat, eval, nf, nfO, opN, appTo, rowsV, getL, setL, getO, setO, snocO, lenO, putL, ev, evs, ifEq, killV, killL, kill1, kill1L, kill, kills, killO, killOs, bin, binI, binS, binB, eq1, eqB, lit, sameK, kn, unI, mxA, mnA, mkAgg, fits, partN, partA, resN, retV, allVal, isVal, allCell, isCell, okVal, okCell, cellsOf, fillN, rowsN, cellsN, bnd, lohi, offAt, overL, segL, leave, NodeOK, List.cons_append, List.nil_append, List.append_nil, catA, anys, lenA]); try simp only [JR, dstOK, wrOK, frOK, rdOK, getL, getO]; try simp only [JR, dstOK, wrOK, frOK, rdOK, sig, sigF, isGrowB, mtc, mtcS, mtcSL, mtc0, mtc0L, mtcO, mtcL, memN, Nat.blt, rl, renV, renL, ren1, ren1L, ren, rens, renO, Nat.blt, lenO, getO, setO, setL, anys]; try simp))
    (refine aw_call (hp) [] rfl (by simp [upM, nthN, matchO, rens, ren, ren1, ren1L, renL, renV, renO, rl, lenO, getO, Nat.blt, mtc, mtcS, mtcSL, mtc0, mtc0L, cellsT8]) rfl (by simp [upM, nthN, matchO, rens, ren, ren1, ren1L, renL, renV, renO, rl, lenO, getO, Nat.blt, mtc, mtcS, mtcSL, mtc0, mtc0L, cellsT8]) rfl (fun r hs hp hl => ?_); obtain ⟨rfl, rfl⟩ := hp; simp only [snocO, upM, nthN, putAll, snocAll, killsA, killOsA, grows, putL, rl, renV, renL, ren1, ren1L, ren, rens, renO, Nat.blt, lenO, getO, setO, setL, anys, cellsT8]; (refine eval_sound 2000 _ _ _ ?_; simp (maxSteps := 1000000) only [ptrL, lenV, Bool.not_true, Bool.not_false, lookR, valOf, asGrow, jump, findA, restA, and, Nat.reduceAdd, Nat.reduceSub, Nat.reduceMul, Int.reduceToNat, eval, nf, nfO, opN, appTo, rowsV, getL, setL, getO, setO, snocO, lenO, putL, ev, evs, ifEq, killV, killL, kill1, kill1L, kill, kills, killO, killOs, bin, binI, binS, binB, eq1, eqB, lit, sameK, kn, unI, mxA, mnA, mkAgg, fits, partN, partA, resN, retV, allVal, isVal, allCell, isCell, okVal, okCell, cellsOf, fillN, rowsN, cellsN, bnd, lohi, offAt, overL, segL, leave, NodeOK, List.cons_append, List.nil_append, List.append_nil, catA, anys, lenA]); (try simp only [JR, dstOK, wrOK, frOK, rdOK, getL, getO]); (try simp only [JR, dstOK, wrOK, frOK, rdOK, sig, sigF, isGrowB, mtc, mtcS, mtcSL, mtc0, mtc0L, mtcO, mtcL, memN, Nat.blt, rl, renV, renL, ren1, ren1L, ren, rens, renO, Nat.blt, lenO, getO, setO, setL, anys, cellsT8]); try simp)
  · (simp only [tkO, dpO, tkN, AllOps, OpOK, mkR, autoV, autoR, labV, lkD, vOf, preT, preO, setTs, preV, wrt, memN, usesO, usesT, opT, optT, opsT, ptsT, setHs, objF, updD, newO, lkO, lkF, keysO, keysF, visN, deads, getL, setL, getO, setO, lenO, lenA, anys, setDs, setWr, setFr, endO, catD, List.getD_cons_zero, List.getD_cons_succ, List.getElem?_cons_zero, List.getElem?_cons_succ, List.cons_append, List.nil_append, List.append_nil, Nat.reduceAdd, Nat.reduceSub, ptrL, lenV, Bool.not_true, Bool.not_false, lookR, valOf, asGrow, jump, findA, restA, and, Nat.reduceAdd, Nat.reduceSub, Nat.reduceMul, Int.reduceToNat, eval, nf, nfO, opN, appTo, rowsV, getL, setL, getO, setO, snocO, lenO, putL, ev, evs, ifEq, killV, killL, kill1, kill1L, kill, kills, killO, killOs, bin, binI, binS, binB, eq1, eqB, lit, sameK, kn, unI, mxA, mnA, mkAgg, fits, partN, partA, resN, retV, allVal, isVal, allCell, isCell, okVal, okCell, cellsOf, fillN, rowsN, cellsN, bnd, lohi, offAt, overL, segL, leave, NodeOK, List.cons_append, List.nil_append, List.append_nil, catA, anys, lenA]; (refine eval_sound 2000 _ _ _ ?_; simp (maxSteps := 1000000) only [ptrL, lenV, Bool.not_true, Bool.not_false, lookR, valOf, asGrow, jump, findA, restA, and, Nat.reduceAdd, Nat.reduceSub, Nat.reduceMul, Int.reduceToNat, eval, nf, nfO, opN, appTo, rowsV, getL, setL, getO, setO, snocO, lenO, putL, ev, evs, ifEq, killV, killL, kill1, kill1L, kill, kills, killO, killOs, bin, binI, binS, binB, eq1, eqB, lit, sameK, kn, unI, mxA, mnA, mkAgg, fits, partN, partA, resN, retV, allVal, isVal, allCell, isCell, okVal, okCell, cellsOf, fillN, rowsN, cellsN, bnd, lohi, offAt, overL, segL, leave, NodeOK, List.cons_append, List.nil_append, List.append_nil, catA, anys, lenA]))
    ((repeat (with_reducible refine And.intro ?_ ?_; focus (simp; done))); refine ⟨[], rfl, _, _, ?_, ?_, rfl, rfl⟩ <;> simp [Wk, mtc, mtcS, mtcSL, mtc0, mtc0L, mtcL, mtcO, mtcOs, cutM, takeE, stA, rl, renV, renL, ren1, ren1L, ren, rens, renO, Nat.blt, lenO, getO, setO, setL, anys, okS, endM, endH, idxN, takeE, pickE, catO, rl, renV, renL, ren1, ren1L, ren, rens, renO, Nat.blt, lenO, getO, setO, setL, anys, cellsT8])
theorem ByteL.app {a b : List Int} (ha : ByteL a) (hb : ByteL b) : ByteL (a ++ b) := fun x hx => (List.mem_append.1 hx).elim (ha x) (hb x)
theorem nmI_app (a b : ByteArray) : nmI (a ++ b) = nmI a ++ nmI b := by
  unfold nmI
  rw [ByteArray.data_append, Array.toList_append, List.map_append]
theorem nmI_ext (s : ByteArray) (i j : Nat) : nmI (s.extract i j) = ((nmI s).drop i).take (j - i) := by
  unfold nmI
  rw [ByteArray.data_extract, Array.toList_extract]
  simp [List.extract, List.map_take, List.map_drop]
theorem nmI_inj {a b : ByteArray} (h : nmI a = nmI b) : a = b := by rw [← strOf_nm a, ← strOf_nm b, h]
/-- What is written, as bytes. -/
def wrI (L D : List Int) (F C : Nat) : List Int := L.take (8 * F) ++ D ++ L.drop (8 * F + 8 * C)
def okP (s : ByteArray) (F C : Nat) : Bool := decide (0 < C ∧ F + C ≤ s.size / 8)
def putB (s d : ByteArray) (F C : Nat) : ByteArray := if okP s F C = true ∧ d.size = 8 * C then strOf (u8s (wrI (nmI s) (nmI d) F C)) else s
def putE (s d : ByteArray) (F C : Nat) : Int := if okP s F C = true then if d.size = 8 * C then 0 else 2 else 30
theorem end_c (F C : Nat) (hF : F < 4294967296) (hC : C < 4294967296) : ACalls Tryd.prog 61 [.arr [.int .u32 F, .int .u32 C]] [] (fun r hs => r = .int .u64 (F + C : Nat) ∧ hs = []) := by
  refine acalls_weak (acalls_of (fn := Tryd.f61) (A := a61) Tryd.func61 ok_61 en_61 ?_)
  dsimp only [a61, cellsT8]
  (refine eval_sound 2000 _ _ _ ?_; simp (maxSteps := 1000000) only [ptrL, lenV, Bool.not_true, Bool.not_false, lookR, valOf, asGrow, jump, findA, restA, and, Nat.reduceAdd, Nat.reduceSub, Nat.reduceMul, Int.reduceToNat, eval, nf, nfO, opN, appTo, rowsV, getL, setL, getO, setO, snocO, lenO, putL, ev, evs, ifEq, killV, killL, kill1, kill1L, kill, kills, killO, killOs, bin, binI, binS, binB, eq1, eqB, lit, sameK, kn, unI, mxA, mnA, mkAgg, fits, partN, partA, resN, retV, allVal, isVal, allCell, isCell, okVal, okCell, cellsOf, fillN, rowsN, cellsN, bnd, lohi, offAt, overL, segL, leave, NodeOK, List.cons_append, List.nil_append, List.append_nil, catA, anys, lenA])
  rw [wruN (n := F) (by omega), wruN (n := C) (by omega), show (F : Int) + (C : Int) = ((F + C : Nat) : Int) by omega, wruN (n := F + C) (by omega)]
  ((repeat (with_reducible refine And.intro ?_ ?_; focus (simp; done))); refine ⟨[], rfl, _, _, ?_, ?_, rfl, rfl⟩ <;> simp [Wk, mtc, mtcS, mtcSL, mtc0, mtc0L, mtcL, mtcO, mtcOs, cutM, takeE, stA, rl, renV, renL, ren1, ren1L, ren, rens, renO, Nat.blt, lenO, getO, setO, setL, anys, okS, endM, endH, idxN, takeE, pickE, catO, rl, renV, renL, ren1, ren1L, ren, rens, renO, Nat.blt, lenO, getO, setO, setL, anys, cellsT8])
theorem sgood_c (F C N : Nat) (hF : F < 4294967296) (hC : C < 4294967296) (hN : N < 4294967296) : ACalls Tryd.prog 44 [.arr [.int .u32 F, .int .u32 C], .int .u32 N] [] (fun r hs => r = .bool (decide (0 < C ∧ F + C ≤ N)) ∧ hs = []) := by
  have he := end_c F C hF hC
  refine acalls_weak (acalls_of (fn := Tryd.f44) (A := a44) Tryd.func44 ok_44 en_44 ?_)
  dsimp only [a44, cellsT8]
  (refine eval_sound 2000 _ _ _ ?_; simp (maxSteps := 1000000) only [ptrL, lenV, Bool.not_true, Bool.not_false, lookR, valOf, asGrow, jump, findA, restA, and, Nat.reduceAdd, Nat.reduceSub, Nat.reduceMul, Int.reduceToNat, eval, nf, nfO, opN, appTo, rowsV, getL, setL, getO, setO, snocO, lenO, putL, ev, evs, ifEq, killV, killL, kill1, kill1L, kill, kills, killO, killOs, bin, binI, binS, binB, eq1, eqB, lit, sameK, kn, unI, mxA, mnA, mkAgg, fits, partN, partA, resN, retV, allVal, isVal, allCell, isCell, okVal, okCell, cellsOf, fillN, rowsN, cellsN, bnd, lohi, offAt, overL, segL, leave, NodeOK, List.cons_append, List.nil_append, List.append_nil, catA, anys, lenA])
  simp only [decide_eq_true_eq, decide_eq_false_iff_not]
  refine ⟨fun h => ?_, fun h => ?_⟩
  · ((repeat (with_reducible refine And.intro ?_ ?_; focus (simp; done))); refine aw_call (he) [] rfl (by simp [upM, nthN, matchO, rens, ren, ren1, ren1L, renL, renV, renO, rl, lenO, getO, Nat.blt, mtc, mtcS, mtcSL, mtc0, mtc0L, cellsT8]) rfl (by simp [upM, nthN, matchO, rens, ren, ren1, ren1L, renL, renV, renO, rl, lenO, getO, Nat.blt, mtc, mtcS, mtcSL, mtc0, mtc0L, cellsT8]) rfl (fun r hs hp hl => ?_); obtain ⟨rfl, rfl⟩ := hp; simp only [snocO, upM, nthN, putAll, snocAll, killsA, killOsA, grows, putL, rl, renV, renL, ren1, ren1L, ren, rens, renO, Nat.blt, lenO, getO, setO, setL, anys, cellsT8]; (refine eval_sound 2000 _ _ _ ?_; simp (maxSteps := 1000000) only [ptrL, lenV, Bool.not_true, Bool.not_false, lookR, valOf, asGrow, jump, findA, restA, and, Nat.reduceAdd, Nat.reduceSub, Nat.reduceMul, Int.reduceToNat, eval, nf, nfO, opN, appTo, rowsV, getL, setL, getO, setO, snocO, lenO, putL, ev, evs, ifEq, killV, killL, kill1, kill1L, kill, kills, killO, killOs, bin, binI, binS, binB, eq1, eqB, lit, sameK, kn, unI, mxA, mnA, mkAgg, fits, partN, partA, resN, retV, allVal, isVal, allCell, isCell, okVal, okCell, cellsOf, fillN, rowsN, cellsN, bnd, lohi, offAt, overL, segL, leave, NodeOK, List.cons_append, List.nil_append, List.append_nil, catA, anys, lenA]))
    rw [wruN (n := N) (by omega)]
    have : decide (0 < C ∧ F + C ≤ N) = decide (((F + C : Nat) : Int) ≤ (N : Int)) := decide_eq_decide.2 (by omega)
    rw [this]
    ((repeat (with_reducible refine And.intro ?_ ?_; focus (simp; done))); refine ⟨[], rfl, _, _, ?_, ?_, rfl, rfl⟩ <;> simp [Wk, mtc, mtcS, mtcSL, mtc0, mtc0L, mtcL, mtcO, mtcOs, cutM, takeE, stA, rl, renV, renL, ren1, ren1L, ren, rens, renO, Nat.blt, lenO, getO, setO, setL, anys, okS, endM, endH, idxN, takeE, pickE, catO, rl, renV, renL, ren1, ren1L, ren, rens, renO, Nat.blt, lenO, getO, setO, setL, anys, cellsT8])
  · have : decide (0 < C ∧ F + C ≤ N) = false := decide_eq_false (by omega)
    rw [this]
    ((repeat (with_reducible refine And.intro ?_ ?_; focus (simp; done))); refine ⟨[], rfl, _, _, ?_, ?_, rfl, rfl⟩ <;> simp [Wk, mtc, mtcS, mtcSL, mtc0, mtc0L, mtcL, mtcO, mtcOs, cutM, takeE, stA, rl, renV, renL, ren1, ren1L, ren, rens, renO, Nat.blt, lenO, getO, setO, setL, anys, okS, endM, endH, idxN, takeE, pickE, catO, rl, renV, renL, ren1, ren1L, ren, rens, renO, Nat.blt, lenO, getO, setO, setL, anys, cellsT8])
theorem put_i (m : Mk) (s : ByteArray) (hs : s.size ≤ 3000) (t : List (Int × Int)) (ht : t.length = 8) (F C : Nat) (hF : F < 4294967296) (hC : C < 4294967296) (d : ByteArray) (hd : d.size ≤ 20000) :
    ACalls Tryd.prog 25 [imA m s t, .arr [.int .u32 F, .int .u32 C], .str d] [] (fun r hs => r = .tup [imA m (putB s d F C) t, .int .i64 (putE s d F C)] ∧ hs = []) := by
  obtain ⟨a, b, c, d', e, f, g, i, rfl⟩ := t8 ht
  have hb := blocks_c m s hs [a, b, c, d', e, f, g, i] rfl
  have hg := sgood_c F C (s.size / 8) hF hC (by omega)
  rw [show decide (0 < C ∧ F + C ≤ s.size / 8) = okP s F C from rfl] at hg
  have hB : putB s d F C = if okP s F C = true ∧ d.size = 8 * C then strOf (u8s (wrI (nmI s) (nmI d) F C)) else s := rfl
  have hE : putE s d F C = if okP s F C = true then if d.size = 8 * C then 0 else 2 else 30 := rfl
  have hok : okP s F C = true → 0 < C ∧ F + C ≤ s.size / 8 := fun h => by unfold okP at h; simpa using h
  generalize putB s d F C = B at *
  generalize putE s d F C = E at *
  generalize okP s F C = O at *
  simp only [imA, imC, cellsT8] at *
  refine acalls_weak (acalls_of (fn := Tryd.f25) (A := a25) Tryd.func25 ok_25 en_25 ?_)
  dsimp only [a25, cellsT8]
  (refine eval_sound 2000 _ _ _ ?_; simp (maxSteps := 1000000) only [ptrL, lenV, Bool.not_true, Bool.not_false, lookR, valOf, asGrow, jump, findA, restA, and, Nat.reduceAdd, Nat.reduceSub, Nat.reduceMul, Int.reduceToNat, eval, nf, nfO, opN, appTo, rowsV, getL, setL, getO, setO, snocO, lenO, putL, ev, evs, ifEq, killV, killL, kill1, kill1L, kill, kills, killO, killOs, bin, binI, binS, binB, eq1, eqB, lit, sameK, kn, unI, mxA, mnA, mkAgg, fits, partN, partA, resN, retV, allVal, isVal, allCell, isCell, okVal, okCell, cellsOf, fillN, rowsN, cellsN, bnd, lohi, offAt, overL, segL, leave, NodeOK, List.cons_append, List.nil_append, List.append_nil, catA, anys, lenA])
  refine aw_dregA (show Tryd.prog.follows .mixedOrders = true by kernel_rfl) 3 [(2, ⟨.int .u32 (s.size / 8 : Nat), [], [], []⟩), (3, ⟨.bool O, [], [], []⟩)] ?_ ?_ ?_
  · kernel_rfl
  · (simp only [tkO, dpO, tkN, AllOps, OpOK, mkR, autoV, autoR, labV, lkD, vOf, preT, preO, setTs, preV, wrt, memN, usesO, usesT, opT, optT, opsT, ptsT, setHs, objF, updD, newO, lkO, lkF, keysO, keysF, visN, deads, getL, setL, getO, setO, lenO, lenA, anys, setDs, setWr, setFr, endO, catD, List.getD_cons_zero, List.getD_cons_succ, List.getElem?_cons_zero, List.getElem?_cons_succ, List.cons_append, List.nil_append, List.append_nil, Nat.reduceAdd, Nat.reduceSub, ptrL, lenV, Bool.not_true, Bool.not_false, lookR, valOf, asGrow, jump, findA, restA, and, Nat.reduceAdd, Nat.reduceSub, Nat.reduceMul, Int.reduceToNat, eval, nf, nfO, opN, appTo, rowsV, getL, setL, getO, setO, snocO, lenO, putL, ev, evs, ifEq, killV, killL, kill1, kill1L, kill, kills, killO, killOs, bin, binI, binS, binB, eq1, eqB, lit, sameK, kn, unI, mxA, mnA, mkAgg, fits, partN, partA, resN, retV, allVal, isVal, allCell, isCell, okVal, okCell, cellsOf, fillN, rowsN, cellsN, bnd, lohi, offAt, overL, segL, leave, NodeOK, List.cons_append, List.nil_append, List.append_nil, catA, anys, lenA]; and_intros) <;> (first | exact trivial | ((refine eval_sound 2000 _ _ _ ?_; simp (maxSteps := 1000000) only [ptrL, lenV, Bool.not_true, Bool.not_false, lookR, valOf, asGrow, jump, findA, restA, and, Nat.reduceAdd, Nat.reduceSub, Nat.reduceMul, Int.reduceToNat, eval, nf, nfO, opN, appTo, rowsV, getL, setL, getO, setO, snocO, lenO, putL, ev, evs, ifEq, killV, killL, kill1, kill1L, kill, kills, killO, killOs, bin, binI, binS, binB, eq1, eqB, lit, sameK, kn, unI, mxA, mnA, mkAgg, fits, partN, partA, resN, retV, allVal, isVal, allCell, isCell, okVal, okCell, cellsOf, fillN, rowsN, cellsN, bnd, lohi, offAt, overL, segL, leave, NodeOK, List.cons_append, List.nil_append, List.append_nil, catA, anys, lenA]); try simp only [JR, dstOK, wrOK, frOK, rdOK, getL, getO]; try simp only [JR, dstOK, wrOK, frOK, rdOK, sig, sigF, isGrowB, mtc, mtcS, mtcSL, mtc0, mtc0L, mtcO, mtcL, memN, Nat.blt, rl, renV, renL, ren1, ren1L, ren, rens, renO, Nat.blt, lenO, getO, setO, setL, anys]; try simp))
    · (refine aw_call (hb) [] rfl (by simp [upM, nthN, matchO, rens, ren, ren1, ren1L, renL, renV, renO, rl, lenO, getO, Nat.blt, mtc, mtcS, mtcSL, mtc0, mtc0L, cellsT8]) rfl (by simp [upM, nthN, matchO, rens, ren, ren1, ren1L, renL, renV, renO, rl, lenO, getO, Nat.blt, mtc, mtcS, mtcSL, mtc0, mtc0L, cellsT8]) rfl (fun r hs hp hl => ?_); obtain ⟨rfl, rfl⟩ := hp; simp only [snocO, upM, nthN, putAll, snocAll, killsA, killOsA, grows, putL, rl, renV, renL, ren1, ren1L, ren, rens, renO, Nat.blt, lenO, getO, setO, setL, anys, cellsT8]; (refine eval_sound 2000 _ _ _ ?_; simp (maxSteps := 1000000) only [ptrL, lenV, Bool.not_true, Bool.not_false, lookR, valOf, asGrow, jump, findA, restA, and, Nat.reduceAdd, Nat.reduceSub, Nat.reduceMul, Int.reduceToNat, eval, nf, nfO, opN, appTo, rowsV, getL, setL, getO, setO, snocO, lenO, putL, ev, evs, ifEq, killV, killL, kill1, kill1L, kill, kills, killO, killOs, bin, binI, binS, binB, eq1, eqB, lit, sameK, kn, unI, mxA, mnA, mkAgg, fits, partN, partA, resN, retV, allVal, isVal, allCell, isCell, okVal, okCell, cellsOf, fillN, rowsN, cellsN, bnd, lohi, offAt, overL, segL, leave, NodeOK, List.cons_append, List.nil_append, List.append_nil, catA, anys, lenA]); (try simp only [JR, dstOK, wrOK, frOK, rdOK, getL, getO]); (try simp only [JR, dstOK, wrOK, frOK, rdOK, sig, sigF, isGrowB, mtc, mtcS, mtcSL, mtc0, mtc0L, mtcO, mtcL, memN, Nat.blt, rl, renV, renL, ren1, ren1L, ren, rens, renO, Nat.blt, lenO, getO, setO, setL, anys, cellsT8]); try simp)
    · (refine aw_call (hg) [] rfl (by simp [upM, nthN, matchO, rens, ren, ren1, ren1L, renL, renV, renO, rl, lenO, getO, Nat.blt, mtc, mtcS, mtcSL, mtc0, mtc0L, cellsT8]) rfl (by simp [upM, nthN, matchO, rens, ren, ren1, ren1L, renL, renV, renO, rl, lenO, getO, Nat.blt, mtc, mtcS, mtcSL, mtc0, mtc0L, cellsT8]) rfl (fun r hs hp hl => ?_); obtain ⟨rfl, rfl⟩ := hp; simp only [snocO, upM, nthN, putAll, snocAll, killsA, killOsA, grows, putL, rl, renV, renL, ren1, ren1L, ren, rens, renO, Nat.blt, lenO, getO, setO, setL, anys, cellsT8]; (refine eval_sound 2000 _ _ _ ?_; simp (maxSteps := 1000000) only [ptrL, lenV, Bool.not_true, Bool.not_false, lookR, valOf, asGrow, jump, findA, restA, and, Nat.reduceAdd, Nat.reduceSub, Nat.reduceMul, Int.reduceToNat, eval, nf, nfO, opN, appTo, rowsV, getL, setL, getO, setO, snocO, lenO, putL, ev, evs, ifEq, killV, killL, kill1, kill1L, kill, kills, killO, killOs, bin, binI, binS, binB, eq1, eqB, lit, sameK, kn, unI, mxA, mnA, mkAgg, fits, partN, partA, resN, retV, allVal, isVal, allCell, isCell, okVal, okCell, cellsOf, fillN, rowsN, cellsN, bnd, lohi, offAt, overL, segL, leave, NodeOK, List.cons_append, List.nil_append, List.append_nil, catA, anys, lenA]); (try simp only [JR, dstOK, wrOK, frOK, rdOK, getL, getO]); (try simp only [JR, dstOK, wrOK, frOK, rdOK, sig, sigF, isGrowB, mtc, mtcS, mtcSL, mtc0, mtc0L, mtcO, mtcL, memN, Nat.blt, rl, renV, renL, ren1, ren1L, ren, rens, renO, Nat.blt, lenO, getO, setO, setL, anys, cellsT8]); try simp)
  · (simp only [tkO, dpO, tkN, AllOps, OpOK, mkR, autoV, autoR, labV, lkD, vOf, preT, preO, setTs, preV, wrt, memN, usesO, usesT, opT, optT, opsT, ptsT, setHs, objF, updD, newO, lkO, lkF, keysO, keysF, visN, deads, getL, setL, getO, setO, lenO, lenA, anys, setDs, setWr, setFr, endO, catD, List.getD_cons_zero, List.getD_cons_succ, List.getElem?_cons_zero, List.getElem?_cons_succ, List.cons_append, List.nil_append, List.append_nil, Nat.reduceAdd, Nat.reduceSub, ptrL, lenV, Bool.not_true, Bool.not_false, lookR, valOf, asGrow, jump, findA, restA, and, Nat.reduceAdd, Nat.reduceSub, Nat.reduceMul, Int.reduceToNat, eval, nf, nfO, opN, appTo, rowsV, getL, setL, getO, setO, snocO, lenO, putL, ev, evs, ifEq, killV, killL, kill1, kill1L, kill, kills, killO, killOs, bin, binI, binS, binB, eq1, eqB, lit, sameK, kn, unI, mxA, mnA, mkAgg, fits, partN, partA, resN, retV, allVal, isVal, allCell, isCell, okVal, okCell, cellsOf, fillN, rowsN, cellsN, bnd, lohi, offAt, overL, segL, leave, NodeOK, List.cons_append, List.nil_append, List.append_nil, catA, anys, lenA]; (refine eval_sound 2000 _ _ _ ?_; simp (maxSteps := 1000000) only [ptrL, lenV, Bool.not_true, Bool.not_false, lookR, valOf, asGrow, jump, findA, restA, and, Nat.reduceAdd, Nat.reduceSub, Nat.reduceMul, Int.reduceToNat, eval, nf, nfO, opN, appTo, rowsV, getL, setL, getO, setO, snocO, lenO, putL, ev, evs, ifEq, killV, killL, kill1, kill1L, kill, kills, killO, killOs, bin, binI, binS, binB, eq1, eqB, lit, sameK, kn, unI, mxA, mnA, mkAgg, fits, partN, partA, resN, retV, allVal, isVal, allCell, isCell, okVal, okCell, cellsOf, fillN, rowsN, cellsN, bnd, lohi, offAt, overL, segL, leave, NodeOK, List.cons_append, List.nil_append, List.append_nil, catA, anys, lenA]))
    refine ⟨fun h => ?_, fun h => ?_⟩
    · have hO : O = false := by simpa using h
      subst hO
      simp only [Bool.false_eq_true, false_and, if_false] at hB hE
      subst hB
      subst hE
      (repeat (with_reducible refine And.intro ?_ ?_; focus (simp; done)))
      ((repeat (with_reducible refine And.intro ?_ ?_; focus (simp; done))); refine ⟨[], rfl, _, _, ?_, ?_, rfl, rfl⟩ <;> simp [Wk, mtc, mtcS, mtcSL, mtc0, mtc0L, mtcL, mtcO, mtcOs, cutM, takeE, stA, rl, renV, renL, ren1, ren1L, ren, rens, renO, Nat.blt, lenO, getO, setO, setL, anys, okS, endM, endH, idxN, takeE, pickE, catO, rl, renV, renL, ren1, ren1L, ren, rens, renO, Nat.blt, lenO, getO, setO, setL, anys, cellsT8])
    · have hO : O = true := by simpa using h
      obtain ⟨o1, o2⟩ := hok hO
      subst hO
      simp only [true_and, if_true] at hB hE
      rw [wr64 (n := (C : Int)) (by omega) (by omega), wr64 (n := 8 * (C : Int)) (by omega) (by omega)]
      simp only [bne_iff_ne, ne_eq, bne_eq_false_iff_eq]
      refine ⟨fun h2 => ?_, fun h2 => ?_⟩
      · rw [if_neg (by omega)] at hB hE
        subst hB
        subst hE
        (repeat (with_reducible refine And.intro ?_ ?_; focus (simp; done)))
        ((repeat (with_reducible refine And.intro ?_ ?_; focus (simp; done))); refine ⟨[], rfl, _, _, ?_, ?_, rfl, rfl⟩ <;> simp [Wk, mtc, mtcS, mtcSL, mtc0, mtc0L, mtcL, mtcO, mtcOs, cutM, takeE, stA, rl, renV, renL, ren1, ren1L, ren, rens, renO, Nat.blt, lenO, getO, setO, setL, anys, okS, endM, endH, idxN, takeE, pickE, catO, rl, renV, renL, ren1, ren1L, ren, rens, renO, Nat.blt, lenO, getO, setO, setL, anys, cellsT8])
      · rw [if_pos (by omega)] at hB hE
        rw [wr64 (n := (F : Int)) (by omega) (by omega), wr64 (n := (F : Int) * 8) (by omega) (by omega)]
        have hcut : nmI (s.extract 0 (8 * F) ++ d ++ s.extract (8 * F + 8 * C) s.size) = wrI (nmI s) (nmI d) F C := by
          rw [nmI_app, nmI_app, nmI_ext, nmI_ext]
          unfold wrI
          rw [List.drop_zero, Nat.sub_zero, List.take_of_length_le (l := (nmI s).drop _) (by rw [List.length_drop, nmI_len]; omega)]
        have hBB : B = s.extract 0 (8 * F) ++ d ++ s.extract (8 * F + 8 * C) s.size := by rw [hB, ← hcut, strOf_nm]
        have hz1 : (s.extract 0 (8 * F)).size = 8 * F := by simp; omega
        refine aw_dregA (show Tryd.prog.follows .mixedOrders = true by kernel_rfl) 3 [(3, ⟨.str (s.extract 0 (8 * F)), [], [], []⟩), (5, ⟨.str (s.extract 0 (8 * F) ++ d), [], [], []⟩), (11, ⟨.int .i64 (8 * F + 8 * C : Nat), [], [], []⟩), (12, ⟨.str (s.extract (8 * F + 8 * C) s.size), [], [], []⟩), (13, ⟨.str B, [], [], []⟩), (15, ⟨.any, [(0, .arr 32 [.int .u64 m.l, .int .u64 m.b, .str B, .int .u64 a.1, .int .u16 a.2, .int .u64 b.1, .int .u16 b.2, .int .u64 c.1, .int .u16 c.2, .int .u64 d'.1, .int .u16 d'.2, .int .u64 e.1, .int .u16 e.2, .int .u64 f.1, .int .u16 f.2, .int .u64 g.1, .int .u16 g.2, .int .u64 i.1, .int .u16 i.2])], [], []⟩)] ?_ ?_ ?_
        · kernel_rfl
        · (simp only [tkO, dpO, tkN, AllOps, OpOK, mkR, autoV, autoR, labV, lkD, vOf, preT, preO, setTs, preV, wrt, memN, usesO, usesT, opT, optT, opsT, ptsT, setHs, objF, updD, newO, lkO, lkF, keysO, keysF, visN, deads, getL, setL, getO, setO, lenO, lenA, anys, setDs, setWr, setFr, endO, catD, List.getD_cons_zero, List.getD_cons_succ, List.getElem?_cons_zero, List.getElem?_cons_succ, List.cons_append, List.nil_append, List.append_nil, Nat.reduceAdd, Nat.reduceSub, ptrL, lenV, Bool.not_true, Bool.not_false, lookR, valOf, asGrow, jump, findA, restA, and, Nat.reduceAdd, Nat.reduceSub, Nat.reduceMul, Int.reduceToNat, eval, nf, nfO, opN, appTo, rowsV, getL, setL, getO, setO, snocO, lenO, putL, ev, evs, ifEq, killV, killL, kill1, kill1L, kill, kills, killO, killOs, bin, binI, binS, binB, eq1, eqB, lit, sameK, kn, unI, mxA, mnA, mkAgg, fits, partN, partA, resN, retV, allVal, isVal, allCell, isCell, okVal, okCell, cellsOf, fillN, rowsN, cellsN, bnd, lohi, offAt, overL, segL, leave, NodeOK, List.cons_append, List.nil_append, List.append_nil, catA, anys, lenA]; and_intros) <;> (first | exact trivial | ((refine eval_sound 2000 _ _ _ ?_; simp (maxSteps := 1000000) only [ptrL, lenV, Bool.not_true, Bool.not_false, lookR, valOf, asGrow, jump, findA, restA, and, Nat.reduceAdd, Nat.reduceSub, Nat.reduceMul, Int.reduceToNat, eval, nf, nfO, opN, appTo, rowsV, getL, setL, getO, setO, snocO, lenO, putL, ev, evs, ifEq, killV, killL, kill1, kill1L, kill, kills, killO, killOs, bin, binI, binS, binB, eq1, eqB, lit, sameK, kn, unI, mxA, mnA, mkAgg, fits, partN, partA, resN, retV, allVal, isVal, allCell, isCell, okVal, okCell, cellsOf, fillN, rowsN, cellsN, bnd, lohi, offAt, overL, segL, leave, NodeOK, List.cons_append, List.nil_append, List.append_nil, catA, anys, lenA]); try simp only [JR, dstOK, wrOK, frOK, rdOK, getL, getO]; try simp only [JR, dstOK, wrOK, frOK, rdOK, sig, sigF, isGrowB, mtc, mtcS, mtcSL, mtc0, mtc0L, mtcO, mtcL, memN, Nat.blt, rl, renV, renL, ren1, ren1L, ren, rens, renO, Nat.blt, lenO, getO, setO, setL, anys]; try simp))
          · exact ⟨⟨by omega, by omega⟩, by rw [show ((F : Int) * 8).toNat = 8 * F by omega]⟩
          · omega
          · rw [wr64 (n := (F : Int) * 8 + d.size) (by omega) (by omega)]; omega
          · exact ⟨⟨by omega, by omega⟩, by rw [show (8 * (F : Int) + 8 * (C : Int)).toNat = 8 * F + 8 * C by omega]⟩
          · exact ⟨by omega, hBB⟩
        · (simp only [tkO, dpO, tkN, AllOps, OpOK, mkR, autoV, autoR, labV, lkD, vOf, preT, preO, setTs, preV, wrt, memN, usesO, usesT, opT, optT, opsT, ptsT, setHs, objF, updD, newO, lkO, lkF, keysO, keysF, visN, deads, getL, setL, getO, setO, lenO, lenA, anys, setDs, setWr, setFr, endO, catD, List.getD_cons_zero, List.getD_cons_succ, List.getElem?_cons_zero, List.getElem?_cons_succ, List.cons_append, List.nil_append, List.append_nil, Nat.reduceAdd, Nat.reduceSub, ptrL, lenV, Bool.not_true, Bool.not_false, lookR, valOf, asGrow, jump, findA, restA, and, Nat.reduceAdd, Nat.reduceSub, Nat.reduceMul, Int.reduceToNat, eval, nf, nfO, opN, appTo, rowsV, getL, setL, getO, setO, snocO, lenO, putL, ev, evs, ifEq, killV, killL, kill1, kill1L, kill, kills, killO, killOs, bin, binI, binS, binB, eq1, eqB, lit, sameK, kn, unI, mxA, mnA, mkAgg, fits, partN, partA, resN, retV, allVal, isVal, allCell, isCell, okVal, okCell, cellsOf, fillN, rowsN, cellsN, bnd, lohi, offAt, overL, segL, leave, NodeOK, List.cons_append, List.nil_append, List.append_nil, catA, anys, lenA]; (refine eval_sound 2000 _ _ _ ?_; simp (maxSteps := 1000000) only [ptrL, lenV, Bool.not_true, Bool.not_false, lookR, valOf, asGrow, jump, findA, restA, and, Nat.reduceAdd, Nat.reduceSub, Nat.reduceMul, Int.reduceToNat, eval, nf, nfO, opN, appTo, rowsV, getL, setL, getO, setO, snocO, lenO, putL, ev, evs, ifEq, killV, killL, kill1, kill1L, kill, kills, killO, killOs, bin, binI, binS, binB, eq1, eqB, lit, sameK, kn, unI, mxA, mnA, mkAgg, fits, partN, partA, resN, retV, allVal, isVal, allCell, isCell, okVal, okCell, cellsOf, fillN, rowsN, cellsN, bnd, lohi, offAt, overL, segL, leave, NodeOK, List.cons_append, List.nil_append, List.append_nil, catA, anys, lenA]))
          subst hE
          (repeat (with_reducible refine And.intro ?_ ?_; focus (simp; done)))
          ((repeat (with_reducible refine And.intro ?_ ?_; focus (simp; done))); refine ⟨[], rfl, _, _, ?_, ?_, rfl, rfl⟩ <;> simp [Wk, mtc, mtcS, mtcSL, mtc0, mtc0L, mtcL, mtcO, mtcOs, cutM, takeE, stA, rl, renV, renL, ren1, ren1L, ren, rens, renO, Nat.blt, lenO, getO, setO, setL, anys, okS, endM, endH, idxN, takeE, pickE, catO, rl, renV, renL, ren1, ren1L, ren, rens, renO, Nat.blt, lenO, getO, setO, setL, anys, cellsT8])
theorem wrI_take (L D : List Int) (F C : Nat) (hL : 8 * F + 8 * C ≤ L.length) (hD : D.length = 8 * C) (k : Nat) :
    (wrI L D F C).take (8 * (k + 1)) = (wrI L D F C).take (8 * k) ++ (if F ≤ k ∧ k < F + C then (D.drop (8 * (k - F))).take 8 else (L.drop (8 * k)).take 8) := by
  rw [show 8 * (k + 1) = 8 * k + 8 by omega, List.take_add]
  congr 1
  unfold wrI
  have h1 : (L.take (8 * F)).length = 8 * F := by rw [List.length_take]; omega
  by_cases hk : k < F
  · rw [if_neg (by omega), List.append_assoc, List.drop_append_of_le_length (by omega), List.take_append_of_le_length (by rw [List.length_drop]; omega), List.drop_take, List.take_take]
    congr 1
    omega
  · rw [List.append_assoc, List.drop_append, h1, List.drop_eq_nil_of_le (by omega), List.nil_append]
    by_cases hk2 : k < F + C
    · rw [if_pos ⟨by omega, hk2⟩, List.drop_append_of_le_length (by omega), List.take_append_of_le_length (by rw [List.length_drop]; omega)]
      congr 2
      omega
    · rw [if_neg (by omega), List.drop_append, List.drop_eq_nil_of_le (by omega), List.nil_append, List.drop_drop]
      congr 2
      omega
theorem rput_i (m : Mk) (s : ByteArray) (hs : s.size ≤ 3000) (t : List (Int × Int)) (ht : t.length = 8) (F C : Nat) (hF : F < 4294967296) (hC : C < 4294967296) (d : ByteArray) (hd : d.size ≤ 20000) :
    ACalls Tryd.prog 30 [imA m s t, .int .u32 F, .int .u32 C, .str d] [] (fun r hs => r = .tup [imA m (putB s d F C) t, .int .i64 (putE s d F C)] ∧ hs = []) := by
  obtain ⟨a, b, c, d', e, f, g, i, rfl⟩ := t8 ht
  have hB : putB s d F C = if okP s F C = true ∧ d.size = 8 * C then strOf (u8s (wrI (nmI s) (nmI d) F C)) else s := rfl
  have hE : putE s d F C = if okP s F C = true then if d.size = 8 * C then 0 else 2 else 30 := rfl
  have hok : okP s F C = decide (0 < C ∧ F + C ≤ s.size / 8) := rfl
  have hdv := divS s.size
  generalize putB s d F C = B at *
  generalize putE s d F C = E at *
  generalize okP s F C = O at *
  simp only [imA, imC, cellsT8] at *
  refine acalls_weak (acalls_of (fn := Tryd.f30) (A := a30) Tryd.func30 ok_30 en_30 ?_)
  dsimp only [a30, cellsT8]
  (refine eval_sound 2000 _ _ _ ?_; simp (maxSteps := 1000000) only [ptrL, lenV, Bool.not_true, Bool.not_false, lookR, valOf, asGrow, jump, findA, restA, and, Nat.reduceAdd, Nat.reduceSub, Nat.reduceMul, Int.reduceToNat, eval, nf, nfO, opN, appTo, rowsV, getL, setL, getO, setO, snocO, lenO, putL, ev, evs, ifEq, killV, killL, kill1, kill1L, kill, kills, killO, killOs, bin, binI, binS, binB, eq1, eqB, lit, sameK, kn, unI, mxA, mnA, mkAgg, fits, partN, partA, resN, retV, allVal, isVal, allCell, isCell, okVal, okCell, cellsOf, fillN, rowsN, cellsN, bnd, lohi, offAt, overL, segL, leave, NodeOK, List.cons_append, List.nil_append, List.append_nil, catA, anys, lenA])
  rw [hdv, wruN (n := F) (by omega), wruN (n := C) (by omega), show (F : Int) + (C : Int) = ((F + C : Nat) : Int) by omega, wruN (n := F + C) (by omega)]
  rw [wr64 (n := ((s.size / 8 : Nat) : Int)) (by omega) (by omega), wruN (n := s.size / 8) (by omega), wr64 (n := (C : Int)) (by omega) (by omega), wr64 (n := 8 * (C : Int)) (by omega) (by omega)]
  simp only [decide_eq_true_eq, decide_eq_false_iff_not, beq_iff_eq, beq_eq_false_iff_ne]
  refine ⟨fun h1 => ?_, fun h1 => ⟨by omega, fun h2 => ?_, fun h2 => ⟨fun h3 => ?_, fun h3 => ?_⟩⟩⟩
  · rw [hok, if_neg (by rintro ⟨q, _⟩; simp at q; omega)] at hB
    rw [hok, if_neg (by simp; omega)] at hE
    subst hB
    subst hE
    (repeat (with_reducible refine And.intro ?_ ?_; focus (simp; done)))
    ((repeat (with_reducible refine And.intro ?_ ?_; focus (simp; done))); refine ⟨[], rfl, _, _, ?_, ?_, rfl, rfl⟩ <;> simp [Wk, mtc, mtcS, mtcSL, mtc0, mtc0L, mtcL, mtcO, mtcOs, cutM, takeE, stA, rl, renV, renL, ren1, ren1L, ren, rens, renO, Nat.blt, lenO, getO, setO, setL, anys, okS, endM, endH, idxN, takeE, pickE, catO, rl, renV, renL, ren1, ren1L, ren, rens, renO, Nat.blt, lenO, getO, setO, setL, anys, cellsT8])
  · rw [hok, if_neg (by rintro ⟨q, _⟩; simp at q; omega)] at hB
    rw [hok, if_neg (by simp; omega)] at hE
    subst hB
    subst hE
    (repeat (with_reducible refine And.intro ?_ ?_; focus (simp; done)))
    ((repeat (with_reducible refine And.intro ?_ ?_; focus (simp; done))); refine ⟨[], rfl, _, _, ?_, ?_, rfl, rfl⟩ <;> simp [Wk, mtc, mtcS, mtcSL, mtc0, mtc0L, mtcL, mtcO, mtcOs, cutM, takeE, stA, rl, renV, renL, ren1, ren1L, ren, rens, renO, Nat.blt, lenO, getO, setO, setL, anys, okS, endM, endH, idxN, takeE, pickE, catO, rl, renV, renL, ren1, ren1L, ren, rens, renO, Nat.blt, lenO, getO, setO, setL, anys, cellsT8])
  · have h3 : ¬ d.size = 8 * C := fun e => by simp [e] at h3
    rw [hok, if_neg (by rintro ⟨_, q⟩; exact h3 q)] at hB
    rw [hok, if_pos (by simp; omega), if_neg h3] at hE
    subst hB
    subst hE
    (repeat (with_reducible refine And.intro ?_ ?_; focus (simp; done)))
    ((repeat (with_reducible refine And.intro ?_ ?_; focus (simp; done))); refine ⟨[], rfl, _, _, ?_, ?_, rfl, rfl⟩ <;> simp [Wk, mtc, mtcS, mtcSL, mtc0, mtc0L, mtcL, mtcO, mtcOs, cutM, takeE, stA, rl, renV, renL, ren1, ren1L, ren, rens, renO, Nat.blt, lenO, getO, setO, setL, anys, okS, endM, endH, idxN, takeE, pickE, catO, rl, renV, renL, ren1, ren1L, ren, rens, renO, Nat.blt, lenO, getO, setO, setL, anys, cellsT8])
  have h3 : d.size = 8 * C := by simp at h3; omega
  rw [hok, if_pos ⟨by simp; omega, h3⟩] at hB
  rw [hok, if_pos (by simp; omega), if_pos h3] at hE
  subst hE
  have hLl := nmI_len s
  have hDl := nmI_len d
  have hst := wrI_take (nmI s) (nmI d) F C (by omega) (by omega)
  have hwl : (wrI (nmI s) (nmI d) F C).length = s.size := by
    unfold wrI; simp only [List.length_append, List.length_take, List.length_drop]; omega
  have hlast : (wrI (nmI s) (nmI d) F C).drop (8 * (s.size / 8)) = (nmI s).drop (8 * (s.size / 8)) := by
    unfold wrI
    have h1 : ((nmI s).take (8 * F)).length = 8 * F := by rw [List.length_take]; omega
    rw [List.append_assoc, List.drop_append, h1, List.drop_eq_nil_of_le (by omega), List.nil_append, List.drop_append, List.drop_eq_nil_of_le (by omega), List.nil_append, List.drop_drop]
    congr 1
    omega
  refine aw_loopU (α := Nat × ByteArray) (fun q => q.1 ≤ s.size / 8 ∧ nmI q.2 = (wrI (nmI s) (nmI d) F C).take (8 * q.1)) (fun q => [(12, .int .u64 (q.1 : Nat)), (11, .str q.2)]) (fun q => []) (fun q => s.size / 8 - q.1) ((0, ⟨#[]⟩)) (⟨Nat.zero_le _, rfl⟩) ?_ fun q hq => ?_
  · (simp only [wrC, wrOs, keepT, memN, setsL, setsO, setL, setO, snocO, List.cons_append, List.nil_append, List.append_nil, Nat.reduceAdd, Nat.zero_add, Wk, mtc, mtcS, mtcSL, mtc0, mtc0L, mtcL, mtcO, mtcOs, cutM, takeE, stA, rl, renV, renL, ren1, ren1L, ren, rens, renO, Nat.blt, lenO, getO, setO, setL, anys, cellsT8]; simp [cellsT8])
  obtain ⟨k, out⟩ := q
  obtain ⟨hk0, hko⟩ := hq
  simp only [] at hk0 hko
  have hol := congrArg List.length hko
  rw [nmI_len, List.length_take, hwl] at hol
  have hstk := hst k
  (simp only [wrC, wrOs, keepT, memN, setsL, setsO, setL, setO, snocO, List.cons_append, List.nil_append, List.append_nil, Nat.reduceAdd, Nat.zero_add, cellsT8]; (refine eval_sound 2000 _ _ _ ?_; simp (maxSteps := 1000000) only [ptrL, lenV, Bool.not_true, Bool.not_false, lookR, valOf, asGrow, jump, findA, restA, and, Nat.reduceAdd, Nat.reduceSub, Nat.reduceMul, Int.reduceToNat, eval, nf, nfO, opN, appTo, rowsV, getL, setL, getO, setO, snocO, lenO, putL, ev, evs, ifEq, killV, killL, kill1, kill1L, kill, kills, killO, killOs, bin, binI, binS, binB, eq1, eqB, lit, sameK, kn, unI, mxA, mnA, mkAgg, fits, partN, partA, resN, retV, allVal, isVal, allCell, isCell, okVal, okCell, cellsOf, fillN, rowsN, cellsN, bnd, lohi, offAt, overL, segL, leave, NodeOK, List.cons_append, List.nil_append, List.append_nil, catA, anys, lenA]))
  rw [hdv, wr64 (n := ((s.size / 8 : Nat) : Int)) (by omega) (by omega), wruN (n := s.size / 8) (by omega)]
  simp only [decide_eq_true_eq, decide_eq_false_iff_not]
  refine ⟨by omega, fun h4 => ?_, fun h4 => ?_⟩
  · have wk : IntKind.u64.wrap ((k : Int) + 1) = ((k + 1 : Nat) : Int) := by rw [show (k : Int) + 1 = ((k + 1 : Nat) : Int) by omega]; exact wruN (by omega)
    rw [wruN (n := F) (by omega)]
    rw [show (8 : Int) * (k : Int) = ((8 * k : Nat) : Int) by omega, wruN (n := 8 * k) (by omega), show ((8 * k : Nat) : Int) + 8 = ((8 * k + 8 : Nat) : Int) by omega, wruN (n := 8 * k + 8) (by omega), wk]
    refine ⟨fun g1 => ⟨fun g2 => ?_, fun g2 => ?_⟩, fun g1 => ?_⟩
    · rw [show (k : Int) - (F : Int) = ((k - F : Nat) : Int) by omega, wruN (n := k - F) (by omega), show (8 : Int) * ((k - F : Nat) : Int) = ((8 * (k - F) : Nat) : Int) by omega, wruN (n := 8 * (k - F)) (by omega), show ((8 * (k - F) : Nat) : Int) + 8 = ((8 * (k - F) + 8 : Nat) : Int) by omega, wruN (n := 8 * (k - F) + 8) (by omega), Int.toNat_natCast, Int.toNat_natCast]
      refine ⟨⟨by omega, by omega, by omega⟩, by simp; omega, (k + 1, out ++ d.extract (8 * (k - F)) (8 * (k - F) + 8)), ⟨by simp only []; omega, ?_⟩, by simp only []; omega, ?_⟩
      · simp only []
        rw [nmI_app, hko, hstk, if_pos ⟨by omega, by omega⟩, nmI_ext, show 8 * (k - F) + 8 - 8 * (k - F) = 8 by omega]
      · (simp only [wrC, wrOs, keepT, memN, setsL, setsO, setL, setO, snocO, List.cons_append, List.nil_append, List.append_nil, Nat.reduceAdd, Nat.zero_add, Wk, mtc, mtcS, mtcSL, mtc0, mtc0L, mtcL, mtcO, mtcOs, cutM, takeE, stA, rl, renV, renL, ren1, ren1L, ren, rens, renO, Nat.blt, lenO, getO, setO, setL, anys, cellsT8]; simp [cellsT8])
    · rw [Int.toNat_natCast, Int.toNat_natCast]
      refine ⟨⟨by omega, by omega, by omega⟩, by simp; omega, (k + 1, out ++ s.extract (8 * k) (8 * k + 8)), ⟨by simp only []; omega, ?_⟩, by simp only []; omega, ?_⟩
      · simp only []
        rw [nmI_app, hko, hstk, if_neg (by omega), nmI_ext, show 8 * k + 8 - 8 * k = 8 by omega]
      · (simp only [wrC, wrOs, keepT, memN, setsL, setsO, setL, setO, snocO, List.cons_append, List.nil_append, List.append_nil, Nat.reduceAdd, Nat.zero_add, Wk, mtc, mtcS, mtcSL, mtc0, mtc0L, mtcL, mtcO, mtcOs, cutM, takeE, stA, rl, renV, renL, ren1, ren1L, ren, rens, renO, Nat.blt, lenO, getO, setO, setL, anys, cellsT8]; simp [cellsT8])
    · rw [Int.toNat_natCast, Int.toNat_natCast]
      refine ⟨⟨by omega, by omega, by omega⟩, by simp; omega, (k + 1, out ++ s.extract (8 * k) (8 * k + 8)), ⟨by simp only []; omega, ?_⟩, by simp only []; omega, ?_⟩
      · simp only []
        rw [nmI_app, hko, hstk, if_neg (by omega), nmI_ext, show 8 * k + 8 - 8 * k = 8 by omega]
      · (simp only [wrC, wrOs, keepT, memN, setsL, setsO, setL, setO, snocO, List.cons_append, List.nil_append, List.append_nil, Nat.reduceAdd, Nat.zero_add, Wk, mtc, mtcS, mtcSL, mtc0, mtc0L, mtcL, mtcO, mtcOs, cutM, takeE, stA, rl, renV, renL, ren1, ren1L, ren, rens, renO, Nat.blt, lenO, getO, setO, setL, anys, cellsT8]; simp [cellsT8])
  · have hkn : k = s.size / 8 := by omega
    have hBB : B = out ++ s.extract (8 * (s.size / 8)) s.size := by
      rw [hB]
      apply nmI_inj
      have hwb : ByteL (wrI (nmI s) (nmI d) F C) := by
        unfold wrI
        exact (ByteL.app (fun y hy => nmI_byte s y (List.mem_of_mem_take hy)) (nmI_byte d)).app (fun y hy => nmI_byte s y (List.mem_of_mem_drop hy))
      rw [nmI_str _ hwb, nmI_app, hko, nmI_ext, hkn, List.take_of_length_le (l := (nmI s).drop _) (by rw [List.length_drop, hLl]; omega), ← hlast, List.take_append_drop]
    rw [show (8 : Int) * ((s.size / 8 : Nat) : Int) = ((8 * (s.size / 8) : Nat) : Int) by omega, wr64 (n := ((8 * (s.size / 8) : Nat) : Int)) (by omega) (by omega), Int.toNat_natCast, Int.toNat_natCast, ← hBB]
    refine ⟨by omega, ⟨by omega, by omega, by omega⟩, by simp; omega, ?_⟩
    (repeat (with_reducible refine And.intro ?_ ?_; focus (simp; done)))
    ((repeat (with_reducible refine And.intro ?_ ?_; focus (simp; done))); refine ⟨[], rfl, _, _, ?_, ?_, rfl, rfl⟩ <;> simp [Wk, mtc, mtcS, mtcSL, mtc0, mtc0L, mtcL, mtcO, mtcOs, cutM, takeE, stA, rl, renV, renL, ren1, ren1L, ren, rens, renO, Nat.blt, lenO, getO, setO, setL, anys, okS, endM, endH, idxN, takeE, pickE, catO, rl, renV, renL, ren1, ren1L, ren, rens, renO, Nat.blt, lenO, getO, setO, setL, anys, cellsT8])
end Go.Proofs.YtlnafekmiidpkaaDoor.S
