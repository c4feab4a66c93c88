/- Contracts of crc. -/
import Derived.Test.YtjkmnmpjcdanhaaFrO
namespace Go.Proofs.Ytjkmnmpjcdanhaa.S
set_option linter.all false
set_option maxRecDepth 100000
set_option maxHeartbeats 2000000
def hP : Nat := 2197175160
def hb (n : Nat) : Nat := (n / 2) ^^^ (if n % 2 = 1 then hP else 0)
def hN : Nat → Nat → Nat
  | 0, n => n
  | k + 1, n => hb (hN k n)
theorem xor_half (x y : Nat) : (x ^^^ y) / 2 = (x / 2) ^^^ (y / 2) := by
  have := Nat.shiftRight_xor_distrib (a := x) (b := y) (i := 1)
  simpa [Nat.shiftRight_eq_div_pow] using this
theorem hb_xor (x y : Nat) : hb (x ^^^ y) = hb x ^^^ hb y := by
  unfold hb
  rw [xor_half]
  have h := Nat.testBit_xor (x := x) (y := y) (i := 0)
  rw [Nat.testBit_zero, Nat.testBit_zero, Nat.testBit_zero] at h
  generalize (x ^^^ y) % 2 = z at h ⊢
  by_cases hx : x % 2 = 1 <;> by_cases hy : y % 2 = 1 <;> simp [hx, hy] at h <;> simp [hx, hy, h]
  · rw [Nat.xor_assoc, Nat.xor_comm hP, Nat.xor_assoc, Nat.xor_self, Nat.xor_zero]
  · rw [Nat.xor_assoc, Nat.xor_assoc, Nat.xor_comm (y / 2)]
  · rw [Nat.xor_assoc]
theorem hN_xor (k x y : Nat) : hN k (x ^^^ y) = hN k x ^^^ hN k y := by
  induction k with
  | zero => rfl
  | succ k ih => simp only [hN, ih, hb_xor]
theorem hb_two (x : Nat) : hb (2 * x) = x := by
  unfold hb
  rw [Nat.mul_div_cancel_left _ (by decide), if_neg (by omega), Nat.xor_zero]
theorem hN_shift (j x : Nat) : hN j (2 ^ j * x) = x := by
  induction j generalizing x with
  | zero => simp [hN]
  | succ j ih => 
    show hb (hN j (2 ^ (j + 1) * x)) = x
    rw [Nat.pow_succ, Nat.mul_assoc, ih, hb_two]
theorem hN_add (i j n : Nat) : hN (i + j) n = hN i (hN j n) := by
  induction i with
  | zero => simp [hN]
  | succ i ih => rw [Nat.succ_add]; simp only [hN, ih]
theorem hb_lt {n : Nat} (h : n < 4294967296) : hb n < 4294967296 := by
  unfold hb
  refine Nat.xor_lt_two_pow (n := 32) (by omega) ?_
  split <;> decide
theorem hN_lt {n : Nat} (h : n < 4294967296) : ∀ k, hN k n < 4294967296
  | 0 => h
  | k + 1 => hb_lt (hN_lt h k)
theorem add_xor (i a b : Nat) (h : b < 2 ^ i) : 2 ^ i * a + b = 2 ^ i * a ^^^ b := by
  rw [Nat.two_pow_add_eq_or_of_lt h]
  apply Nat.eq_of_testBit_eq
  intro j
  rw [Nat.testBit_or, Nat.testBit_xor, Nat.testBit_two_pow_mul]
  by_cases hj : i ≤ j
  · rw [Nat.testBit_lt_two_pow (Nat.lt_of_lt_of_le h (Nat.pow_le_pow_right (by decide) hj))]
    simp
  · simp [hj]
theorem hN_four (n : Nat) : hN 4 n = (n / 16) ^^^ hN 4 (n % 16) := by
  have h : n = 2 ^ 4 * (n / 16) ^^^ n % 16 := by
    rw [← add_xor 4 _ _ (by omega)]
    omega
  rw (config := { occs := .pos [1] }) [h]
  rw [hN_xor, hN_shift]
/-- One bit more, as the document has it. -/
theorem bit_hb (n b : Nat) (h : b < 2) : hb (n ^^^ b) = (n / 2) ^^^ (if (n ^^^ b) % 2 = 1 then hP else 0) := by
  unfold hb
  rw [xor_half, show b / 2 = 0 by omega, Nat.xor_zero]
theorem hN_bit (j n c : Nat) : hN (j + 1) (n ^^^ c % 2 ^ (j + 1)) = hb (hN j (n ^^^ c % 2 ^ j) ^^^ (c / 2 ^ j % 2)) := by
  show hb (hN j _) = _
  congr 1
  rw [Nat.mod_pow_succ, Nat.add_comm, add_xor _ _ _ (Nat.mod_lt _ (Nat.two_pow_pos j)), Nat.xor_comm (2 ^ j * _), ← Nat.xor_assoc, hN_xor, hN_shift]
/-- The sum behind a text's first bytes. -/
def crcN (n : Nat) (l : List Int) : Nat → Nat
  | 0 => n
  | k + 1 => hN 8 (crcN n l k ^^^ (l[k]?.getD 0).toNat)
theorem crcN_lt {n : Nat} {l : List Int} (h : n < 4294967296) (hl : ∀ x ∈ l, 0 ≤ x ∧ x < 256) : ∀ k, crcN n l k < 4294967296
  | 0 => h
  | k + 1 => by
    refine hN_lt (Nat.xor_lt_two_pow (n := 32) (crcN_lt h hl k) ?_) 8
    rcases Nat.lt_or_ge k l.length with hk | hk
    · rw [List.getElem?_eq_getElem hk]
      have := hl _ (List.getElem_mem hk)
      simp only [Option.getD_some]
      omega
    · rw [List.getElem?_eq_none hk]
      decide
theorem wr32N {n : Nat} (h : n < 4294967296) : IntKind.u32.wrap (n : Int) = n := IntWalk.u32_in _ ⟨by omega, by omega⟩
theorem bv32 {n : Nat} (h : n < 4294967296) : (BitVec.ofInt 32 (n : Int)).toNat = n := by
  rw [BitVec.toNat_ofInt]
  simp; omega
theorem xor32 {a b : Nat} (ha : a < 4294967296) (hb : b < 4294967296) : IntKind.u32.wrap ((BitVec.ofInt IntKind.u32.bits (a : Int) ^^^ BitVec.ofInt IntKind.u32.bits (b : Int)).toNat : Int) = ((a ^^^ b : Nat) : Int) := by
  show IntKind.u32.wrap ((BitVec.ofInt 32 (a : Int) ^^^ BitVec.ofInt 32 (b : Int)).toNat : Int) = _
  rw [BitVec.toNat_xor, bv32 ha, bv32 hb]
  exact wr32N (show a ^^^ b < 2 ^ 32 from Nat.xor_lt_two_pow ha hb)
theorem and32 {a : Nat} (k : Nat) (hk : k ≤ 4) (ha : a < 4294967296) : IntKind.u32.wrap ((BitVec.ofInt IntKind.u32.bits (a : Int) &&& BitVec.ofInt IntKind.u32.bits ((2 ^ k - 1 : Nat) : Int)).toNat : Int) = ((a % 2 ^ k : Nat) : Int) := by
  have hp : 2 ^ k ≤ 2 ^ 4 := Nat.pow_le_pow_right (by omega) hk
  show IntKind.u32.wrap ((BitVec.ofInt 32 (a : Int) &&& BitVec.ofInt 32 ((2 ^ k - 1 : Nat) : Int)).toNat : Int) = _
  rw [BitVec.toNat_and, bv32 ha, bv32 (by omega), Nat.and_two_pow_sub_one_eq_mod]
  exact wr32N (Nat.lt_of_le_of_lt (Nat.mod_le _ _) ha)
theorem not32 {a : Nat} (ha : a < 4294967296) : IntKind.u32.wrap ((BitVec.ofInt IntKind.u32.bits (if IntKind.u32.signed then -1 else IntKind.u32.max) ^^^ BitVec.ofInt IntKind.u32.bits (a : Int)).toNat : Int) = ((4294967295 - a : Nat) : Int) := by
  have e : (BitVec.ofInt IntKind.u32.bits (if IntKind.u32.signed then -1 else IntKind.u32.max)) = BitVec.allOnes 32 := by
    show BitVec.ofInt 32 4294967295 = BitVec.allOnes 32
    decide
  rw [e]
  show IntKind.u32.wrap ((BitVec.allOnes 32 ^^^ BitVec.ofInt 32 (a : Int)).toNat : Int) = _
  rw [BitVec.allOnes_xor, BitVec.toNat_not, bv32 ha]
  exact wr32N (by omega)
theorem fdivN (a k : Nat) : (a : Int).fdiv (2 ^ k) = ((a / 2 ^ k : Nat) : Int) := by
  have : ((2 : Int) ^ k) = ((2 ^ k : Nat) : Int) := by norm_cast
  rw [this, Int.fdiv_eq_ediv_of_nonneg _ (Int.natCast_nonneg _)]
  rfl
theorem half_c (n : Nat) (hn : n < 4294967296) : ACalls Try.prog 102 [.int .u32 n] [] (fun r hs => r = .int .u32 (hb n : Nat) ∧ hs = []) := by
  have h1 := and32 (a := n) 1 (by omega) hn
  have h2 : (n : Int).fdiv (2 ^ min 1 IntKind.u32.bits) = ((n / 2 : Nat) : Int) := fdivN n 1
  rw [show ((2 ^ 1 - 1 : Nat) : Int) = 1 from rfl] at h1
  have h3 : hb n = (n / 2) ^^^ (if n % 2 = 1 then hP else 0) := rfl
  have h4 := xor32 (a := n / 2) (b := 2197175160) (by omega) (by decide)
  rw [show ((2197175160 : Nat) : Int) = 2197175160 from rfl] at h4
  generalize hb n = y at *
  refine acalls_weak (acalls_of (fn := Try.f102) (A := a102) Try.func102 ok_102 en_102 ?_)
  dsimp only [a102, u8s]
  (refine eval_sound 2000 _ _ _ ?_; simp (maxSteps := 1000000) only [ptrL, lenV, Bool.not_true, Bool.not_false, lookR, valOf, asGrow, jump, findA, restA, and, Nat.reduceAdd, Nat.reduceSub, Nat.reduceMul, Int.reduceToNat, eval, nf, nfO, opN, appTo, rowsV, getL, setL, getO, setO, snocO, lenO, putL, ev, evs, ifEq, killV, killL, kill1, kill1L, kill, kills, killO, killOs, bin, binI, binS, binB, eq1, eqB, lit, sameK, kn, unI, mxA, mnA, mkAgg, fits, partN, partA, resN, retV, allVal, isVal, allCell, isCell, okVal, okCell, cellsOf, fillN, rowsN, cellsN, bnd, lohi, offAt, overL, segL, leave, NodeOK, List.cons_append, List.nil_append, List.append_nil, catA, anys, lenA])
  rw [h1]
  refine ⟨fun h => ?_, fun h => ?_⟩
  · rw [if_pos (by simp at h; omega)] at h3
    rw [h2, h4]
    refine ⟨by omega, ?_⟩
    rw [show hP = 2197175160 from rfl] at h3
    rw [h3]
    ((repeat (with_reducible refine And.intro ?_ ?_; focus (simp; done))); refine ⟨[], rfl, _, _, ?_, ?_, rfl, rfl⟩ <;> simp [Wk, mtc, mtcS, mtcSL, mtc0, mtc0L, mtcL, mtcO, mtcOs, cutM, takeE, stA, rl, renV, renL, ren1, ren1L, ren, rens, renO, Nat.blt, lenO, getO, setO, setL, anys, okS, endM, endH, idxN, takeE, pickE, catO, rl, renV, renL, ren1, ren1L, ren, rens, renO, Nat.blt, lenO, getO, setO, setL, anys, u8s])
  · rw [if_neg (by simp at h; omega), Nat.xor_zero] at h3
    rw [h2, h3]
    refine ⟨by omega, ?_⟩
    ((repeat (with_reducible refine And.intro ?_ ?_; focus (simp; done))); refine ⟨[], rfl, _, _, ?_, ?_, rfl, rfl⟩ <;> simp [Wk, mtc, mtcS, mtcSL, mtc0, mtc0L, mtcL, mtcO, mtcOs, cutM, takeE, stA, rl, renV, renL, ren1, ren1L, ren, rens, renO, Nat.blt, lenO, getO, setO, setL, anys, okS, endM, endH, idxN, takeE, pickE, catO, rl, renV, renL, ren1, ren1L, ren, rens, renO, Nat.blt, lenO, getO, setO, setL, anys, u8s])
theorem set_map {α : Type} (f : Nat → α) (N k : Nat) (a : α) : ((List.range N).map f).set k a = (List.range N).map fun i => if i = k then a else f i := by
  apply List.ext_getElem?
  intro i
  rw [List.getElem?_set, List.getElem?_map, List.length_map, List.length_range]
  by_cases hi : i < N
  · rw [List.getElem?_range hi, List.getElem?_map, List.getElem?_range hi]
    by_cases hk : k = i
    · subst hk; simp [hi]
    · rw [if_neg hk]; simp [show ¬ i = k from fun e => hk e.symm]
  · rw [List.getElem?_eq_none (l := List.range N) (by simp; omega), List.getElem?_map, List.getElem?_eq_none (l := List.range N) (by simp; omega)]
    by_cases hk : k = i
    · subst hk; simp [hi]
    · simp [hk]
theorem over_set {l : List AV} {k : Nat} {a : AV} (h : k < l.length) : over l k [a] = l.set k a := by
  unfold over
  rw [List.set_eq_take_append_cons_drop, if_pos h]
  simp
def tabC (i : Nat) : List AV := (List.range 16).map fun j => .int .u32 (if j < i then hN 4 j else 0 : Nat)
theorem tabC_succ {i : Nat} (h : i < 16) : over (tabC i) i [.int .u32 (hN 4 i : Nat)] = tabC (i + 1) := by
  rw [over_set (by simp [tabC]; exact h)]
  unfold tabC
  rw [set_map]
  refine List.map_congr_left fun j _ => ?_
  by_cases hj : j = i
  · subst hj; rw [if_pos rfl, if_pos (by omega)]
  · rw [if_neg hj]
    by_cases hl : j < i
    · rw [if_pos hl, if_pos (by omega)]
    · rw [if_neg hl, if_neg (by omega)]
theorem tab16 : tabC 16 = [.int .u32 (hN 4 0 : Nat), .int .u32 (hN 4 1 : Nat), .int .u32 (hN 4 2 : Nat), .int .u32 (hN 4 3 : Nat), .int .u32 (hN 4 4 : Nat), .int .u32 (hN 4 5 : Nat), .int .u32 (hN 4 6 : Nat), .int .u32 (hN 4 7 : Nat), .int .u32 (hN 4 8 : Nat), .int .u32 (hN 4 9 : Nat), .int .u32 (hN 4 10 : Nat), .int .u32 (hN 4 11 : Nat), .int .u32 (hN 4 12 : Nat), .int .u32 (hN 4 13 : Nat), .int .u32 (hN 4 14 : Nat), .int .u32 (hN 4 15 : Nat)] := rfl
theorem table_c : ACalls Try.prog 97 [] [] (fun r hs => r = .arr (tabC 16) ∧ hs = []) := by
  refine acalls_weak (acalls_of (fn := Try.f97) (A := a97) Try.func97 ok_97 en_97 ?_)
  dsimp only [a97, u8s]
  (refine eval_sound 2000 _ _ _ ?_; simp (maxSteps := 1000000) only [ptrL, lenV, Bool.not_true, Bool.not_false, lookR, valOf, asGrow, jump, findA, restA, and, Nat.reduceAdd, Nat.reduceSub, Nat.reduceMul, Int.reduceToNat, eval, nf, nfO, opN, appTo, rowsV, getL, setL, getO, setO, snocO, lenO, putL, ev, evs, ifEq, killV, killL, kill1, kill1L, kill, kills, killO, killOs, bin, binI, binS, binB, eq1, eqB, lit, sameK, kn, unI, mxA, mnA, mkAgg, fits, partN, partA, resN, retV, allVal, isVal, allCell, isCell, okVal, okCell, cellsOf, fillN, rowsN, cellsN, bnd, lohi, offAt, overL, segL, leave, NodeOK, List.cons_append, List.nil_append, List.append_nil, catA, anys, lenA])
  refine aw_loopU (α := Nat) (fun i => i ≤ 16) (fun i => [(4, .int .i64 (i : Nat))]) (fun i => [(0, .arr 135 (tabC i))]) (fun i => 16 - i) (0) (Nat.zero_le _) ?_ fun i hi => ?_
  · (simp only [wrC, wrOs, keepT, memN, setsL, setsO, setL, setO, snocO, List.cons_append, List.nil_append, List.append_nil, Nat.reduceAdd, Nat.zero_add, Wk, mtc, mtcS, mtcSL, mtc0, mtc0L, mtcL, mtcO, mtcOs, cutM, takeE, stA, rl, renV, renL, ren1, ren1L, ren, rens, renO, Nat.blt, lenO, getO, setO, setL, anys, u8s]; simp [u8s])
    rfl
  (simp only [wrC, wrOs, keepT, memN, setsL, setsO, setL, setO, snocO, List.cons_append, List.nil_append, List.append_nil, Nat.reduceAdd, Nat.zero_add, u8s]; (refine eval_sound 2000 _ _ _ ?_; simp (maxSteps := 1000000) only [ptrL, lenV, Bool.not_true, Bool.not_false, lookR, valOf, asGrow, jump, findA, restA, and, Nat.reduceAdd, Nat.reduceSub, Nat.reduceMul, Int.reduceToNat, eval, nf, nfO, opN, appTo, rowsV, getL, setL, getO, setO, snocO, lenO, putL, ev, evs, ifEq, killV, killL, kill1, kill1L, kill, kills, killO, killOs, bin, binI, binS, binB, eq1, eqB, lit, sameK, kn, unI, mxA, mnA, mkAgg, fits, partN, partA, resN, retV, allVal, isVal, allCell, isCell, okVal, okCell, cellsOf, fillN, rowsN, cellsN, bnd, lohi, offAt, overL, segL, leave, NodeOK, List.cons_append, List.nil_append, List.append_nil, catA, anys, lenA]))
  simp only [decide_eq_true_eq, decide_eq_false_iff_not]
  refine ⟨fun h1 => ?_, fun h1 => ?_⟩
  · have wi : IntKind.i64.wrap ((i : Int) + 1) = ((i + 1 : Nat) : Int) := by rw [wr64 (by omega) (by omega)]; rfl
    have w3 : IntKind.u32.wrap (i : Int) = ((hN 0 i : Nat) : Int) := by rw [wr32N (by omega)]; rfl
    rw [w3]
    refine aw_loopU (α := Nat) (fun k => k ≤ 4) (fun k => [(9, .int .i64 (k : Nat)), (3, .int .u32 (hN k i : Nat))]) (fun k => []) (fun k => 4 - k) (0) (Nat.zero_le _) ?_ fun k hk => ?_
    · (simp only [wrC, wrOs, keepT, memN, setsL, setsO, setL, setO, snocO, List.cons_append, List.nil_append, List.append_nil, Nat.reduceAdd, Nat.zero_add, Wk, mtc, mtcS, mtcSL, mtc0, mtc0L, mtcL, mtcO, mtcOs, cutM, takeE, stA, rl, renV, renL, ren1, ren1L, ren, rens, renO, Nat.blt, lenO, getO, setO, setL, anys, u8s]; simp [u8s])
    have hlt := hN_lt (n := i) (by omega) k
    (simp only [wrC, wrOs, keepT, memN, setsL, setsO, setL, setO, snocO, List.cons_append, List.nil_append, List.append_nil, Nat.reduceAdd, Nat.zero_add, u8s]; (refine eval_sound 2000 _ _ _ ?_; simp (maxSteps := 1000000) only [ptrL, lenV, Bool.not_true, Bool.not_false, lookR, valOf, asGrow, jump, findA, restA, and, Nat.reduceAdd, Nat.reduceSub, Nat.reduceMul, Int.reduceToNat, eval, nf, nfO, opN, appTo, rowsV, getL, setL, getO, setO, snocO, lenO, putL, ev, evs, ifEq, killV, killL, kill1, kill1L, kill, kills, killO, killOs, bin, binI, binS, binB, eq1, eqB, lit, sameK, kn, unI, mxA, mnA, mkAgg, fits, partN, partA, resN, retV, allVal, isVal, allCell, isCell, okVal, okCell, cellsOf, fillN, rowsN, cellsN, bnd, lohi, offAt, overL, segL, leave, NodeOK, List.cons_append, List.nil_append, List.append_nil, catA, anys, lenA]))
    simp only [decide_eq_true_eq, decide_eq_false_iff_not]
    refine ⟨fun h2 => ?_, fun h2 => ?_⟩
    · have wk : IntKind.i64.wrap ((k : Int) + 1) = ((k + 1 : Nat) : Int) := by rw [wr64 (by omega) (by omega)]; rfl
      ((repeat (with_reducible refine And.intro ?_ ?_; focus (simp; done))); refine aw_call (half_c (hN k i) hlt) [] rfl (by simp [upM, nthN, matchO, rens, ren, ren1, ren1L, renL, renV, renO, rl, lenO, getO, Nat.blt, mtc, mtcS, mtcSL, mtc0, mtc0L, u8s]) rfl (by simp [upM, nthN, matchO, rens, ren, ren1, ren1L, renL, renV, renO, rl, lenO, getO, Nat.blt, mtc, mtcS, mtcSL, mtc0, mtc0L, u8s]) rfl (fun r hs hp hl => ?_); obtain ⟨rfl, rfl⟩ := hp; simp only [snocO, upM, nthN, putAll, snocAll, killsA, killOsA, grows, putL, rl, renV, renL, ren1, ren1L, ren, rens, renO, Nat.blt, lenO, getO, setO, setL, anys, u8s]; (refine eval_sound 2000 _ _ _ ?_; simp (maxSteps := 1000000) only [ptrL, lenV, Bool.not_true, Bool.not_false, lookR, valOf, asGrow, jump, findA, restA, and, Nat.reduceAdd, Nat.reduceSub, Nat.reduceMul, Int.reduceToNat, eval, nf, nfO, opN, appTo, rowsV, getL, setL, getO, setO, snocO, lenO, putL, ev, evs, ifEq, killV, killL, kill1, kill1L, kill, kills, killO, killOs, bin, binI, binS, binB, eq1, eqB, lit, sameK, kn, unI, mxA, mnA, mkAgg, fits, partN, partA, resN, retV, allVal, isVal, allCell, isCell, okVal, okCell, cellsOf, fillN, rowsN, cellsN, bnd, lohi, offAt, overL, segL, leave, NodeOK, List.cons_append, List.nil_append, List.append_nil, catA, anys, lenA]))
      rw [wk]
      refine ⟨k + 1, by omega, by omega, ?_⟩
      rw [show hb (hN k i) = hN (k + 1) i from rfl]
      (simp only [wrC, wrOs, keepT, memN, setsL, setsO, setL, setO, snocO, List.cons_append, List.nil_append, List.append_nil, Nat.reduceAdd, Nat.zero_add, Wk, mtc, mtcS, mtcSL, mtc0, mtc0L, mtcL, mtcO, mtcOs, cutM, takeE, stA, rl, renV, renL, ren1, ren1L, ren, rens, renO, Nat.blt, lenO, getO, setO, setL, anys, u8s]; simp [u8s])
    · obtain rfl : k = 4 := by omega
      refine ⟨⟨by omega, by omega⟩, by simp [tabC]; omega, i + 1, by omega, by omega, ?_⟩
      rw [show 0 + (i : Int).toNat * 1 = i by omega, tabC_succ (by omega), wi]
      (simp only [wrC, wrOs, keepT, memN, setsL, setsO, setL, setO, snocO, List.cons_append, List.nil_append, List.append_nil, Nat.reduceAdd, Nat.zero_add, Wk, mtc, mtcS, mtcSL, mtc0, mtc0L, mtcL, mtcO, mtcOs, cutM, takeE, stA, rl, renV, renL, ren1, ren1L, ren, rens, renO, Nat.blt, lenO, getO, setO, setL, anys, u8s]; simp [u8s])
  · obtain rfl : i = 16 := by omega
    rw [tab16]
    simp only [ptrL, lenV, Bool.not_true, Bool.not_false, lookR, valOf, asGrow, jump, findA, restA, and, Nat.reduceAdd, Nat.reduceSub, Nat.reduceMul, Int.reduceToNat, eval, nf, nfO, opN, appTo, rowsV, getL, setL, getO, setO, snocO, lenO, putL, ev, evs, ifEq, killV, killL, kill1, kill1L, kill, kills, killO, killOs, bin, binI, binS, binB, eq1, eqB, lit, sameK, kn, unI, mxA, mnA, mkAgg, fits, partN, partA, resN, retV, allVal, isVal, allCell, isCell, okVal, okCell, cellsOf, fillN, rowsN, cellsN, bnd, lohi, offAt, overL, segL, leave, NodeOK, List.cons_append, List.nil_append, List.append_nil, catA, anys, lenA, fits, segL, overL, NodeOK]
    refine ⟨by simp, by simp, by simp, ?_⟩
    refine ⟨[], rfl, _, _, ?_, ?_, rfl, rfl⟩ <;> simp [Wk, mtc, mtcS, mtcSL, mtc0, mtc0L, mtcL, mtcO, mtcOs, cutM, takeE, stA, rl, renV, renL, ren1, ren1L, ren, rens, renO, Nat.blt, lenO, getO, setO, setL, anys, okS, endM, endH, idxN, takeE, pickE, catO, rl, renV, renL, ren1, ren1L, ren, rens, renO, Nat.blt, lenO, getO, setO, setL, anys]
theorem nib (n : Nat) : hN 4 n = n / 16 ^^^ hN 4 (n % 16) := hN_four n
theorem more_c (s : Nat) (hs : s < 4294967296) (l : List Int) (hl : l.length ≤ 9223372036854775807) (hb : ByteL l) : ACalls Try.prog 88 [.int .u32 s, .ro 1 (u8s l)] [] (fun r hs => r = .int .u32 (4294967295 - crcN (4294967295 - s) l l.length : Nat) ∧ hs = []) := by
  have htab := table_c
  have hby : ∀ x ∈ l, 0 ≤ x ∧ x < 256 := fun x hx => by have := hb x hx; omega
  have hn0 := not32 hs
  refine acalls_weak (acalls_of (fn := Try.f88) (A := a88) Try.func88 ok_88 en_88 ?_)
  dsimp only [a88, u8s]
  (refine eval_sound 2000 _ _ _ ?_; simp (maxSteps := 1000000) only [ptrL, lenV, Bool.not_true, Bool.not_false, lookR, valOf, asGrow, jump, findA, restA, and, Nat.reduceAdd, Nat.reduceSub, Nat.reduceMul, Int.reduceToNat, eval, nf, nfO, opN, appTo, rowsV, getL, setL, getO, setO, snocO, lenO, putL, ev, evs, ifEq, killV, killL, kill1, kill1L, kill, kills, killO, killOs, bin, binI, binS, binB, eq1, eqB, lit, sameK, kn, unI, mxA, mnA, mkAgg, fits, partN, partA, resN, retV, allVal, isVal, allCell, isCell, okVal, okCell, cellsOf, fillN, rowsN, cellsN, bnd, lohi, offAt, overL, segL, leave, NodeOK, List.cons_append, List.nil_append, List.append_nil, catA, anys, lenA])
  ((repeat (with_reducible refine And.intro ?_ ?_; focus (simp; done))); refine aw_call (htab) [] rfl (by simp [upM, nthN, matchO, rens, ren, ren1, ren1L, renL, renV, renO, rl, lenO, getO, Nat.blt, mtc, mtcS, mtcSL, mtc0, mtc0L, u8s]) rfl (by simp [upM, nthN, matchO, rens, ren, ren1, ren1L, renL, renV, renO, rl, lenO, getO, Nat.blt, mtc, mtcS, mtcSL, mtc0, mtc0L, u8s]) rfl (fun r hs hp hl => ?_); obtain ⟨rfl, rfl⟩ := hp; simp only [snocO, upM, nthN, putAll, snocAll, killsA, killOsA, grows, putL, rl, renV, renL, ren1, ren1L, ren, rens, renO, Nat.blt, lenO, getO, setO, setL, anys, u8s]; (refine eval_sound 2000 _ _ _ ?_; simp (maxSteps := 1000000) only [ptrL, lenV, Bool.not_true, Bool.not_false, lookR, valOf, asGrow, jump, findA, restA, and, Nat.reduceAdd, Nat.reduceSub, Nat.reduceMul, Int.reduceToNat, eval, nf, nfO, opN, appTo, rowsV, getL, setL, getO, setO, snocO, lenO, putL, ev, evs, ifEq, killV, killL, kill1, kill1L, kill, kills, killO, killOs, bin, binI, binS, binB, eq1, eqB, lit, sameK, kn, unI, mxA, mnA, mkAgg, fits, partN, partA, resN, retV, allVal, isVal, allCell, isCell, okVal, okCell, cellsOf, fillN, rowsN, cellsN, bnd, lohi, offAt, overL, segL, leave, NodeOK, List.cons_append, List.nil_append, List.append_nil, catA, anys, lenA]))
  rw [hn0]
  generalize hm : 4294967295 - s = m at *
  have hm2 : m < 4294967296 := by omega
  refine ⟨by simp [tabC], ?_⟩
  rw [show overL [.int .u32 0, .int .u32 0, .int .u32 0, .int .u32 0, .int .u32 0, .int .u32 0, .int .u32 0, .int .u32 0, .int .u32 0, .int .u32 0, .int .u32 0, .int .u32 0, .int .u32 0, .int .u32 0, .int .u32 0, .int .u32 0] 0 (tabC 16) = tabC 16 from rfl]
  refine aw_loopU (α := Nat) (fun k => k ≤ l.length) (fun k => [(14, .int .i64 (k : Nat)), (6, .int .u32 (crcN m l k : Nat))]) (fun k => []) (fun k => l.length - k) (0) (Nat.zero_le _) ?_ fun k hk => ?_
  · (simp only [wrC, wrOs, keepT, memN, setsL, setsO, setL, setO, snocO, List.cons_append, List.nil_append, List.append_nil, Nat.reduceAdd, Nat.zero_add, Wk, mtc, mtcS, mtcSL, mtc0, mtc0L, mtcL, mtcO, mtcOs, cutM, takeE, stA, rl, renV, renL, ren1, ren1L, ren, rens, renO, Nat.blt, lenO, getO, setO, setL, anys, u8s]; simp [u8s])
    rfl
  have hlt := crcN_lt hm2 hby k
  (simp only [wrC, wrOs, keepT, memN, setsL, setsO, setL, setO, snocO, List.cons_append, List.nil_append, List.append_nil, Nat.reduceAdd, Nat.zero_add, u8s]; (refine eval_sound 2000 _ _ _ ?_; simp (maxSteps := 1000000) only [ptrL, lenV, Bool.not_true, Bool.not_false, lookR, valOf, asGrow, jump, findA, restA, and, Nat.reduceAdd, Nat.reduceSub, Nat.reduceMul, Int.reduceToNat, eval, nf, nfO, opN, appTo, rowsV, getL, setL, getO, setO, snocO, lenO, putL, ev, evs, ifEq, killV, killL, kill1, kill1L, kill, kills, killO, killOs, bin, binI, binS, binB, eq1, eqB, lit, sameK, kn, unI, mxA, mnA, mkAgg, fits, partN, partA, resN, retV, allVal, isVal, allCell, isCell, okVal, okCell, cellsOf, fillN, rowsN, cellsN, bnd, lohi, offAt, overL, segL, leave, NodeOK, List.cons_append, List.nil_append, List.append_nil, catA, anys, lenA]))
  simp only [decide_eq_true_eq, decide_eq_false_iff_not, List.length_map]
  refine ⟨fun h1 => ?_, fun h1 => ?_⟩
  · have hk2 : k < l.length := by omega
    obtain ⟨y, hy⟩ : ∃ y, l[k]? = some y := ⟨_, List.getElem?_eq_getElem hk2⟩
    have hyb := hby y (List.mem_of_getElem? hy)
    obtain ⟨c, rfl⟩ : ∃ c : Nat, y = c := ⟨y.toNat, by omega⟩
    have wk : IntKind.i64.wrap ((k : Int) + 1) = ((k + 1 : Nat) : Int) := by rw [wr64 (by omega) (by omega)]; rfl
    have hst : crcN m l (k + 1) = hN 8 (crcN m l k ^^^ c) := by show hN 8 (crcN m l k ^^^ (l[k]?.getD 0).toNat) = _; rw [hy]; rfl
    refine ⟨by omega, [.int .u8 c], by rw [List.getElem?_map, Int.toNat_natCast, hy]; rfl, ?_⟩
    (refine eval_sound 2000 _ _ _ ?_; simp (maxSteps := 1000000) only [ptrL, lenV, Bool.not_true, Bool.not_false, lookR, valOf, asGrow, jump, findA, restA, and, Nat.reduceAdd, Nat.reduceSub, Nat.reduceMul, Int.reduceToNat, eval, nf, nfO, opN, appTo, rowsV, getL, setL, getO, setO, snocO, lenO, putL, ev, evs, ifEq, killV, killL, kill1, kill1L, kill, kills, killO, killOs, bin, binI, binS, binB, eq1, eqB, lit, sameK, kn, unI, mxA, mnA, mkAgg, fits, partN, partA, resN, retV, allVal, isVal, allCell, isCell, okVal, okCell, cellsOf, fillN, rowsN, cellsN, bnd, lohi, offAt, overL, segL, leave, NodeOK, List.cons_append, List.nil_append, List.append_nil, catA, anys, lenA])
    rw [wr32N (n := c) (by omega), xor32 hlt (by omega)]
    have hx0 : crcN m l k ^^^ c < 4294967296 := Nat.xor_lt_two_pow (n := 32) hlt (by omega)
    generalize crcN m l k ^^^ c = x at *
    refine aw_loopU (α := Nat) (fun j => j ≤ 2) (fun j => [(22, .int .i64 (j : Nat)), (6, .int .u32 (hN (4 * j) x : Nat))]) (fun j => []) (fun j => 2 - j) (0) (Nat.zero_le _) ?_ fun j hj => ?_
    · (simp only [wrC, wrOs, keepT, memN, setsL, setsO, setL, setO, snocO, List.cons_append, List.nil_append, List.append_nil, Nat.reduceAdd, Nat.zero_add, Wk, mtc, mtcS, mtcSL, mtc0, mtc0L, mtcL, mtcO, mtcOs, cutM, takeE, stA, rl, renV, renL, ren1, ren1L, ren, rens, renO, Nat.blt, lenO, getO, setO, setL, anys, u8s]; simp [u8s])
      rfl
    have hxl := hN_lt hx0 (4 * j)
    (simp only [wrC, wrOs, keepT, memN, setsL, setsO, setL, setO, snocO, List.cons_append, List.nil_append, List.append_nil, Nat.reduceAdd, Nat.zero_add, u8s]; (refine eval_sound 2000 _ _ _ ?_; simp (maxSteps := 1000000) only [ptrL, lenV, Bool.not_true, Bool.not_false, lookR, valOf, asGrow, jump, findA, restA, and, Nat.reduceAdd, Nat.reduceSub, Nat.reduceMul, Int.reduceToNat, eval, nf, nfO, opN, appTo, rowsV, getL, setL, getO, setO, snocO, lenO, putL, ev, evs, ifEq, killV, killL, kill1, kill1L, kill, kills, killO, killOs, bin, binI, binS, binB, eq1, eqB, lit, sameK, kn, unI, mxA, mnA, mkAgg, fits, partN, partA, resN, retV, allVal, isVal, allCell, isCell, okVal, okCell, cellsOf, fillN, rowsN, cellsN, bnd, lohi, offAt, overL, segL, leave, NodeOK, List.cons_append, List.nil_append, List.append_nil, catA, anys, lenA]))
    simp only [decide_eq_true_eq, decide_eq_false_iff_not]
    refine ⟨fun h2 => ?_, fun h2 => ?_⟩
    · have wj : IntKind.i64.wrap ((j : Int) + 1) = ((j + 1 : Nat) : Int) := by rw [wr64 (by omega) (by omega)]; rfl
      have hnx : hN (4 * (j + 1)) x = hN 4 (hN (4 * j) x) := by rw [show 4 * (j + 1) = 4 + 4 * j by omega, hN_add]
      generalize hN (4 * j) x = z at *
      have h3 := and32 (a := z) 4 (by omega) hxl
      rw [show ((2 ^ 4 - 1 : Nat) : Int) = 15 from rfl] at h3
      have h4 : (z : Int).fdiv (2 ^ min 4 IntKind.u32.bits) = ((z / 16 : Nat) : Int) := fdivN z 4
      have h5 := hN_lt (n := z % 16) (by omega) 4
      rw [h3, h4]
      refine ⟨by omega, ⟨by omega, by omega⟩, .int .u32 (hN 4 (z % 16) : Nat), ?_, ?_⟩
      · rw [show 0 + (((z % 2 ^ 4 : Nat) : Int)).toNat * 1 = z % 16 by omega]
        unfold tabC
        rw [List.getElem?_map, List.getElem?_range (by omega), Option.map_some, if_pos (by omega)]
      · (refine eval_sound 2000 _ _ _ ?_; simp (maxSteps := 1000000) only [ptrL, lenV, Bool.not_true, Bool.not_false, lookR, valOf, asGrow, jump, findA, restA, and, Nat.reduceAdd, Nat.reduceSub, Nat.reduceMul, Int.reduceToNat, eval, nf, nfO, opN, appTo, rowsV, getL, setL, getO, setO, snocO, lenO, putL, ev, evs, ifEq, killV, killL, kill1, kill1L, kill, kills, killO, killOs, bin, binI, binS, binB, eq1, eqB, lit, sameK, kn, unI, mxA, mnA, mkAgg, fits, partN, partA, resN, retV, allVal, isVal, allCell, isCell, okVal, okCell, cellsOf, fillN, rowsN, cellsN, bnd, lohi, offAt, overL, segL, leave, NodeOK, List.cons_append, List.nil_append, List.append_nil, catA, anys, lenA])
        rw [xor32 (by omega) h5, ← hN_four, wj]
        refine ⟨j + 1, by omega, by omega, ?_⟩
        rw [hnx]
        (simp only [wrC, wrOs, keepT, memN, setsL, setsO, setL, setO, snocO, List.cons_append, List.nil_append, List.append_nil, Nat.reduceAdd, Nat.zero_add, Wk, mtc, mtcS, mtcSL, mtc0, mtc0L, mtcL, mtcO, mtcOs, cutM, takeE, stA, rl, renV, renL, ren1, ren1L, ren, rens, renO, Nat.blt, lenO, getO, setO, setL, anys, u8s]; simp [u8s])
    · obtain rfl : j = 2 := by omega
      rw [wk]
      refine ⟨k + 1, by omega, by omega, ?_⟩
      rw [hst]
      (simp only [wrC, wrOs, keepT, memN, setsL, setsO, setL, setO, snocO, List.cons_append, List.nil_append, List.append_nil, Nat.reduceAdd, Nat.zero_add, Wk, mtc, mtcS, mtcSL, mtc0, mtc0L, mtcL, mtcO, mtcOs, cutM, takeE, stA, rl, renV, renL, ren1, ren1L, ren, rens, renO, Nat.blt, lenO, getO, setO, setL, anys, u8s]; simp [u8s])
  · obtain rfl : k = l.length := by omega
    rw [not32 hlt]
    ((repeat (with_reducible refine And.intro ?_ ?_; focus (simp; done))); refine ⟨[], rfl, _, _, ?_, ?_, rfl, rfl⟩ <;> simp [Wk, mtc, mtcS, mtcSL, mtc0, mtc0L, mtcL, mtcO, mtcOs, cutM, takeE, stA, rl, renV, renL, ren1, ren1L, ren, rens, renO, Nat.blt, lenO, getO, setO, setL, anys, okS, endM, endH, idxN, takeE, pickE, catO, rl, renV, renL, ren1, ren1L, ren, rens, renO, Nat.blt, lenO, getO, setO, setL, anys, u8s])
theorem bit_c (n b : Nat) (hn : n < 4294967296) (hb2 : b < 2) : ACalls Try.prog 98 [.int .u32 n, .int .u32 b] [] (fun r hs => r = .int .u32 (hb (n ^^^ b) : Nat) ∧ hs = []) := by
  have hx : n ^^^ b < 4294967296 := Nat.xor_lt_two_pow (n := 32) hn (by omega)
  have h0 := xor32 hn (b := b) (by omega)
  have h1 := and32 (a := n ^^^ b) 1 (by omega) hx
  have h2 : (n : Int).fdiv (2 ^ min 1 IntKind.u32.bits) = ((n / 2 : Nat) : Int) := fdivN n 1
  rw [show ((2 ^ 1 - 1 : Nat) : Int) = 1 from rfl] at h1
  have h3 := bit_hb n b hb2
  have h4 := xor32 (a := n / 2) (b := 2197175160) (by omega) (by decide)
  rw [show ((2197175160 : Nat) : Int) = 2197175160 from rfl] at h4
  generalize hb (n ^^^ b) = y at *
  refine acalls_weak (acalls_of (fn := Try.f98) (A := a98) Try.func98 ok_98 en_98 ?_)
  dsimp only [a98, u8s]
  (refine eval_sound 2000 _ _ _ ?_; simp (maxSteps := 1000000) only [ptrL, lenV, Bool.not_true, Bool.not_false, lookR, valOf, asGrow, jump, findA, restA, and, Nat.reduceAdd, Nat.reduceSub, Nat.reduceMul, Int.reduceToNat, eval, nf, nfO, opN, appTo, rowsV, getL, setL, getO, setO, snocO, lenO, putL, ev, evs, ifEq, killV, killL, kill1, kill1L, kill, kills, killO, killOs, bin, binI, binS, binB, eq1, eqB, lit, sameK, kn, unI, mxA, mnA, mkAgg, fits, partN, partA, resN, retV, allVal, isVal, allCell, isCell, okVal, okCell, cellsOf, fillN, rowsN, cellsN, bnd, lohi, offAt, overL, segL, leave, NodeOK, List.cons_append, List.nil_append, List.append_nil, catA, anys, lenA])
  rw [h0, h1]
  refine ⟨by omega, fun h => ?_, fun h => ?_⟩
  · rw [if_pos (by simp at h; omega)] at h3
    rw [h2, h4]
    rw [show hP = 2197175160 from rfl] at h3
    rw [h3]
    ((repeat (with_reducible refine And.intro ?_ ?_; focus (simp; done))); refine ⟨[], rfl, _, _, ?_, ?_, rfl, rfl⟩ <;> simp [Wk, mtc, mtcS, mtcSL, mtc0, mtc0L, mtcL, mtcO, mtcOs, cutM, takeE, stA, rl, renV, renL, ren1, ren1L, ren, rens, renO, Nat.blt, lenO, getO, setO, setL, anys, okS, endM, endH, idxN, takeE, pickE, catO, rl, renV, renL, ren1, ren1L, ren, rens, renO, Nat.blt, lenO, getO, setO, setL, anys, u8s])
  · rw [if_neg (by simp at h; omega), Nat.xor_zero] at h3
    rw [h2, h3]
    ((repeat (with_reducible refine And.intro ?_ ?_; focus (simp; done))); refine ⟨[], rfl, _, _, ?_, ?_, rfl, rfl⟩ <;> simp [Wk, mtc, mtcS, mtcSL, mtc0, mtc0L, mtcL, mtcO, mtcOs, cutM, takeE, stA, rl, renV, renL, ren1, ren1L, ren, rens, renO, Nat.blt, lenO, getO, setO, setL, anys, okS, endM, endH, idxN, takeE, pickE, catO, rl, renV, renL, ren1, ren1L, ren, rens, renO, Nat.blt, lenO, getO, setO, setL, anys, u8s])
theorem rmore_c (s : Nat) (hs : s < 4294967296) (l : List Int) (hl : l.length ≤ 9223372036854775807) (hb2 : ByteL l) : ACalls Try.prog 89 [.int .u32 s, .ro 1 (u8s l)] [] (fun r hs => r = .int .u32 (4294967295 - crcN (4294967295 - s) l l.length : Nat) ∧ hs = []) := by
  have hby : ∀ x ∈ l, 0 ≤ x ∧ x < 256 := fun x hx => by have := hb2 x hx; omega
  have hxo : ∀ a : Nat, a < 4294967296 → a ^^^ 4294967295 = 4294967295 - a := by
    intro a ha
    have h1 := not32 ha
    have h2 := xor32 (a := 4294967295) (b := a) (by decide) ha
    have e : (BitVec.ofInt IntKind.u32.bits (if IntKind.u32.signed then -1 else IntKind.u32.max)) = BitVec.ofInt IntKind.u32.bits ((4294967295 : Nat) : Int) := by
      show BitVec.ofInt 32 4294967295 = BitVec.ofInt 32 ((4294967295 : Nat) : Int)
      rfl
    rw [e, h2] at h1
    rw [Nat.xor_comm]
    omega
  have hn0 := xor32 hs (b := 4294967295) (by decide)
  rw [hxo s hs, show ((4294967295 : Nat) : Int) = 4294967295 from rfl] at hn0
  refine acalls_weak (acalls_of (fn := Try.f89) (A := a89) Try.func89 ok_89 en_89 ?_)
  dsimp only [a89, u8s]
  (refine eval_sound 2000 _ _ _ ?_; simp (maxSteps := 1000000) only [ptrL, lenV, Bool.not_true, Bool.not_false, lookR, valOf, asGrow, jump, findA, restA, and, Nat.reduceAdd, Nat.reduceSub, Nat.reduceMul, Int.reduceToNat, eval, nf, nfO, opN, appTo, rowsV, getL, setL, getO, setO, snocO, lenO, putL, ev, evs, ifEq, killV, killL, kill1, kill1L, kill, kills, killO, killOs, bin, binI, binS, binB, eq1, eqB, lit, sameK, kn, unI, mxA, mnA, mkAgg, fits, partN, partA, resN, retV, allVal, isVal, allCell, isCell, okVal, okCell, cellsOf, fillN, rowsN, cellsN, bnd, lohi, offAt, overL, segL, leave, NodeOK, List.cons_append, List.nil_append, List.append_nil, catA, anys, lenA])
  rw [hn0]
  generalize hm : 4294967295 - s = m at *
  have hm2 : m < 4294967296 := by omega
  refine aw_loopU (α := Nat) (fun i => i ≤ l.length) (fun i => [(6, .int .i64 (i : Nat)), (5, .int .u32 (crcN m l i : Nat))]) (fun i => []) (fun i => l.length - i) (0) (Nat.zero_le _) ?_ fun i hi => ?_
  · (simp only [wrC, wrOs, keepT, memN, setsL, setsO, setL, setO, snocO, List.cons_append, List.nil_append, List.append_nil, Nat.reduceAdd, Nat.zero_add, Wk, mtc, mtcS, mtcSL, mtc0, mtc0L, mtcL, mtcO, mtcOs, cutM, takeE, stA, rl, renV, renL, ren1, ren1L, ren, rens, renO, Nat.blt, lenO, getO, setO, setL, anys, u8s]; simp [u8s])
    rfl
  have hlt := crcN_lt hm2 hby i
  (simp only [wrC, wrOs, keepT, memN, setsL, setsO, setL, setO, snocO, List.cons_append, List.nil_append, List.append_nil, Nat.reduceAdd, Nat.zero_add, u8s]; (refine eval_sound 2000 _ _ _ ?_; simp (maxSteps := 1000000) only [ptrL, lenV, Bool.not_true, Bool.not_false, lookR, valOf, asGrow, jump, findA, restA, and, Nat.reduceAdd, Nat.reduceSub, Nat.reduceMul, Int.reduceToNat, eval, nf, nfO, opN, appTo, rowsV, getL, setL, getO, setO, snocO, lenO, putL, ev, evs, ifEq, killV, killL, kill1, kill1L, kill, kills, killO, killOs, bin, binI, binS, binB, eq1, eqB, lit, sameK, kn, unI, mxA, mnA, mkAgg, fits, partN, partA, resN, retV, allVal, isVal, allCell, isCell, okVal, okCell, cellsOf, fillN, rowsN, cellsN, bnd, lohi, offAt, overL, segL, leave, NodeOK, List.cons_append, List.nil_append, List.append_nil, catA, anys, lenA]))
  simp only [decide_eq_true_eq, decide_eq_false_iff_not, List.length_map]
  refine ⟨fun h1 => ?_, fun h1 => ?_⟩
  · have hk2 : i < l.length := by omega
    obtain ⟨y, hy⟩ : ∃ y, l[i]? = some y := ⟨_, List.getElem?_eq_getElem hk2⟩
    have hyb := hby y (List.mem_of_getElem? hy)
    obtain ⟨c, rfl⟩ : ∃ c : Nat, y = c := ⟨y.toNat, by omega⟩
    have wi : IntKind.i64.wrap ((i : Int) + 1) = ((i + 1 : Nat) : Int) := by rw [wr64 (by omega) (by omega)]; rfl
    have hst : crcN m l (i + 1) = hN 8 (crcN m l i ^^^ c) := by show hN 8 (crcN m l i ^^^ (l[i]?.getD 0).toNat) = _; rw [hy]; rfl
    refine aw_loopU (α := Nat) (fun k => k ≤ 8) (fun k => [(7, .int .i64 (k : Nat)), (5, .int .u32 (hN k (crcN m l i ^^^ c % 2 ^ k) : Nat))]) (fun k => []) (fun k => 8 - k) (0) (Nat.zero_le _) ?_ fun k hk => ?_
    · (simp only [wrC, wrOs, keepT, memN, setsL, setsO, setL, setO, snocO, List.cons_append, List.nil_append, List.append_nil, Nat.reduceAdd, Nat.zero_add, Wk, mtc, mtcS, mtcSL, mtc0, mtc0L, mtcL, mtcO, mtcOs, cutM, takeE, stA, rl, renV, renL, ren1, ren1L, ren, rens, renO, Nat.blt, lenO, getO, setO, setL, anys, u8s]; simp [u8s])
      rw [Nat.mod_one, Nat.xor_zero]
      rfl
    have hck : c % 2 ^ k < 4294967296 := Nat.lt_of_le_of_lt (Nat.mod_le _ _) (by omega)
    have hxl := hN_lt (Nat.xor_lt_two_pow (n := 32) hlt hck) k
    (simp only [wrC, wrOs, keepT, memN, setsL, setsO, setL, setO, snocO, List.cons_append, List.nil_append, List.append_nil, Nat.reduceAdd, Nat.zero_add, u8s]; (refine eval_sound 2000 _ _ _ ?_; simp (maxSteps := 1000000) only [ptrL, lenV, Bool.not_true, Bool.not_false, lookR, valOf, asGrow, jump, findA, restA, and, Nat.reduceAdd, Nat.reduceSub, Nat.reduceMul, Int.reduceToNat, eval, nf, nfO, opN, appTo, rowsV, getL, setL, getO, setO, snocO, lenO, putL, ev, evs, ifEq, killV, killL, kill1, kill1L, kill, kills, killO, killOs, bin, binI, binS, binB, eq1, eqB, lit, sameK, kn, unI, mxA, mnA, mkAgg, fits, partN, partA, resN, retV, allVal, isVal, allCell, isCell, okVal, okCell, cellsOf, fillN, rowsN, cellsN, bnd, lohi, offAt, overL, segL, leave, NodeOK, List.cons_append, List.nil_append, List.append_nil, catA, anys, lenA]))
    simp only [decide_eq_true_eq, decide_eq_false_iff_not]
    refine ⟨fun h2 => ?_, fun h2 => ?_⟩
    · have wk : IntKind.i64.wrap ((k : Int) + 1) = ((k + 1 : Nat) : Int) := by rw [wr64 (by omega) (by omega)]; rfl
      have hnb := hN_bit k (crcN m l i) c
      have hdl : c / 2 ^ k ≤ c := Nat.div_le_self _ _
      have hf : (c : Int).fdiv (2 ^ min (k : Int).toNat IntKind.u8.bits) = ((c / 2 ^ k : Nat) : Int) := by
        rw [Int.toNat_natCast, Nat.min_eq_left (show k ≤ IntKind.u8.bits by show k ≤ 8; omega)]; exact fdivN c k
      have h3 := and32 (a := c / 2 ^ k) 1 (by omega) (by omega)
      rw [show ((2 ^ 1 - 1 : Nat) : Int) = 1 from rfl] at h3
      refine ⟨by omega, [.int .u8 c], by rw [List.getElem?_map, Int.toNat_natCast, hy]; rfl, ?_⟩
      (refine eval_sound 2000 _ _ _ ?_; simp (maxSteps := 1000000) only [ptrL, lenV, Bool.not_true, Bool.not_false, lookR, valOf, asGrow, jump, findA, restA, and, Nat.reduceAdd, Nat.reduceSub, Nat.reduceMul, Int.reduceToNat, eval, nf, nfO, opN, appTo, rowsV, getL, setL, getO, setO, snocO, lenO, putL, ev, evs, ifEq, killV, killL, kill1, kill1L, kill, kills, killO, killOs, bin, binI, binS, binB, eq1, eqB, lit, sameK, kn, unI, mxA, mnA, mkAgg, fits, partN, partA, resN, retV, allVal, isVal, allCell, isCell, okVal, okCell, cellsOf, fillN, rowsN, cellsN, bnd, lohi, offAt, overL, segL, leave, NodeOK, List.cons_append, List.nil_append, List.append_nil, catA, anys, lenA])
      rw [hf, wr32N (n := c / 2 ^ k) (by omega), h3]
      refine ⟨by omega, ?_⟩
      ((repeat (with_reducible refine And.intro ?_ ?_; focus (simp; done))); refine aw_call (bit_c (hN k (crcN m l i ^^^ c % 2 ^ k)) (c / 2 ^ k % 2 ^ 1) hxl (by omega)) [] rfl (by simp [upM, nthN, matchO, rens, ren, ren1, ren1L, renL, renV, renO, rl, lenO, getO, Nat.blt, mtc, mtcS, mtcSL, mtc0, mtc0L, u8s]) rfl (by simp [upM, nthN, matchO, rens, ren, ren1, ren1L, renL, renV, renO, rl, lenO, getO, Nat.blt, mtc, mtcS, mtcSL, mtc0, mtc0L, u8s]) rfl (fun r hs hp hl => ?_); obtain ⟨rfl, rfl⟩ := hp; simp only [snocO, upM, nthN, putAll, snocAll, killsA, killOsA, grows, putL, rl, renV, renL, ren1, ren1L, ren, rens, renO, Nat.blt, lenO, getO, setO, setL, anys, u8s]; (refine eval_sound 2000 _ _ _ ?_; simp (maxSteps := 1000000) only [ptrL, lenV, Bool.not_true, Bool.not_false, lookR, valOf, asGrow, jump, findA, restA, and, Nat.reduceAdd, Nat.reduceSub, Nat.reduceMul, Int.reduceToNat, eval, nf, nfO, opN, appTo, rowsV, getL, setL, getO, setO, snocO, lenO, putL, ev, evs, ifEq, killV, killL, kill1, kill1L, kill, kills, killO, killOs, bin, binI, binS, binB, eq1, eqB, lit, sameK, kn, unI, mxA, mnA, mkAgg, fits, partN, partA, resN, retV, allVal, isVal, allCell, isCell, okVal, okCell, cellsOf, fillN, rowsN, cellsN, bnd, lohi, offAt, overL, segL, leave, NodeOK, List.cons_append, List.nil_append, List.append_nil, catA, anys, lenA]))
      rw [wk]
      refine ⟨k + 1, by omega, by omega, ?_⟩
      rw [hnb]
      (simp only [wrC, wrOs, keepT, memN, setsL, setsO, setL, setO, snocO, List.cons_append, List.nil_append, List.append_nil, Nat.reduceAdd, Nat.zero_add, Wk, mtc, mtcS, mtcSL, mtc0, mtc0L, mtcL, mtcO, mtcOs, cutM, takeE, stA, rl, renV, renL, ren1, ren1L, ren, rens, renO, Nat.blt, lenO, getO, setO, setL, anys, u8s]; simp [u8s])
    · obtain rfl : k = 8 := by omega
      rw [show c % 2 ^ 8 = c by omega, ← hst, wi]
      refine ⟨i + 1, by omega, by omega, ?_⟩
      (simp only [wrC, wrOs, keepT, memN, setsL, setsO, setL, setO, snocO, List.cons_append, List.nil_append, List.append_nil, Nat.reduceAdd, Nat.zero_add, Wk, mtc, mtcS, mtcSL, mtc0, mtc0L, mtcL, mtcO, mtcOs, cutM, takeE, stA, rl, renV, renL, ren1, ren1L, ren, rens, renO, Nat.blt, lenO, getO, setO, setL, anys, u8s]; simp [u8s])
  · obtain rfl : i = l.length := by omega
    have hx2 := xor32 hlt (b := 4294967295) (by decide)
    rw [hxo _ hlt, show ((4294967295 : Nat) : Int) = 4294967295 from rfl] at hx2
    rw [hx2]
    ((repeat (with_reducible refine And.intro ?_ ?_; focus (simp; done))); refine ⟨[], rfl, _, _, ?_, ?_, rfl, rfl⟩ <;> simp [Wk, mtc, mtcS, mtcSL, mtc0, mtc0L, mtcL, mtcO, mtcOs, cutM, takeE, stA, rl, renV, renL, ren1, ren1L, ren, rens, renO, Nat.blt, lenO, getO, setO, setL, anys, okS, endM, endH, idxN, takeE, pickE, catO, rl, renV, renL, ren1, ren1L, ren, rens, renO, Nat.blt, lenO, getO, setO, setL, anys, u8s])
end Go.Proofs.Ytjkmnmpjcdanhaa.S
