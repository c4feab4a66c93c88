/- Contracts, picked of my other texts. -/
import Derived.Test.YtjkmnmpjcdanhaaMg7
namespace Go.Proofs.Ytjkmnmpjcdanhaa.S
set_option linter.all false
set_option maxRecDepth 100000
set_option maxHeartbeats 1000000
theorem wruN {n : Nat} (h : n < 18446744073709551616) : IntKind.u64.wrap (n : Int) = n := IntWalk.u64_in _ ⟨by omega, by omega⟩
theorem bvN {n : Nat} (h : n < 18446744073709551616) : (BitVec.ofInt 64 (n : Int)).toNat = n := by
  rw [BitVec.toNat_ofInt]
  simp; omega
theorem andN {a b : Nat} (ha : a < 18446744073709551616) (hb : b < 18446744073709551616) : IntKind.u64.wrap ((BitVec.ofInt IntKind.u64.bits (a : Int) &&& BitVec.ofInt IntKind.u64.bits (b : Int)).toNat : Int) = ((a &&& b : Nat) : Int) := by
  show IntKind.u64.wrap ((BitVec.ofInt 64 (a : Int) &&& BitVec.ofInt 64 (b : Int)).toNat : Int) = _
  rw [BitVec.toNat_and, bvN ha, bvN hb]
  exact wruN (Nat.lt_of_le_of_lt Nat.and_le_left ha)
theorem orN {a b : Nat} (ha : a < 18446744073709551616) (hb : b < 18446744073709551616) : IntKind.u64.wrap ((BitVec.ofInt IntKind.u64.bits (a : Int) ||| BitVec.ofInt IntKind.u64.bits (b : Int)).toNat : Int) = ((a ||| b : Nat) : Int) := by
  show IntKind.u64.wrap ((BitVec.ofInt 64 (a : Int) ||| BitVec.ofInt 64 (b : Int)).toNat : Int) = _
  rw [BitVec.toNat_or, bvN ha, bvN hb]
  exact wruN (show a ||| b < 2 ^ 64 from Nat.or_lt_two_pow ha hb)
theorem shrN (a k : Nat) (ha : a < 18446744073709551616) : (a : Int).fdiv (2 ^ min ((k : Int)).toNat IntKind.u64.bits) = ((a >>> k : Nat) : Int) := by
  show (a : Int).fdiv (2 ^ min ((k : Int)).toNat 64) = _
  have hp : ∀ j : Nat, ((2 : Int) ^ j) = ((2 ^ j : Nat) : Int) := fun j => by norm_cast
  rw [Int.toNat_natCast, Int.fdiv_eq_ediv_of_nonneg _ (by rw [hp]; exact Int.natCast_nonneg _), Nat.shiftRight_eq_div_pow]
  by_cases h : k ≤ 64
  · rw [Nat.min_eq_left h]; norm_cast
  · rw [Nat.min_eq_right (by omega)]
    have h1 : a / 2 ^ 64 = 0 := Nat.div_eq_of_lt ha
    have h2 : a / 2 ^ k = 0 := Nat.div_eq_of_lt (Nat.lt_of_lt_of_le (m := 2 ^ 64) ha (Nat.pow_le_pow_right (by decide) (by omega)))
    rw [h2]
    have : ((a : Int) / 2 ^ 64) = ((a / 2 ^ 64 : Nat) : Int) := by norm_cast
    rw [this, h1]
theorem shl1N (k : Nat) (hk : k < 64) : IntKind.u64.wrap ((1 : Int) * 2 ^ min ((k : Int)).toNat IntKind.u64.bits) = ((1 <<< k : Nat) : Int) := by
  show IntKind.u64.wrap ((1 : Int) * 2 ^ min ((k : Int)).toNat 64) = _
  rw [Int.toNat_natCast, Nat.min_eq_left (by omega), Nat.one_shiftLeft, Int.one_mul]
  have h : 2 ^ k < 18446744073709551616 := Nat.pow_lt_pow_right (by omega) hk
  have := wruN h
  rw [← this]
  norm_cast
def cnt : Nat → Nat → Nat
  | 0, _ => 0
  | f + 1, x => x % 2 + cnt f (x / 2)
def val : List Nat → Nat
  | [] => 0
  | b :: l => b + 256 * val l
def rep (c : Nat) : Nat → Nat
  | 0 => 0
  | k + 1 => c + 256 * rep c k
theorem and_split (a b x y : Nat) (ha : a < 256) (hb : b < 256) : (a + 256 * x) &&& (b + 256 * y) = (a &&& b) + 256 * (x &&& y) := by
  have h1 : ((a + 256 * x) &&& (b + 256 * y)) % 2 ^ 8 = a &&& b := by
    rw [Nat.and_mod_two_pow, show (a + 256 * x) % 2 ^ 8 = a by omega, show (b + 256 * y) % 2 ^ 8 = b by omega]
  have h2 : ((a + 256 * x) &&& (b + 256 * y)) / 2 ^ 8 = x &&& y := by
    rw [Nat.and_div_two_pow, show (a + 256 * x) / 2 ^ 8 = x by omega, show (b + 256 * y) / 2 ^ 8 = y by omega]
  omega
def p1 (b : Nat) : Nat := (b / 2 &&& 85) + (b &&& 85)
def p2 (b : Nat) : Nat := (b / 4 &&& 51) + (b &&& 51)
def p3 (b : Nat) : Nat := (b / 16 + b) % 16
theorem c1 : ∀ b : Fin 256, ∀ c : Fin 2, ((b.val / 2 + 128 * c.val) &&& 85) = b.val / 2 &&& 85 := by decide +kernel
theorem c2 : ∀ b : Fin 256, ∀ c : Fin 4, ((b.val / 4 + 64 * c.val) &&& 51) = b.val / 4 &&& 51 := by decide +kernel
theorem st1 : ∀ l : List Nat, (∀ b ∈ l, b < 256) → (val l / 2 &&& rep 85 l.length) + (val l &&& rep 85 l.length) = val (l.map p1)
  | [], _ => rfl
  | b :: l, h => by
    have ih := st1 l fun x hx => h x (by simp [hx])
    have hb := h b (by simp)
    have e := c1 ⟨b, hb⟩ ⟨val l % 2, by omega⟩
    simp only at e
    have e1 : (b + 256 * val l) / 2 = (b / 2 + 128 * (val l % 2)) + 256 * (val l / 2) := by omega
    simp only [val, rep, List.length_cons, List.map_cons]
    rw [e1, and_split _ _ _ _ (by omega) (by omega), and_split _ _ _ _ hb (by omega), e, ← ih]
    unfold p1
    omega
theorem st2 : ∀ l : List Nat, (∀ b ∈ l, b < 256) → (val l / 4 &&& rep 51 l.length) + (val l &&& rep 51 l.length) = val (l.map p2)
  | [], _ => rfl
  | b :: l, h => by
    have ih := st2 l fun x hx => h x (by simp [hx])
    have hb := h b (by simp)
    have e := c2 ⟨b, hb⟩ ⟨val l % 4, by omega⟩
    simp only at e
    have e1 : (b + 256 * val l) / 4 = (b / 4 + 64 * (val l % 4)) + 256 * (val l / 4) := by omega
    simp only [val, rep, List.length_cons, List.map_cons]
    rw [e1, and_split _ _ _ _ (by omega) (by omega), and_split _ _ _ _ hb (by omega), e, ← ih]
    unfold p2
    omega
theorem st3 : ∀ l : List Nat, (∀ b ∈ l, b % 16 ≤ 4 ∧ b / 16 ≤ 4) → ((val l / 16 + val l) &&& rep 15 l.length) = val (l.map p3)
  | [], _ => rfl
  | b :: l, h => by
    have ih := st3 l fun x hx => h x (by simp [hx])
    obtain ⟨hb1, hb2⟩ := h b (by simp)
    have hl : val l % 16 ≤ 4 := by
      cases l with
      | nil => simp [val]
      | cons c l => have := (h c (by simp)).1; simp only [val]; omega
    have e1 : (b + 256 * val l) / 16 + (b + 256 * val l) = (b / 16 + 16 * (val l % 16) + b) + 256 * (val l / 16 + val l) := by omega
    simp only [val, rep, List.length_cons, List.map_cons]
    rw [e1, and_split _ _ _ _ (by omega) (by omega), ih, show (15 : Nat) = 2 ^ 4 - 1 by rfl, Nat.and_two_pow_sub_one_eq_mod]
    unfold p3
    omega
theorem p_all : ∀ b : Fin 256, p1 b.val < 256 ∧ p2 (p1 b.val) < 256 ∧ (p2 (p1 b.val) % 16 ≤ 4 ∧ p2 (p1 b.val) / 16 ≤ 4) ∧ p3 (p2 (p1 b.val)) = cnt 8 b.val ∧ cnt 8 b.val ≤ 8 := by decide +kernel
theorem cnt_split : ∀ (k f b x : Nat), b < 2 ^ k → cnt (k + f) (b + 2 ^ k * x) = cnt k b + cnt f x
  | 0, f, b, x, h => by
    have : b = 0 := by simpa using h
    subst this
    simp [cnt]
  | k + 1, f, b, x, h => by
    rw [show k + 1 + f = (k + f) + 1 by omega]
    simp only [cnt]
    have h2 : b / 2 < 2 ^ k := by rw [Nat.pow_succ] at h; omega
    have e1 : (b + 2 ^ (k + 1) * x) % 2 = b % 2 := by
      rw [Nat.pow_succ, show 2 ^ k * 2 * x = 2 * (2 ^ k * x) by rw [Nat.mul_comm (2 ^ k) 2, Nat.mul_assoc]]; omega
    have e2 : (b + 2 ^ (k + 1) * x) / 2 = b / 2 + 2 ^ k * x := by
      rw [Nat.pow_succ, show 2 ^ k * 2 * x = 2 * (2 ^ k * x) by rw [Nat.mul_comm (2 ^ k) 2, Nat.mul_assoc]]; omega
    rw [e1, e2, cnt_split k f (b / 2) x h2]
    omega
theorem bytes8 (x : Nat) (h : x < 18446744073709551616) : ∃ b0 b1 b2 b3 b4 b5 b6 b7 : Nat, x = val [b0, b1, b2, b3, b4, b5, b6, b7] ∧ ∀ b ∈ [b0, b1, b2, b3, b4, b5, b6, b7], b < 256 := by
  refine ⟨x % 256, x / 256 % 256, x / 65536 % 256, x / 16777216 % 256, x / 4294967296 % 256, x / 1099511627776 % 256, x / 281474976710656 % 256, x / 72057594037927936 % 256, ?_, ?_⟩
  · simp only [val]; omega
  · intro b hb
    simp at hb
    omega
theorem cnt64 (x : Nat) (h : x < 18446744073709551616) : cnt 64 x ≤ 64 := by
  have : ∀ f x, cnt f x ≤ f := by
    intro f
    induction f with
    | zero => intro x; exact Nat.le_refl _
    | succ f ih => intro x; have := ih (x / 2); simp only [cnt]; omega
  exact this 64 x
set_option maxHeartbeats 4000000 in
theorem swar (x : Nat) (h : x < 18446744073709551616) :
    let a := (x / 2 &&& 6148914691236517205) + (x &&& 6148914691236517205)
    let b := (a / 4 &&& 3689348814741910323) + (a &&& 3689348814741910323)
    let c := ((b / 16 + b) &&& 1085102592571150095)
    let d := c + c / 256
    let e := d + d / 65536
    let g := e + e / 4294967296
    a < 18446744073709551616 ∧ b < 18446744073709551616 ∧ b / 16 + b < 18446744073709551616 ∧ c < 18446744073709551616 ∧ d < 18446744073709551616 ∧ e < 18446744073709551616 ∧ g < 18446744073709551616 ∧ g % 128 = cnt 64 x := by
  obtain ⟨b0, b1, b2, b3, b4, b5, b6, b7, hx, hb⟩ := bytes8 x h
  have q := fun (b : Nat) (hm : b ∈ [b0, b1, b2, b3, b4, b5, b6, b7]) => p_all ⟨b, hb b hm⟩
  have s1 := st1 [b0, b1, b2, b3, b4, b5, b6, b7] hb
  rw [← hx, show rep 85 [b0, b1, b2, b3, b4, b5, b6, b7].length = 6148914691236517205 from rfl] at s1
  have s2 := st2 ([b0, b1, b2, b3, b4, b5, b6, b7].map p1) (fun b hm => by
    obtain ⟨c, hc, rfl⟩ := List.mem_map.1 hm
    exact (q c hc).1)
  rw [show rep 51 ([b0, b1, b2, b3, b4, b5, b6, b7].map p1).length = 3689348814741910323 from rfl] at s2
  have s3 := st3 (([b0, b1, b2, b3, b4, b5, b6, b7].map p1).map p2) (fun b hm => by
    obtain ⟨c, hc, rfl⟩ := List.mem_map.1 hm
    obtain ⟨c', hc', rfl⟩ := List.mem_map.1 hc
    exact (q c' hc').2.2.1)
  rw [show rep 15 (([b0, b1, b2, b3, b4, b5, b6, b7].map p1).map p2).length = 1085102592571150095 from rfl] at s3
  have hcnt : cnt 64 x = cnt 8 b0 + (cnt 8 b1 + (cnt 8 b2 + (cnt 8 b3 + (cnt 8 b4 + (cnt 8 b5 + (cnt 8 b6 + cnt 8 b7)))))) := by
    have z := fun (b : Nat) (hm : b ∈ [b0, b1, b2, b3, b4, b5, b6, b7]) (f y : Nat) => cnt_split 8 f b y (hb b hm)
    rw [hx]
    simp only [val]
    rw [show (64 : Nat) = 8 + 56 from rfl, show (256 : Nat) = 2 ^ 8 from rfl, z b0 (by simp) 56, show (56 : Nat) = 8 + 48 from rfl, z b1 (by simp) 48, show (48 : Nat) = 8 + 40 from rfl, z b2 (by simp) 40, show (40 : Nat) = 8 + 32 from rfl, z b3 (by simp) 32, show (32 : Nat) = 8 + 24 from rfl, z b4 (by simp) 24, show (24 : Nat) = 8 + 16 from rfl, z b5 (by simp) 16, show (16 : Nat) = 8 + 8 from rfl, z b6 (by simp) 8, show (8 : Nat) = 8 + 0 from rfl, z b7 (by simp) 0]
    rfl
  intro a b c d e g
  have ha : a = val ([b0, b1, b2, b3, b4, b5, b6, b7].map p1) := s1
  have hbb : b = val (([b0, b1, b2, b3, b4, b5, b6, b7].map p1).map p2) := by rw [← s2, ← ha]
  have hc : c = val ((([b0, b1, b2, b3, b4, b5, b6, b7].map p1).map p2).map p3) := by rw [← s3, ← hbb]
  simp only [List.map_cons, List.map_nil, val] at ha hbb hc
  obtain ⟨g1, g2, g3, g4, g5⟩ := q b0 (by simp)
  obtain ⟨i1, i2, i3, i4, i5⟩ := q b1 (by simp)
  obtain ⟨j1, j2, j3, j4, j5⟩ := q b2 (by simp)
  obtain ⟨k1, k2, k3, k4, k5⟩ := q b3 (by simp)
  obtain ⟨l1, l2, l3, l4, l5⟩ := q b4 (by simp)
  obtain ⟨m1, m2, m3, m4, m5⟩ := q b5 (by simp)
  obtain ⟨n1, n2, n3, n4, n5⟩ := q b6 (by simp)
  obtain ⟨o1, o2, o3, o4, o5⟩ := q b7 (by simp)
  simp only at g1 g2 g3 g4 g5 i1 i2 i3 i4 i5 j1 j2 j3 j4 j5 k1 k2 k3 k4 k5 l1 l2 l3 l4 l5 m1 m2 m3 m4 m5 n1 n2 n3 n4 n5 o1 o2 o3 o4 o5
  rw [g4, i4, j4, k4, l4, m4, n4, o4] at hc
  rw [hcnt]
  have hd : d = c + c / 256 := rfl
  have he : e = d + d / 65536 := rfl
  have hg : g = e + e / 4294967296 := rfl
  clear_value a b c d e g
  generalize cnt 8 b0 = r0 at *
  generalize cnt 8 b1 = r1 at *
  generalize cnt 8 b2 = r2 at *
  generalize cnt 8 b3 = r3 at *
  generalize cnt 8 b4 = r4 at *
  generalize cnt 8 b5 = r5 at *
  generalize cnt 8 b6 = r6 at *
  generalize cnt 8 b7 = r7 at *
  clear s1 s2 s3 q hb hx hcnt
  refine ⟨by omega, by omega, by omega, by omega, by omega, by omega, by omega, ?_⟩
  have hd' : d = (r0 + r1) + 256 * ((r1 + r2) + 256 * ((r2 + r3) + 256 * ((r3 + r4) + 256 * ((r4 + r5) + 256 * ((r5 + r6) + 256 * ((r6 + r7) + 256 * r7)))))) := by
    have : c / 256 = r1 + 256 * (r2 + 256 * (r3 + 256 * (r4 + 256 * (r5 + 256 * (r6 + 256 * r7))))) := by omega
    omega
  have he' : e % 256 = r0 + r1 + r2 + r3 ∧ e / 4294967296 % 256 = r4 + r5 + r6 + r7 := by
    have : d / 65536 = (r2 + r3) + 256 * ((r3 + r4) + 256 * ((r4 + r5) + 256 * ((r5 + r6) + 256 * ((r6 + r7) + 256 * r7)))) := by omega
    have : e = (r0 + r1 + r2 + r3) + 256 * ((r1 + r2 + r3 + r4) + 256 * ((r2 + r3 + r4 + r5) + 256 * ((r3 + r4 + r5 + r6) + 256 * ((r4 + r5 + r6 + r7) + 256 * ((r5 + r6 + r7) + 256 * ((r6 + r7) + 256 * r7)))))) := by omega
    have h1 : ∃ B, e = (r0 + r1 + r2 + r3) + 256 * B := ⟨_, this⟩
    have h2 : ∃ lo hi, lo < 4294967296 ∧ e = lo + 4294967296 * ((r4 + r5 + r6 + r7) + 256 * hi) := ⟨(r0 + r1 + r2 + r3) + 256 * ((r1 + r2 + r3 + r4) + 256 * ((r2 + r3 + r4 + r5) + 256 * (r3 + r4 + r5 + r6))), (r5 + r6 + r7) + 256 * ((r6 + r7) + 256 * r7), by omega, by omega⟩
    clear this hd' hd he hg ha hbb hc
    obtain ⟨B, h1⟩ := h1
    obtain ⟨lo, hi, h2, h3⟩ := h2
    constructor
    · clear h3; omega
    · clear h1; omega
  clear hd' hd he ha hbb hc
  omega
theorem xorN {a b : Nat} (ha : a < 18446744073709551616) (hb : b < 18446744073709551616) : IntKind.u64.wrap ((BitVec.ofInt IntKind.u64.bits (a : Int) ^^^ BitVec.ofInt IntKind.u64.bits (b : Int)).toNat : Int) = ((a ^^^ b : Nat) : Int) := by
  show IntKind.u64.wrap ((BitVec.ofInt 64 (a : Int) ^^^ BitVec.ofInt 64 (b : Int)).toNat : Int) = _
  rw [BitVec.toNat_xor, bvN ha, bvN hb]
  exact wruN (show a ^^^ b < 2 ^ 64 from Nat.xor_lt_two_pow ha hb)
theorem divN (a k : Nat) (ha : a < 18446744073709551616) : (a : Int).fdiv (2 ^ min ((k : Int)).toNat IntKind.u64.bits) = ((a / 2 ^ k : Nat) : Int) := by rw [shrN a k ha, Nat.shiftRight_eq_div_pow]
theorem sumN {a b : Nat} (h : a + b < 18446744073709551616) : IntKind.u64.wrap ((a : Int) + (b : Int)) = ((a + b : Nat) : Int) := by
  rw [show (a : Int) + (b : Int) = ((a + b : Nat) : Int) by omega]; exact wruN h
theorem and127a (K : Nat) (q7 : K < 18446744073709551616) : (BitVec.ofInt 64 (IntKind.i64.wrap (K : Int))).toNat = K := by
  rw [BitVec.toNat_ofInt, IntKind.wrap_i64]
  have : ((2 ^ 64 : Nat) : Int) = 18446744073709551616 := by decide
  rw [this]
  omega
theorem and127b : (BitVec.ofInt 64 127).toNat = 127 := by decide
theorem and127 (K : Nat) (q7 : K < 18446744073709551616) : IntKind.i64.wrap ((BitVec.ofInt IntKind.i64.bits (IntKind.i64.wrap (K : Int)) &&& BitVec.ofInt IntKind.i64.bits 127).toNat : Int) = ((K % 128 : Nat) : Int) := by
  have h : IntKind.i64.bits = 64 := rfl
  rw [h, BitVec.toNat_and, and127a K q7, and127b, show 127 = 2 ^ 7 - 1 from rfl, Nat.and_two_pow_sub_one_eq_mod]
  exact wr64 (by omega) (by omega)
theorem ones_c (x : Nat) (h : x < 18446744073709551616) : ACalls Try.prog 86 [.int .u64 (x : Int)] [] (fun r hs => r = .int .i64 (cnt 64 x : Nat) ∧ hs = []) := by
  have q := swar x h
  dsimp only at q
  obtain ⟨q1, q2, q3, q4, q5, q6, q7, q8⟩ := q
  have q9 := cnt64 x h
  refine acalls_weak (acalls_of (fn := Try.f86) (A := a86) Try.func86 ok_86 en_86 ?_)
  dsimp only [a86]
  have m1 : (6148914691236517205 : Int) = ((6148914691236517205 : Nat) : Int) := rfl
  have m2 : (3689348814741910323 : Int) = ((3689348814741910323 : Nat) : Int) := rfl
  have m3 : (1085102592571150095 : Int) = ((1085102592571150095 : Nat) : Int) := rfl
  have dv : ∀ (y k : Nat), y < 18446744073709551616 → (y : Int).fdiv (2 ^ min (Int.toNat ((k : Nat) : Int)) IntKind.u64.bits) = ((y / 2 ^ k : Nat) : Int) := fun y k hy => divN y k hy
  (refine eval_sound 13 _ _ _ ?_; simp only [ptrL, lenV, Bool.not_true, Bool.not_false, lookR, valOf, asGrow, jump, findA, restA, and, Nat.reduceAdd, Nat.reduceSub, Nat.reduceMul, Int.reduceToNat, eval, nf, nfO, opN, appTo, rowsV, getL, setL, getO, setO, snocO, lenO, putL, ev, evs, ifEq, killV, killL, kill1, kill1L, kill, kills, killO, killOs, bin, binI, binS, binB, eq1, eqB, lit, sameK, kn, unI, mxA, mnA, mkAgg, fits, partN, partA, resN, retV, allVal, isVal, allCell, isCell, okVal, okCell, cellsOf, fillN, rowsN, cellsN, bnd, lohi, offAt, overL, segL, leave, NodeOK, List.cons_append, List.nil_append, List.append_nil, catA, anys, lenA])
  have d1 : (x : Int).fdiv (2 ^ min 1 IntKind.u64.bits) = ((x / 2 : Nat) : Int) := dv x 1 h
  rw [d1, m1, andN (a := x / 2) (by omega) (by decide), andN h (by decide), sumN q1]
  generalize (x / 2 &&& 6148914691236517205) + (x &&& 6148914691236517205) = A at *
  refine ⟨by omega, ?_⟩
  (refine eval_sound 9 _ _ _ ?_; simp only [ptrL, lenV, Bool.not_true, Bool.not_false, lookR, valOf, asGrow, jump, findA, restA, and, Nat.reduceAdd, Nat.reduceSub, Nat.reduceMul, Int.reduceToNat, eval, nf, nfO, opN, appTo, rowsV, getL, setL, getO, setO, snocO, lenO, putL, ev, evs, ifEq, killV, killL, kill1, kill1L, kill, kills, killO, killOs, bin, binI, binS, binB, eq1, eqB, lit, sameK, kn, unI, mxA, mnA, mkAgg, fits, partN, partA, resN, retV, allVal, isVal, allCell, isCell, okVal, okCell, cellsOf, fillN, rowsN, cellsN, bnd, lohi, offAt, overL, segL, leave, NodeOK, List.cons_append, List.nil_append, List.append_nil, catA, anys, lenA])
  have d2 : (A : Int).fdiv (2 ^ min 2 IntKind.u64.bits) = ((A / 4 : Nat) : Int) := dv A 2 q1
  rw [d2, m2, andN (a := A / 4) (by omega) (by decide), andN q1 (by decide), sumN q2]
  generalize (A / 4 &&& 3689348814741910323) + (A &&& 3689348814741910323) = B at *
  refine ⟨by omega, ?_⟩
  (refine eval_sound 9 _ _ _ ?_; simp only [ptrL, lenV, Bool.not_true, Bool.not_false, lookR, valOf, asGrow, jump, findA, restA, and, Nat.reduceAdd, Nat.reduceSub, Nat.reduceMul, Int.reduceToNat, eval, nf, nfO, opN, appTo, rowsV, getL, setL, getO, setO, snocO, lenO, putL, ev, evs, ifEq, killV, killL, kill1, kill1L, kill, kills, killO, killOs, bin, binI, binS, binB, eq1, eqB, lit, sameK, kn, unI, mxA, mnA, mkAgg, fits, partN, partA, resN, retV, allVal, isVal, allCell, isCell, okVal, okCell, cellsOf, fillN, rowsN, cellsN, bnd, lohi, offAt, overL, segL, leave, NodeOK, List.cons_append, List.nil_append, List.append_nil, catA, anys, lenA])
  have d3 : (B : Int).fdiv (2 ^ min 4 IntKind.u64.bits) = ((B / 16 : Nat) : Int) := dv B 4 q2
  rw [d3, m3, sumN q3, andN q3 (by decide)]
  generalize (B / 16 + B &&& 1085102592571150095) = C at *
  refine ⟨by omega, ?_⟩
  (refine eval_sound 8 _ _ _ ?_; simp only [ptrL, lenV, Bool.not_true, Bool.not_false, lookR, valOf, asGrow, jump, findA, restA, and, Nat.reduceAdd, Nat.reduceSub, Nat.reduceMul, Int.reduceToNat, eval, nf, nfO, opN, appTo, rowsV, getL, setL, getO, setO, snocO, lenO, putL, ev, evs, ifEq, killV, killL, kill1, kill1L, kill, kills, killO, killOs, bin, binI, binS, binB, eq1, eqB, lit, sameK, kn, unI, mxA, mnA, mkAgg, fits, partN, partA, resN, retV, allVal, isVal, allCell, isCell, okVal, okCell, cellsOf, fillN, rowsN, cellsN, bnd, lohi, offAt, overL, segL, leave, NodeOK, List.cons_append, List.nil_append, List.append_nil, catA, anys, lenA])
  have d4 : (C : Int).fdiv (2 ^ min 8 IntKind.u64.bits) = ((C / 256 : Nat) : Int) := dv C 8 q4
  rw [d4, sumN q5]
  generalize C + C / 256 = D at *
  refine ⟨by omega, ?_⟩
  (refine eval_sound 8 _ _ _ ?_; simp only [ptrL, lenV, Bool.not_true, Bool.not_false, lookR, valOf, asGrow, jump, findA, restA, and, Nat.reduceAdd, Nat.reduceSub, Nat.reduceMul, Int.reduceToNat, eval, nf, nfO, opN, appTo, rowsV, getL, setL, getO, setO, snocO, lenO, putL, ev, evs, ifEq, killV, killL, kill1, kill1L, kill, kills, killO, killOs, bin, binI, binS, binB, eq1, eqB, lit, sameK, kn, unI, mxA, mnA, mkAgg, fits, partN, partA, resN, retV, allVal, isVal, allCell, isCell, okVal, okCell, cellsOf, fillN, rowsN, cellsN, bnd, lohi, offAt, overL, segL, leave, NodeOK, List.cons_append, List.nil_append, List.append_nil, catA, anys, lenA])
  have d5 : (D : Int).fdiv (2 ^ min 16 IntKind.u64.bits) = ((D / 65536 : Nat) : Int) := dv D 16 q5
  rw [d5, sumN q6]
  generalize D + D / 65536 = G at *
  refine ⟨by omega, ?_⟩
  (refine eval_sound 8 _ _ _ ?_; simp only [ptrL, lenV, Bool.not_true, Bool.not_false, lookR, valOf, asGrow, jump, findA, restA, and, Nat.reduceAdd, Nat.reduceSub, Nat.reduceMul, Int.reduceToNat, eval, nf, nfO, opN, appTo, rowsV, getL, setL, getO, setO, snocO, lenO, putL, ev, evs, ifEq, killV, killL, kill1, kill1L, kill, kills, killO, killOs, bin, binI, binS, binB, eq1, eqB, lit, sameK, kn, unI, mxA, mnA, mkAgg, fits, partN, partA, resN, retV, allVal, isVal, allCell, isCell, okVal, okCell, cellsOf, fillN, rowsN, cellsN, bnd, lohi, offAt, overL, segL, leave, NodeOK, List.cons_append, List.nil_append, List.append_nil, catA, anys, lenA])
  have d6 : (G : Int).fdiv (2 ^ min 32 IntKind.u64.bits) = ((G / 4294967296 : Nat) : Int) := dv G 32 q6
  rw [d6, sumN q7]
  generalize G + G / 4294967296 = K at *
  refine ⟨by omega, ?_⟩
  (refine eval_sound 2000 _ _ _ ?_; simp (maxSteps := 1000000) only [ptrL, lenV, Bool.not_true, Bool.not_false, lookR, valOf, asGrow, jump, findA, restA, and, Nat.reduceAdd, Nat.reduceSub, Nat.reduceMul, Int.reduceToNat, eval, nf, nfO, opN, appTo, rowsV, getL, setL, getO, setO, snocO, lenO, putL, ev, evs, ifEq, killV, killL, kill1, kill1L, kill, kills, killO, killOs, bin, binI, binS, binB, eq1, eqB, lit, sameK, kn, unI, mxA, mnA, mkAgg, fits, partN, partA, resN, retV, allVal, isVal, allCell, isCell, okVal, okCell, cellsOf, fillN, rowsN, cellsN, bnd, lohi, offAt, overL, segL, leave, NodeOK, List.cons_append, List.nil_append, List.append_nil, catA, anys, lenA])
  rw [and127 K q7, q8]
  ((repeat (with_reducible refine And.intro ?_ ?_; focus (simp; done))); refine ⟨[], rfl, _, _, ?_, ?_, rfl, rfl⟩ <;> simp [Wk, mtc, mtcS, mtcSL, mtc0, mtc0L, mtcL, mtcO, mtcOs, cutM, takeE, stA, rl, renV, renL, ren1, ren1L, ren, rens, renO, Nat.blt, lenO, getO, setO, setL, anys, okS, endM, endH, idxN, takeE, pickE, catO, rl, renV, renL, ren1, ren1L, ren, rens, renO, Nat.blt, lenO, getO, setO, setL, anys, u8s])
theorem size_c (x : Nat) (h : x < 18446744073709551616) : ACalls Try.prog 67 [.int .u64 (x : Int)] [] (fun r hs => r = .int .i64 (cnt 64 x : Nat) ∧ hs = []) := by
  have hO := ones_c x h
  refine acalls_weak (acalls_of (fn := Try.f67) (A := a67) Try.func67 ok_67 en_67 ?_)
  dsimp only [a67, u8s]
  (refine eval_sound 2000 _ _ _ ?_; simp (maxSteps := 1000000) only [ptrL, lenV, Bool.not_true, Bool.not_false, lookR, valOf, asGrow, jump, findA, restA, and, Nat.reduceAdd, Nat.reduceSub, Nat.reduceMul, Int.reduceToNat, eval, nf, nfO, opN, appTo, rowsV, getL, setL, getO, setO, snocO, lenO, putL, ev, evs, ifEq, killV, killL, kill1, kill1L, kill, kills, killO, killOs, bin, binI, binS, binB, eq1, eqB, lit, sameK, kn, unI, mxA, mnA, mkAgg, fits, partN, partA, resN, retV, allVal, isVal, allCell, isCell, okVal, okCell, cellsOf, fillN, rowsN, cellsN, bnd, lohi, offAt, overL, segL, leave, NodeOK, List.cons_append, List.nil_append, List.append_nil, catA, anys, lenA])
  ((repeat (with_reducible refine And.intro ?_ ?_; focus (simp; done))); refine aw_call (hO) [] rfl (by simp [upM, nthN, matchO, rens, ren, ren1, ren1L, renL, renV, renO, rl, lenO, getO, Nat.blt, mtc, mtcS, mtcSL, mtc0, mtc0L]) rfl (by simp [upM, nthN, matchO, rens, ren, ren1, ren1L, renL, renV, renO, rl, lenO, getO, Nat.blt, mtc, mtcS, mtcSL, mtc0, mtc0L]) rfl (fun r hs hp hl => ?_); obtain ⟨rfl, rfl⟩ := hp; simp only [snocO, upM, nthN, putAll, snocAll, killsA, killOsA, grows, putL, rl, renV, renL, ren1, ren1L, ren, rens, renO, Nat.blt, lenO, getO, setO, setL, anys]; (refine eval_sound 2000 _ _ _ ?_; simp (maxSteps := 1000000) only [ptrL, lenV, Bool.not_true, Bool.not_false, lookR, valOf, asGrow, jump, findA, restA, and, Nat.reduceAdd, Nat.reduceSub, Nat.reduceMul, Int.reduceToNat, eval, nf, nfO, opN, appTo, rowsV, getL, setL, getO, setO, snocO, lenO, putL, ev, evs, ifEq, killV, killL, kill1, kill1L, kill, kills, killO, killOs, bin, binI, binS, binB, eq1, eqB, lit, sameK, kn, unI, mxA, mnA, mkAgg, fits, partN, partA, resN, retV, allVal, isVal, allCell, isCell, okVal, okCell, cellsOf, fillN, rowsN, cellsN, bnd, lohi, offAt, overL, segL, leave, NodeOK, List.cons_append, List.nil_append, List.append_nil, catA, anys, lenA]))
  ((repeat (with_reducible refine And.intro ?_ ?_; focus (simp; done))); refine ⟨[], rfl, _, _, ?_, ?_, rfl, rfl⟩ <;> simp [Wk, mtc, mtcS, mtcSL, mtc0, mtc0L, mtcL, mtcO, mtcOs, cutM, takeE, stA, rl, renV, renL, ren1, ren1L, ren, rens, renO, Nat.blt, lenO, getO, setO, setL, anys, okS, endM, endH, idxN, takeE, pickE, catO, rl, renV, renL, ren1, ren1L, ren, rens, renO, Nat.blt, lenO, getO, setO, setL, anys, u8s])
theorem maj_c (a b : Nat) (ha : a < 18446744073709551616) (hb : b < 18446744073709551616) : ACalls Try.prog 40 [.int .u64 (a : Int), .int .u64 (b : Int)] [] (fun r hs => r = .bool (decide (2 * cnt 64 (a &&& b) > cnt 64 b)) ∧ hs = []) := by
  have hab : a &&& b < 18446744073709551616 := Nat.lt_of_le_of_lt Nat.and_le_left ha
  have h1 := size_c (a &&& b) hab
  have h2 := size_c b hb
  have g1 := cnt64 (a &&& b) hab
  refine acalls_weak (acalls_of (fn := Try.f40) (A := a40) Try.func40 ok_40 en_40 ?_)
  dsimp only [a40, u8s]
  (refine eval_sound 2000 _ _ _ ?_; simp (maxSteps := 1000000) only [ptrL, lenV, Bool.not_true, Bool.not_false, lookR, valOf, asGrow, jump, findA, restA, and, Nat.reduceAdd, Nat.reduceSub, Nat.reduceMul, Int.reduceToNat, eval, nf, nfO, opN, appTo, rowsV, getL, setL, getO, setO, snocO, lenO, putL, ev, evs, ifEq, killV, killL, kill1, kill1L, kill, kills, killO, killOs, bin, binI, binS, binB, eq1, eqB, lit, sameK, kn, unI, mxA, mnA, mkAgg, fits, partN, partA, resN, retV, allVal, isVal, allCell, isCell, okVal, okCell, cellsOf, fillN, rowsN, cellsN, bnd, lohi, offAt, overL, segL, leave, NodeOK, List.cons_append, List.nil_append, List.append_nil, catA, anys, lenA])
  rw [andN ha hb]
  ((repeat (with_reducible refine And.intro ?_ ?_; focus (simp; done))); refine aw_call (h1) [] rfl (by simp [upM, nthN, matchO, rens, ren, ren1, ren1L, renL, renV, renO, rl, lenO, getO, Nat.blt, mtc, mtcS, mtcSL, mtc0, mtc0L]) rfl (by simp [upM, nthN, matchO, rens, ren, ren1, ren1L, renL, renV, renO, rl, lenO, getO, Nat.blt, mtc, mtcS, mtcSL, mtc0, mtc0L]) rfl (fun r hs hp hl => ?_); obtain ⟨rfl, rfl⟩ := hp; simp only [snocO, upM, nthN, putAll, snocAll, killsA, killOsA, grows, putL, rl, renV, renL, ren1, ren1L, ren, rens, renO, Nat.blt, lenO, getO, setO, setL, anys]; (refine eval_sound 2000 _ _ _ ?_; simp (maxSteps := 1000000) only [ptrL, lenV, Bool.not_true, Bool.not_false, lookR, valOf, asGrow, jump, findA, restA, and, Nat.reduceAdd, Nat.reduceSub, Nat.reduceMul, Int.reduceToNat, eval, nf, nfO, opN, appTo, rowsV, getL, setL, getO, setO, snocO, lenO, putL, ev, evs, ifEq, killV, killL, kill1, kill1L, kill, kills, killO, killOs, bin, binI, binS, binB, eq1, eqB, lit, sameK, kn, unI, mxA, mnA, mkAgg, fits, partN, partA, resN, retV, allVal, isVal, allCell, isCell, okVal, okCell, cellsOf, fillN, rowsN, cellsN, bnd, lohi, offAt, overL, segL, leave, NodeOK, List.cons_append, List.nil_append, List.append_nil, catA, anys, lenA]))
  ((repeat (with_reducible refine And.intro ?_ ?_; focus (simp; done))); refine aw_call (h2) [] rfl (by simp [upM, nthN, matchO, rens, ren, ren1, ren1L, renL, renV, renO, rl, lenO, getO, Nat.blt, mtc, mtcS, mtcSL, mtc0, mtc0L]) rfl (by simp [upM, nthN, matchO, rens, ren, ren1, ren1L, renL, renV, renO, rl, lenO, getO, Nat.blt, mtc, mtcS, mtcSL, mtc0, mtc0L]) rfl (fun r hs hp hl => ?_); obtain ⟨rfl, rfl⟩ := hp; simp only [snocO, upM, nthN, putAll, snocAll, killsA, killOsA, grows, putL, rl, renV, renL, ren1, ren1L, ren, rens, renO, Nat.blt, lenO, getO, setO, setL, anys]; (refine eval_sound 2000 _ _ _ ?_; simp (maxSteps := 1000000) only [ptrL, lenV, Bool.not_true, Bool.not_false, lookR, valOf, asGrow, jump, findA, restA, and, Nat.reduceAdd, Nat.reduceSub, Nat.reduceMul, Int.reduceToNat, eval, nf, nfO, opN, appTo, rowsV, getL, setL, getO, setO, snocO, lenO, putL, ev, evs, ifEq, killV, killL, kill1, kill1L, kill, kills, killO, killOs, bin, binI, binS, binB, eq1, eqB, lit, sameK, kn, unI, mxA, mnA, mkAgg, fits, partN, partA, resN, retV, allVal, isVal, allCell, isCell, okVal, okCell, cellsOf, fillN, rowsN, cellsN, bnd, lohi, offAt, overL, segL, leave, NodeOK, List.cons_append, List.nil_append, List.append_nil, catA, anys, lenA]))
  have : decide (IntKind.i64.wrap (2 * ((cnt 64 (a &&& b) : Nat) : Int)) > ((cnt 64 b : Nat) : Int)) = decide (2 * cnt 64 (a &&& b) > cnt 64 b) := by
    rw [wr64 (by omega) (by omega)]
    exact decide_eq_decide.2 (by omega)
  rw [this]
  ((repeat (with_reducible refine And.intro ?_ ?_; focus (simp; done))); refine ⟨[], rfl, _, _, ?_, ?_, rfl, rfl⟩ <;> simp [Wk, mtc, mtcS, mtcSL, mtc0, mtc0L, mtcL, mtcO, mtcOs, cutM, takeE, stA, rl, renV, renL, ren1, ren1L, ren, rens, renO, Nat.blt, lenO, getO, setO, setL, anys, okS, endM, endH, idxN, takeE, pickE, catO, rl, renV, renL, ren1, ren1L, ren, rens, renO, Nat.blt, lenO, getO, setO, setL, anys, u8s])
end Go.Proofs.Ytjkmnmpjcdanhaa.S
