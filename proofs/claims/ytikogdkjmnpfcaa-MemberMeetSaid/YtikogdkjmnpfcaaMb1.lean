/- How many ones a number has: math/bits.OnesCount64. -/
import Derived.Test.YtikogdkjmnpfcaaMbO
namespace Go.Proofs.Ytikogdkjmnpfcaa.S
set_option linter.all false
set_option maxRecDepth 100000
def cnt : Nat → Nat → Nat
  | 0, _ => 0
  | f + 1, x => x % 2 + cnt f (x / 2)
def val : List Nat → Nat
  | [] => 0
  | b :: l => b + 256 * val l
def rep (c : Nat) : Nat → Nat
  | 0 => 0
  | k + 1 => c + 256 * rep c k
theorem and_split (a b x y : Nat) (ha : a < 256) (hb : b < 256) : (a + 256 * x) &&& (b + 256 * y) = (a &&& b) + 256 * (x &&& y) := by
  have h1 : ((a + 256 * x) &&& (b + 256 * y)) % 2 ^ 8 = a &&& b := by
    rw [Nat.and_mod_two_pow, show (a + 256 * x) % 2 ^ 8 = a by omega, show (b + 256 * y) % 2 ^ 8 = b by omega]
  have h2 : ((a + 256 * x) &&& (b + 256 * y)) / 2 ^ 8 = x &&& y := by
    rw [Nat.and_div_two_pow, show (a + 256 * x) / 2 ^ 8 = x by omega, show (b + 256 * y) / 2 ^ 8 = y by omega]
  omega
def p1 (b : Nat) : Nat := (b / 2 &&& 85) + (b &&& 85)
def p2 (b : Nat) : Nat := (b / 4 &&& 51) + (b &&& 51)
def p3 (b : Nat) : Nat := (b / 16 + b) % 16
theorem c1 : ∀ b : Fin 256, ∀ c : Fin 2, ((b.val / 2 + 128 * c.val) &&& 85) = b.val / 2 &&& 85 := by decide +kernel
theorem c2 : ∀ b : Fin 256, ∀ c : Fin 4, ((b.val / 4 + 64 * c.val) &&& 51) = b.val / 4 &&& 51 := by decide +kernel
theorem st1 : ∀ l : List Nat, (∀ b ∈ l, b < 256) → (val l / 2 &&& rep 85 l.length) + (val l &&& rep 85 l.length) = val (l.map p1)
  | [], _ => rfl
  | b :: l, h => by
    have ih := st1 l fun x hx => h x (by simp [hx])
    have hb := h b (by simp)
    have e := c1 ⟨b, hb⟩ ⟨val l % 2, by omega⟩
    simp only at e
    have e1 : (b + 256 * val l) / 2 = (b / 2 + 128 * (val l % 2)) + 256 * (val l / 2) := by omega
    simp only [val, rep, List.length_cons, List.map_cons]
    rw [e1, and_split _ _ _ _ (by omega) (by omega), and_split _ _ _ _ hb (by omega), e, ← ih]
    unfold p1
    omega
theorem st2 : ∀ l : List Nat, (∀ b ∈ l, b < 256) → (val l / 4 &&& rep 51 l.length) + (val l &&& rep 51 l.length) = val (l.map p2)
  | [], _ => rfl
  | b :: l, h => by
    have ih := st2 l fun x hx => h x (by simp [hx])
    have hb := h b (by simp)
    have e := c2 ⟨b, hb⟩ ⟨val l % 4, by omega⟩
    simp only at e
    have e1 : (b + 256 * val l) / 4 = (b / 4 + 64 * (val l % 4)) + 256 * (val l / 4) := by omega
    simp only [val, rep, List.length_cons, List.map_cons]
    rw [e1, and_split _ _ _ _ (by omega) (by omega), and_split _ _ _ _ hb (by omega), e, ← ih]
    unfold p2
    omega
theorem st3 : ∀ l : List Nat, (∀ b ∈ l, b % 16 ≤ 4 ∧ b / 16 ≤ 4) → ((val l / 16 + val l) &&& rep 15 l.length) = val (l.map p3)
  | [], _ => rfl
  | b :: l, h => by
    have ih := st3 l fun x hx => h x (by simp [hx])
    obtain ⟨hb1, hb2⟩ := h b (by simp)
    have hl : val l % 16 ≤ 4 := by
      cases l with
      | nil => simp [val]
      | cons c l => have := (h c (by simp)).1; simp only [val]; omega
    have e1 : (b + 256 * val l) / 16 + (b + 256 * val l) = (b / 16 + 16 * (val l % 16) + b) + 256 * (val l / 16 + val l) := by omega
    simp only [val, rep, List.length_cons, List.map_cons]
    rw [e1, and_split _ _ _ _ (by omega) (by omega), ih, show (15 : Nat) = 2 ^ 4 - 1 by rfl, Nat.and_two_pow_sub_one_eq_mod]
    unfold p3
    omega
theorem p_all : ∀ b : Fin 256, p1 b.val < 256 ∧ p2 (p1 b.val) < 256 ∧ (p2 (p1 b.val) % 16 ≤ 4 ∧ p2 (p1 b.val) / 16 ≤ 4) ∧ p3 (p2 (p1 b.val)) = cnt 8 b.val ∧ cnt 8 b.val ≤ 8 := by decide +kernel
theorem cnt_split : ∀ (k f b x : Nat), b < 2 ^ k → cnt (k + f) (b + 2 ^ k * x) = cnt k b + cnt f x
  | 0, f, b, x, h => by
    have : b = 0 := by simpa using h
    subst this
    simp [cnt]
  | k + 1, f, b, x, h => by
    rw [show k + 1 + f = (k + f) + 1 by omega]
    simp only [cnt]
    have h2 : b / 2 < 2 ^ k := by rw [Nat.pow_succ] at h; omega
    have e1 : (b + 2 ^ (k + 1) * x) % 2 = b % 2 := by
      rw [Nat.pow_succ, show 2 ^ k * 2 * x = 2 * (2 ^ k * x) by rw [Nat.mul_comm (2 ^ k) 2, Nat.mul_assoc]]; omega
    have e2 : (b + 2 ^ (k + 1) * x) / 2 = b / 2 + 2 ^ k * x := by
      rw [Nat.pow_succ, show 2 ^ k * 2 * x = 2 * (2 ^ k * x) by rw [Nat.mul_comm (2 ^ k) 2, Nat.mul_assoc]]; omega
    rw [e1, e2, cnt_split k f (b / 2) x h2]
    omega
theorem bytes8 (x : Nat) (h : x < 18446744073709551616) : ∃ b0 b1 b2 b3 b4 b5 b6 b7 : Nat, x = val [b0, b1, b2, b3, b4, b5, b6, b7] ∧ ∀ b ∈ [b0, b1, b2, b3, b4, b5, b6, b7], b < 256 := by
  refine ⟨x % 256, x / 256 % 256, x / 65536 % 256, x / 16777216 % 256, x / 4294967296 % 256, x / 1099511627776 % 256, x / 281474976710656 % 256, x / 72057594037927936 % 256, ?_, ?_⟩
  · simp only [val]; omega
  · intro b hb
    simp at hb
    omega
theorem cnt64 (x : Nat) (h : x < 18446744073709551616) : cnt 64 x ≤ 64 := by
  have : ∀ f x, cnt f x ≤ f := by
    intro f
    induction f with
    | zero => intro x; exact Nat.le_refl _
    | succ f ih => intro x; have := ih (x / 2); simp only [cnt]; omega
  exact this 64 x
set_option maxHeartbeats 4000000 in
theorem swar (x : Nat) (h : x < 18446744073709551616) :
    let a := (x / 2 &&& 6148914691236517205) + (x &&& 6148914691236517205)
    let b := (a / 4 &&& 3689348814741910323) + (a &&& 3689348814741910323)
    let c := ((b / 16 + b) &&& 1085102592571150095)
    let d := c + c / 256
    let e := d + d / 65536
    let g := e + e / 4294967296
    a < 18446744073709551616 ∧ b < 18446744073709551616 ∧ b / 16 + b < 18446744073709551616 ∧ c < 18446744073709551616 ∧ d < 18446744073709551616 ∧ e < 18446744073709551616 ∧ g < 18446744073709551616 ∧ g % 128 = cnt 64 x := by
  obtain ⟨b0, b1, b2, b3, b4, b5, b6, b7, hx, hb⟩ := bytes8 x h
  have q := fun (b : Nat) (hm : b ∈ [b0, b1, b2, b3, b4, b5, b6, b7]) => p_all ⟨b, hb b hm⟩
  have s1 := st1 [b0, b1, b2, b3, b4, b5, b6, b7] hb
  rw [← hx, show rep 85 [b0, b1, b2, b3, b4, b5, b6, b7].length = 6148914691236517205 from rfl] at s1
  have s2 := st2 ([b0, b1, b2, b3, b4, b5, b6, b7].map p1) (fun b hm => by
    obtain ⟨c, hc, rfl⟩ := List.mem_map.1 hm
    exact (q c hc).1)
  rw [show rep 51 ([b0, b1, b2, b3, b4, b5, b6, b7].map p1).length = 3689348814741910323 from rfl] at s2
  have s3 := st3 (([b0, b1, b2, b3, b4, b5, b6, b7].map p1).map p2) (fun b hm => by
    obtain ⟨c, hc, rfl⟩ := List.mem_map.1 hm
    obtain ⟨c', hc', rfl⟩ := List.mem_map.1 hc
    exact (q c' hc').2.2.1)
  rw [show rep 15 (([b0, b1, b2, b3, b4, b5, b6, b7].map p1).map p2).length = 1085102592571150095 from rfl] at s3
  have hcnt : cnt 64 x = cnt 8 b0 + (cnt 8 b1 + (cnt 8 b2 + (cnt 8 b3 + (cnt 8 b4 + (cnt 8 b5 + (cnt 8 b6 + cnt 8 b7)))))) := by
    have z := fun (b : Nat) (hm : b ∈ [b0, b1, b2, b3, b4, b5, b6, b7]) (f y : Nat) => cnt_split 8 f b y (hb b hm)
    rw [hx]
    simp only [val]
    rw [show (64 : Nat) = 8 + 56 from rfl, show (256 : Nat) = 2 ^ 8 from rfl, z b0 (by simp) 56, show (56 : Nat) = 8 + 48 from rfl, z b1 (by simp) 48, show (48 : Nat) = 8 + 40 from rfl, z b2 (by simp) 40, show (40 : Nat) = 8 + 32 from rfl, z b3 (by simp) 32, show (32 : Nat) = 8 + 24 from rfl, z b4 (by simp) 24, show (24 : Nat) = 8 + 16 from rfl, z b5 (by simp) 16, show (16 : Nat) = 8 + 8 from rfl, z b6 (by simp) 8, show (8 : Nat) = 8 + 0 from rfl, z b7 (by simp) 0]
    rfl
  intro a b c d e g
  have ha : a = val ([b0, b1, b2, b3, b4, b5, b6, b7].map p1) := s1
  have hbb : b = val (([b0, b1, b2, b3, b4, b5, b6, b7].map p1).map p2) := by rw [← s2, ← ha]
  have hc : c = val ((([b0, b1, b2, b3, b4, b5, b6, b7].map p1).map p2).map p3) := by rw [← s3, ← hbb]
  simp only [List.map_cons, List.map_nil, val] at ha hbb hc
  obtain ⟨g1, g2, g3, g4, g5⟩ := q b0 (by simp)
  obtain ⟨i1, i2, i3, i4, i5⟩ := q b1 (by simp)
  obtain ⟨j1, j2, j3, j4, j5⟩ := q b2 (by simp)
  obtain ⟨k1, k2, k3, k4, k5⟩ := q b3 (by simp)
  obtain ⟨l1, l2, l3, l4, l5⟩ := q b4 (by simp)
  obtain ⟨m1, m2, m3, m4, m5⟩ := q b5 (by simp)
  obtain ⟨n1, n2, n3, n4, n5⟩ := q b6 (by simp)
  obtain ⟨o1, o2, o3, o4, o5⟩ := q b7 (by simp)
  simp only at g1 g2 g3 g4 g5 i1 i2 i3 i4 i5 j1 j2 j3 j4 j5 k1 k2 k3 k4 k5 l1 l2 l3 l4 l5 m1 m2 m3 m4 m5 n1 n2 n3 n4 n5 o1 o2 o3 o4 o5
  rw [g4, i4, j4, k4, l4, m4, n4, o4] at hc
  rw [hcnt]
  have hd : d = c + c / 256 := rfl
  have he : e = d + d / 65536 := rfl
  have hg : g = e + e / 4294967296 := rfl
  clear_value a b c d e g
  generalize cnt 8 b0 = r0 at *
  generalize cnt 8 b1 = r1 at *
  generalize cnt 8 b2 = r2 at *
  generalize cnt 8 b3 = r3 at *
  generalize cnt 8 b4 = r4 at *
  generalize cnt 8 b5 = r5 at *
  generalize cnt 8 b6 = r6 at *
  generalize cnt 8 b7 = r7 at *
  clear s1 s2 s3 q hb hx hcnt
  refine ⟨by omega, by omega, by omega, by omega, by omega, by omega, by omega, ?_⟩
  have hd' : d = (r0 + r1) + 256 * ((r1 + r2) + 256 * ((r2 + r3) + 256 * ((r3 + r4) + 256 * ((r4 + r5) + 256 * ((r5 + r6) + 256 * ((r6 + r7) + 256 * r7)))))) := by
    have : c / 256 = r1 + 256 * (r2 + 256 * (r3 + 256 * (r4 + 256 * (r5 + 256 * (r6 + 256 * r7))))) := by omega
    omega
  have he' : e % 256 = r0 + r1 + r2 + r3 ∧ e / 4294967296 % 256 = r4 + r5 + r6 + r7 := by
    have : d / 65536 = (r2 + r3) + 256 * ((r3 + r4) + 256 * ((r4 + r5) + 256 * ((r5 + r6) + 256 * ((r6 + r7) + 256 * r7)))) := by omega
    have : e = (r0 + r1 + r2 + r3) + 256 * ((r1 + r2 + r3 + r4) + 256 * ((r2 + r3 + r4 + r5) + 256 * ((r3 + r4 + r5 + r6) + 256 * ((r4 + r5 + r6 + r7) + 256 * ((r5 + r6 + r7) + 256 * ((r6 + r7) + 256 * r7)))))) := by omega
    have h1 : ∃ B, e = (r0 + r1 + r2 + r3) + 256 * B := ⟨_, this⟩
    have h2 : ∃ lo hi, lo < 4294967296 ∧ e = lo + 4294967296 * ((r4 + r5 + r6 + r7) + 256 * hi) := ⟨(r0 + r1 + r2 + r3) + 256 * ((r1 + r2 + r3 + r4) + 256 * ((r2 + r3 + r4 + r5) + 256 * (r3 + r4 + r5 + r6))), (r5 + r6 + r7) + 256 * ((r6 + r7) + 256 * r7), by omega, by omega⟩
    clear this hd' hd he hg ha hbb hc
    obtain ⟨B, h1⟩ := h1
    obtain ⟨lo, hi, h2, h3⟩ := h2
    constructor
    · clear h3; omega
    · clear h1; omega
  clear hd' hd he ha hbb hc
  omega
end Go.Proofs.Ytikogdkjmnpfcaa.S
