/- Decrees: what is written and read. -/
import Derived.Test.YtikogdkjmnpfcaaDc4
namespace Go.Proofs.Ytikogdkjmnpfcaa.S
set_option linter.all false
set_option maxRecDepth 100000
set_option maxHeartbeats 1000000
theorem rl_text {b l : List Int} {bad : Bool} {k : Int} (hb : ByteL b) (h : Rl b l bad k) : (txtR l bad).1 = (txtF b k bad).1 ∧ (txtR l bad).2.2 = (txtF b k bad).2.2 ∧ Rl b (txtR l bad).2.1 (txtR l bad).2.2 (txtF b k bad).2.1 := by
  obtain ⟨h1, h2, h3⟩ := rl_num 2 hb h
  unfold txtR txtF
  simp only [h1]
  split
  · exact rl_take _ ⟨h3.1, h3.2.1, by simp⟩
  · rw [← h2]; exact rl_take _ h3
def opsL (l : List (Int × Int)) : List (List AV) := l.map fun o => [.int .i64 o.1, .int .i64 o.2]
set_option maxHeartbeats 4000000 in
theorem prV_prF (b : List Int) (hb : ByteL b) : (prV b).1 = (prF b).1 ∧ endR (prV b).2.1 (prV b).2.2 = endF b (prF b).2.1 (prF b).2.2 := by
  have st : ∀ {l : List Int} {x y : Bool} {k : Int} (n : Int), Rl b l x k → x = y → (numV l x n).1 = (numF b k y n).1 ∧ (numV l x n).2.2 = (numF b k y n).2.2 ∧ Rl b (numV l x n).2.1 (numV l x n).2.2 (numF b k y n).2.1 := by
    intro l x y k n h e; subst e; exact rl_num n hb h
  have tt : ∀ {l : List Int} {x y : Bool} {k : Int}, Rl b l x k → x = y → (txtR l x).1 = (txtF b k y).1 ∧ (txtR l x).2.2 = (txtF b k y).2.2 ∧ Rl b (txtR l x).2.1 (txtR l x).2.2 (txtF b k y).2.1 := by
    intro l x y k h e; subst e; exact rl_text hb h
  have r0 : Rl b b false 0 := by simp [Rl]
  obtain ⟨v1, e1, r1⟩ := st 1 r0 rfl
  obtain ⟨v2, e2, r2⟩ := st 1 r1 e1
  obtain ⟨v3, e3, r3⟩ := st 8 r2 e2
  obtain ⟨v4, e4, r4⟩ := tt r3 e3
  obtain ⟨v5, e5, r5⟩ := st 4 r4 e4
  obtain ⟨v6, e6, r6⟩ := st 1 r5 e5
  obtain ⟨v7, e7, r7⟩ := st 8 r6 e6
  obtain ⟨v8, e8, r8⟩ := st 8 r7 e7
  obtain ⟨v9, e9, r9⟩ := st 8 r8 e8
  constructor
  · unfold prV prF prs
    dsimp only
    rw [v1, v2, v3, v4, v5, v6, v7, v8, v9]
  · have := rl_end r9
    rw [e9] at this
    unfold prV prF prs
    dsimp only
    rw [e9]
    exact this
theorem numI_leN : ∀ (c : List Int), ByteL c → c.length ≤ 8 → numI (leN c : Nat) c.length = c
  | [], _, _ => rfl
  | x :: l, h, hl => by
    have hx := h x (by simp)
    have ih := numI_leN l (fun y hy => h y (by simp [hy])) (by simp at hl; omega)
    simp only [List.length_cons] at hl ⊢
    unfold numI at ih ⊢
    rw [List.range_succ_eq_map, List.map_cons, List.map_map]
    have e : (leN (x :: l) : Int) = x + 256 * (leN l : Nat) := by simp only [leN]; omega
    congr 1
    · rw [byteAt_eq _ (by omega) 0 (by omega), e]
      simp
      omega
    · refine Eq.trans (List.map_congr_left fun i hi => ?_) ih
      have hi' := List.mem_range.1 hi
      show byteAt _ (i + 1) = _
      rw [byteAt_eq _ (by omega) (i + 1) (by omega), byteAt_eq _ (by omega) i (by omega), Int.pow_succ, Int.mul_comm, ← Int.ediv_ediv_of_nonneg (by omega), e]
      congr 2
      omega
theorem numV_inv (l : List Int) (bad : Bool) (hb : ByteL l) (k : Nat) (hk : 1 ≤ k ∧ k ≤ 8) : (0 ≤ (numV l bad k).1 ∧ (numV l bad k).1 < 256 ^ k) ∧ ByteL (numV l bad k).2.1 ∧ ((numV l bad k).2.2 = false → bad = false ∧ l = numI (numV l bad k).1 k ++ (numV l bad k).2.1) := by
  have hp : (0 : Int) < 256 ^ k := Int.pow_pos (by omega)
  unfold numV
  rw [if_neg (by omega)]
  unfold cutR
  split
  · refine ⟨⟨by simp [numG], by simpa [numG] using hp⟩, fun x hx => by simp at hx, fun h => by simp at h⟩
  · rename_i e
    have e1 : ¬ bad = true := fun x => e (.inr (.inr x))
    have e2 : ¬ ((l.length : Int) < k) := fun x => e (.inr (.inl x))
    have hl : (l.take k).length = k := by rw [List.length_take]; omega
    have hbt : ByteL (l.take k) := fun x hx => hb x (List.mem_of_mem_take hx)
    dsimp only
    rw [Int.toNat_natCast]
    have hn : numG (l.take k) (l.take k).length = (leN (l.take k) : Nat) := by
      rw [num_eq _ hbt (by omega), numW_eq _ hbt (by omega)]
    rw [hn]
    have hlt := leN_lt (l.take k) hbt
    rw [hl] at hlt
    refine ⟨⟨by omega, by exact_mod_cast hlt⟩, fun x hx => hb x (List.mem_of_mem_drop hx), fun _ => ⟨by simpa using e1, ?_⟩⟩
    have := numI_leN (l.take k) hbt (by omega)
    rw [hl] at this
    rw [this, List.take_append_drop]
theorem txtR_inv (l : List Int) (bad : Bool) (hb : ByteL l) (hl : l.length ≤ 10000) : ByteL (txtR l bad).1 ∧ ByteL (txtR l bad).2.1 ∧ ((txtR l bad).2.2 = false → bad = false ∧ l = numI (txtR l bad).1.length 2 ++ (txtR l bad).1 ++ (txtR l bad).2.1) := by
  obtain ⟨⟨h1, h2⟩, h3, h4⟩ := numV_inv l bad hb 2 (by omega)
  unfold txtR
  dsimp only
  have h2 : (numV l bad 2).1 < 65536 := by simpa using h2
  have h4 : (numV l bad 2).2.2 = false → bad = false ∧ l = numI (numV l bad 2).1 2 ++ (numV l bad 2).2.1 := h4
  have h3 : ByteL (numV l bad 2).2.1 := h3
  generalize numV l bad 2 = m at *
  rw [wr64 (by omega) (by omega)]
  split
  · unfold cutR
    rw [if_pos (by simp)]
    exact ⟨fun x hx => by simp at hx, fun x hx => by simp at hx, fun h => by simp at h⟩
  · unfold cutR
    split
    · exact ⟨fun x hx => by simp at hx, fun x hx => by simp at hx, fun h => by simp at h⟩
    · rename_i e
      have e2 : ¬ ((m.2.1.length : Int) < m.1) := fun x => e (.inr (.inl x))
      refine ⟨fun x hx => h3 x (List.mem_of_mem_take hx), fun x hx => h3 x (List.mem_of_mem_drop hx), fun h => ?_⟩
      obtain ⟨g1, g2⟩ := h4 h
      refine ⟨g1, ?_⟩
      dsimp only
      rw [List.length_take, show ((min m.1.toNat m.2.1.length : Nat) : Int) = m.1 by omega, List.append_assoc, List.take_append_drop]
      exact g2
theorem txtR_txt (c rest : List Int) (hc : c.length ≤ 1000) : txtR (numI c.length 2 ++ (c ++ rest)) false = (c, rest, false) := by
  have h := numV_num (c.length : Nat) 2 (by omega) (by omega) (by omega) (c ++ rest)
  unfold txtR
  dsimp only
  rw [show (2 : Int) = ((2 : Nat) : Int) from rfl, h]
  dsimp only
  rw [wr64 (by omega) (by omega), if_neg (by omega)]
  unfold cutR
  rw [if_neg (by simp; omega)]
  simp
theorem nmI_byte (s : ByteArray) : ByteL (nmI s) := by
  intro x hx
  obtain ⟨b, _, rfl⟩ := List.mem_map.1 hx
  have := b.toNat_lt
  omega
theorem strOf_nm (s : ByteArray) : strOf (u8s (nmI s)) = s := by
  obtain ⟨a⟩ := s
  unfold strOf
  congr 1
  have : List.map byteOf (u8s (nmI ⟨a⟩)) = a.toList := by
    simp only [u8s, nmI, List.map_map]
    refine Eq.trans (List.map_congr_left fun b _ => ?_) (List.map_id _)
    simp [byteOf]
  rw [this]
theorem nmI_str (c : List Int) (h : ByteL c) : nmI (strOf (u8s c)) = c := by
  unfold nmI strOf
  simp only [u8s, List.map_map]
  refine Eq.trans (List.map_congr_left fun b hb => ?_) (List.map_id _)
  have := h b hb
  simp only [Function.comp, byteOf, id]
  rw [UInt8.toNat_ofNat']
  omega
theorem numV1 {n : Int} {rest : List Int} (h : 0 ≤ n) (h2 : n < 256) : numV (numI n 1 ++ rest) false 1 = (n, rest, false) := numV_num n 1 (by omega) h (by simpa using h2) rest
theorem numV4 {n : Int} {rest : List Int} (h : 0 ≤ n) (h2 : n < 4294967296) : numV (numI n 4 ++ rest) false 4 = (n, rest, false) := numV_num n 4 (by omega) h (by simpa using h2) rest
theorem numV8 {n : Int} {rest : List Int} (h : 0 ≤ n) (h2 : n < 18446744073709551616) : numV (numI n 8 ++ rest) false 8 = (n, rest, false) := numV_num n 8 (by omega) h (by simpa using h2) rest
theorem nmI_len (s : ByteArray) : (nmI s).length = s.size := by simp [nmI]
theorem prV_dcI (d : Dc) (hg : GoodD d) (hd : DR d) (hn : d.nm.size ≤ 1000) : prV (dcI d) = (d, [], false) := by
  obtain ⟨r1, r2, r3, r4, r5, r6⟩ := hd
  have hk : 1 ≤ d.k ∧ d.k ≤ 7 ∧ d.c ≤ 8 ∧ 0 ≤ d.n ∧ d.n ≤ 15 := by unfold GoodD at hg; omega
  have e : dcI d = numI d.k 1 ++ (numI d.c 1 ++ (numI d.r 8 ++ (numI (nmI d.nm).length 2 ++ (nmI d.nm ++ (numI d.b 4 ++ (numI d.n 1 ++ (numI d.ch 8 ++ (numI d.e 8 ++ (numI d.sp 8 ++ []))))))))) := by
    simp [dcI, nmI_len]
  rw [e]
  unfold prV prs
  dsimp only
  rw [numV1 (by omega) (by omega)]
  dsimp only
  rw [numV1 (by omega) (by omega)]
  dsimp only
  rw [numV8 (by omega) (by omega)]
  dsimp only
  rw [txtR_txt _ _ (by rw [nmI_len]; omega)]
  dsimp only
  rw [numV4 (by omega) (by omega)]
  dsimp only
  rw [numV1 (by omega) (by omega)]
  dsimp only
  rw [numV8 (by omega) (by omega)]
  dsimp only
  rw [numV8 (by omega) (by omega)]
  dsimp only
  rw [numV8 (by omega) (by omega)]
  dsimp only
  rw [strOf_nm, wr64 (by omega) (by omega), wr64 (by omega) (by omega), IntWalk.u32_in _ ⟨by omega, by omega⟩]
theorem prV_inv (l : List Int) (hb : ByteL l) (hl : l.length ≤ 1000) : DR (prV l).1 ∧ (prV l).1.nm.size ≤ 1000 ∧ ((prV l).2.2 = false → (prV l).2.1 = [] → dcI (prV l).1 = l) := by
  have i1 := numV_inv l false hb 1 (by omega)
  have g1 := numV_len l false 1
  rw [show ((1 : Nat) : Int) = 1 from rfl] at i1
  rcases h1 : numV l false 1 with ⟨a1, l1, b1⟩
  rw [h1] at i1 g1
  dsimp only at i1 g1
  obtain ⟨⟨p1, q1⟩, c1, j1⟩ := i1
  have i2 := numV_inv l1 b1 c1 1 (by omega)
  have g2 := numV_len l1 b1 1
  rw [show ((1 : Nat) : Int) = 1 from rfl] at i2
  rcases h2 : numV l1 b1 1 with ⟨a2, l2, b2⟩
  rw [h2] at i2 g2
  dsimp only at i2 g2
  obtain ⟨⟨p2, q2⟩, c2, j2⟩ := i2
  have i3 := numV_inv l2 b2 c2 8 (by omega)
  have g3 := numV_len l2 b2 8
  rw [show ((8 : Nat) : Int) = 8 from rfl] at i3
  rcases h3 : numV l2 b2 8 with ⟨a3, l3, b3⟩
  rw [h3] at i3 g3
  dsimp only at i3 g3
  obtain ⟨⟨p3, q3⟩, c3, j3⟩ := i3
  have i4 := txtR_inv l3 b3 c3 (by omega)
  have g4 := txtR_len l3 b3
  rcases h4 : txtR l3 b3 with ⟨a4, l4, b4⟩
  rw [h4] at i4 g4
  dsimp only at i4 g4
  obtain ⟨p4, c4, j4⟩ := i4
  have i5 := numV_inv l4 b4 c4 4 (by omega)
  have g5 := numV_len l4 b4 4
  rw [show ((4 : Nat) : Int) = 4 from rfl] at i5
  rcases h5 : numV l4 b4 4 with ⟨a5, l5, b5⟩
  rw [h5] at i5 g5
  dsimp only at i5 g5
  obtain ⟨⟨p5, q5⟩, c5, j5⟩ := i5
  have i6 := numV_inv l5 b5 c5 1 (by omega)
  have g6 := numV_len l5 b5 1
  rw [show ((1 : Nat) : Int) = 1 from rfl] at i6
  rcases h6 : numV l5 b5 1 with ⟨a6, l6, b6⟩
  rw [h6] at i6 g6
  dsimp only at i6 g6
  obtain ⟨⟨p6, q6⟩, c6, j6⟩ := i6
  have i7 := numV_inv l6 b6 c6 8 (by omega)
  have g7 := numV_len l6 b6 8
  rw [show ((8 : Nat) : Int) = 8 from rfl] at i7
  rcases h7 : numV l6 b6 8 with ⟨a7, l7, b7⟩
  rw [h7] at i7 g7
  dsimp only at i7 g7
  obtain ⟨⟨p7, q7⟩, c7, j7⟩ := i7
  have i8 := numV_inv l7 b7 c7 8 (by omega)
  have g8 := numV_len l7 b7 8
  rw [show ((8 : Nat) : Int) = 8 from rfl] at i8
  rcases h8 : numV l7 b7 8 with ⟨a8, l8, b8⟩
  rw [h8] at i8 g8
  dsimp only at i8 g8
  obtain ⟨⟨p8, q8⟩, c8, j8⟩ := i8
  have i9 := numV_inv l8 b8 c8 8 (by omega)
  have g9 := numV_len l8 b8 8
  rw [show ((8 : Nat) : Int) = 8 from rfl] at i9
  rcases h9 : numV l8 b8 8 with ⟨a9, l9, b9⟩
  rw [h9] at i9 g9
  dsimp only at i9 g9
  obtain ⟨⟨p9, q9⟩, c9, j9⟩ := i9
  have hp : prV l = (⟨IntKind.i64.wrap a1, a2, a3, strOf (u8s a4), IntKind.u32.wrap a5, IntKind.i64.wrap a6, a7, a8, a9⟩, l9, b9) := by
    simp only [prV, prs, h1, h2, h3, h4, h5, h6, h7, h8, h9]
  simp only [Int.reducePow] at q1 q2 q3 q5 q6 q7 q8 q9
  rw [hp, wr64 (n := a1) (by omega) (by omega), wr64 (n := a6) (by omega) (by omega), IntWalk.u32_in a5 ⟨by omega, by omega⟩]
  refine ⟨by refine ⟨?_, ?_, ?_, ?_, ?_, ?_⟩ <;> dsimp only <;> omega, by show (strOf (u8s a4)).size ≤ 1000; rw [strOf_size]; omega, fun e1 e2 => ?_⟩
  dsimp only at e1 e2
  subst e1 e2
  obtain ⟨f9, d9⟩ := j9 rfl
  obtain ⟨f8, d8⟩ := j8 f9
  obtain ⟨f7, d7⟩ := j7 f8
  obtain ⟨f6, d6⟩ := j6 f7
  obtain ⟨f5, d5⟩ := j5 f6
  obtain ⟨f4, d4⟩ := j4 f5
  obtain ⟨f3, d3⟩ := j3 f4
  obtain ⟨f2, d2⟩ := j2 f3
  obtain ⟨f1, d1⟩ := j1 f2
  rw [d1, d2, d3, d4, d5, d6, d7, d8, d9]
  unfold dcI
  dsimp only
  rw [strOf_size, nmI_str _ p4]
  simp only [List.append_assoc, List.append_nil]
theorem endR_0 (l : List Int) (b : Bool) : endR l b = 0 ↔ b = false ∧ l = [] := by
  unfold endR
  cases b <;> cases l <;> simp
end Go.Proofs.Ytikogdkjmnpfcaa.S
