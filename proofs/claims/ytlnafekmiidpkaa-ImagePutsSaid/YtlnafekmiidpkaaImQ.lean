/- Contracts, picked of my other texts. -/
import Derived.Test.YtlnafekmiidpkaaIm2
namespace Go.Proofs.Ytlnafekmiidpkaa.S
set_option linter.all false
set_option maxRecDepth 100000
set_option maxHeartbeats 1000000
theorem rl_end {b l : List Int} {bad : Bool} {k : Int} (h : Rl b l bad k) : endR l bad = endF b k bad := by
  unfold endR endF
  rw [← rl_left h]
  simp
theorem rl_text {b l : List Int} {bad : Bool} {k : Int} (hb : ByteL b) (h : Rl b l bad k) : (txtR l bad).1 = (txtF b k bad).1 ∧ (txtR l bad).2.2 = (txtF b k bad).2.2 ∧ Rl b (txtR l bad).2.1 (txtR l bad).2.2 (txtF b k bad).2.1 := by
  obtain ⟨h1, h2, h3⟩ := rl_num 2 hb h
  unfold txtR txtF
  simp only [h1]
  split
  · exact rl_take _ ⟨h3.1, h3.2.1, by simp⟩
  · rw [← h2]; exact rl_take _ h3
theorem numI_leN : ∀ (c : List Int), ByteL c → c.length ≤ 8 → numI (leN c : Nat) c.length = c
  | [], _, _ => rfl
  | x :: l, h, hl => by
    have hx := h x (by simp)
    have ih := numI_leN l (fun y hy => h y (by simp [hy])) (by simp at hl; omega)
    simp only [List.length_cons] at hl ⊢
    unfold numI at ih ⊢
    rw [List.range_succ_eq_map, List.map_cons, List.map_map]
    have e : (leN (x :: l) : Int) = x + 256 * (leN l : Nat) := by simp only [leN]; omega
    congr 1
    · rw [byteAt_eq _ (by omega) 0 (by omega), e]
      simp
      omega
    · refine Eq.trans (List.map_congr_left fun i hi => ?_) ih
      have hi' := List.mem_range.1 hi
      show byteAt _ (i + 1) = _
      rw [byteAt_eq _ (by omega) (i + 1) (by omega), byteAt_eq _ (by omega) i (by omega), Int.pow_succ, Int.mul_comm, ← Int.ediv_ediv_of_nonneg (by omega), e]
      congr 2
      omega
theorem numV_inv (l : List Int) (bad : Bool) (hb : ByteL l) (k : Nat) (hk : 1 ≤ k ∧ k ≤ 8) : (0 ≤ (numV l bad k).1 ∧ (numV l bad k).1 < 256 ^ k) ∧ ByteL (numV l bad k).2.1 ∧ ((numV l bad k).2.2 = false → bad = false ∧ l = numI (numV l bad k).1 k ++ (numV l bad k).2.1) := by
  have hp : (0 : Int) < 256 ^ k := Int.pow_pos (by omega)
  unfold numV
  rw [if_neg (by omega)]
  unfold cutR
  split
  · refine ⟨⟨by simp [numG], by simpa [numG] using hp⟩, fun x hx => by simp at hx, fun h => by simp at h⟩
  · rename_i e
    have e1 : ¬ bad = true := fun x => e (.inr (.inr x))
    have e2 : ¬ ((l.length : Int) < k) := fun x => e (.inr (.inl x))
    have hl : (l.take k).length = k := by rw [List.length_take]; omega
    have hbt : ByteL (l.take k) := fun x hx => hb x (List.mem_of_mem_take hx)
    dsimp only
    rw [Int.toNat_natCast]
    have hn : numG (l.take k) (l.take k).length = (leN (l.take k) : Nat) := by
      rw [num_eq _ hbt (by omega), numW_eq _ hbt (by omega)]
    rw [hn]
    have hlt := leN_lt (l.take k) hbt
    rw [hl] at hlt
    refine ⟨⟨by omega, by exact_mod_cast hlt⟩, fun x hx => hb x (List.mem_of_mem_drop hx), fun _ => ⟨by simpa using e1, ?_⟩⟩
    have := numI_leN (l.take k) hbt (by omega)
    rw [hl] at this
    rw [this, List.take_append_drop]
theorem txtR_inv (l : List Int) (bad : Bool) (hb : ByteL l) (hl : l.length ≤ 10000) : ByteL (txtR l bad).1 ∧ ByteL (txtR l bad).2.1 ∧ ((txtR l bad).2.2 = false → bad = false ∧ l = numI (txtR l bad).1.length 2 ++ (txtR l bad).1 ++ (txtR l bad).2.1) := by
  obtain ⟨⟨h1, h2⟩, h3, h4⟩ := numV_inv l bad hb 2 (by omega)
  unfold txtR
  dsimp only
  have h2 : (numV l bad 2).1 < 65536 := by simpa using h2
  have h4 : (numV l bad 2).2.2 = false → bad = false ∧ l = numI (numV l bad 2).1 2 ++ (numV l bad 2).2.1 := h4
  have h3 : ByteL (numV l bad 2).2.1 := h3
  generalize numV l bad 2 = m at *
  rw [wr64 (by omega) (by omega)]
  split
  · unfold cutR
    rw [if_pos (by simp)]
    exact ⟨fun x hx => by simp at hx, fun x hx => by simp at hx, fun h => by simp at h⟩
  · unfold cutR
    split
    · exact ⟨fun x hx => by simp at hx, fun x hx => by simp at hx, fun h => by simp at h⟩
    · rename_i e
      have e2 : ¬ ((m.2.1.length : Int) < m.1) := fun x => e (.inr (.inl x))
      refine ⟨fun x hx => h3 x (List.mem_of_mem_take hx), fun x hx => h3 x (List.mem_of_mem_drop hx), fun h => ?_⟩
      obtain ⟨g1, g2⟩ := h4 h
      refine ⟨g1, ?_⟩
      dsimp only
      rw [List.length_take, show ((min m.1.toNat m.2.1.length : Nat) : Int) = m.1 by omega, List.append_assoc, List.take_append_drop]
      exact g2
theorem txtR_txt (c rest : List Int) (hc : c.length ≤ 1000) : txtR (numI c.length 2 ++ (c ++ rest)) false = (c, rest, false) := by
  have h := numV_num (c.length : Nat) 2 (by omega) (by omega) (by omega) (c ++ rest)
  unfold txtR
  dsimp only
  rw [show (2 : Int) = ((2 : Nat) : Int) from rfl, h]
  dsimp only
  rw [wr64 (by omega) (by omega), if_neg (by omega)]
  unfold cutR
  rw [if_neg (by simp; omega)]
  simp
theorem numV8 {n : Int} {rest : List Int} (h : 0 ≤ n) (h2 : n < 18446744073709551616) : numV (numI n 8 ++ rest) false 8 = (n, rest, false) := numV_num n 8 (by omega) h (by simpa using h2) rest
theorem endR_0 (l : List Int) (b : Bool) : endR l b = 0 ↔ b = false ∧ l = [] := by
  unfold endR
  cases b <;> cases l <;> simp
theorem rdT_bytes (l : List (Int × Int)) (h8 : l.length = 8) (hl : TOK l) (b : List Int) : rdT (bytesI l ++ b, false) = l := by
  unfold rdT
  rw [rd_bytes l l hl b 8 (by omega)]
  rw [if_neg (by simp)]
  exact List.take_of_length_le (by omega)
end Go.Proofs.Ytlnafekmiidpkaa.S
