/- Tables that are read, by either: the same; what was written is read as it was. -/
import Derived.Test.YtapfediapkklnaaDb3
namespace Go.Proofs.Ytapfediapkklnaa.S
open Go.RowKit
set_option linter.all false
set_option maxRecDepth 100000
theorem rd_rf (b : List Int) (hb : ByteL b) : ∀ k, (rdN (b, false) k).1 = (rfN b (0, false) k).1 ∧ (rdN (b, false) k).2.2 = (rfN b (0, false) k).2.2 ∧ Rl b (rdN (b, false) k).2.1 (rdN (b, false) k).2.2 (rfN b (0, false) k).2.1
  | 0 => ⟨rfl, rfl, by simp [rdN, rfN, Rl]⟩
  | k + 1 => by
    obtain ⟨h1, h2, h3⟩ := rd_rf b hb k
    obtain ⟨g1, g2, g3⟩ := rl_num 8 hb h3
    rw [show (numF b (rfN b (0, false) k).2.1 (rdN (b, false) k).2.2 8) = numF b (rfN b (0, false) k).2.1 (rfN b (0, false) k).2.2 8 by rw [h2]] at g1 g2 g3
    obtain ⟨e1, e2, e3⟩ := rl_num 2 hb g3
    rw [g2] at e1 e2 e3
    simp only [rdN, rfN, rd2, rf2, g2]
    refine ⟨by rw [h1, g1, e1], e2, e3⟩
theorem rdT_rfT (b : List Int) (hb : ByteL b) : rdT (b, false) = rfT b (0, false) := by
  obtain ⟨h1, h2, _⟩ := rd_rf b hb 8
  unfold rdT rfT
  rw [h1, h2]
def numI (n : Int) (k : Nat) : List Int := (List.range k).map fun i => byteAt n i
theorem numI_s (n : Int) (k : Nat) : numS n k = u8s (numI n k) := by simp [numS, numI, u8s]
theorem numI_len (n : Int) (k : Nat) : (numI n k).length = k := by simp [numI]
theorem numI_byte (n : Int) (k : Nat) : ByteL (numI n k) := by
  intro x hx
  simp only [numI, List.mem_map] at hx
  obtain ⟨i, _, rfl⟩ := hx
  unfold byteAt
  rw [IntKind.wrap_u8]
  omega
theorem byteAt_eq (n : Int) (h : 0 ≤ n) (i : Nat) (hi : i < 8) : byteAt n i = n / 256 ^ i % 256 := by
  have h2 : 0 ≤ n / 256 ^ i := Int.ediv_nonneg h (by have : (0 : Int) < 256 ^ i := Int.pow_pos (by omega); omega)
  rw [div_pow n h i hi, Int.tmod_eq_emod_of_nonneg h2, IntKind.wrap_u8]
  omega
theorem leN_num (n : Int) (h : 0 ≤ n) : ∀ k, k ≤ 8 → (leN (numI n k) : Int) = n % 256 ^ k
  | 0, _ => by simp [numI, leN]
  | k + 1, hk => by
    have ih := leN_num n h k (by omega)
    have hb := numI_byte n (k + 1)
    have e : numI n (k + 1) = numI n k ++ [byteAt n k] := by simp [numI, List.range_succ]
    have hx := hb (byteAt n k) (by rw [e]; simp)
    rw [e, leN_snoc, numI_len, Int.natCast_add, ih, Int.natCast_mul, Int.toNat_of_nonneg hx.1, byteAt_eq n h k (by omega)]
    have hp : (0 : Int) < 256 ^ k := Int.pow_pos (by omega)
    rw [Int.natCast_pow, show (256 : Int) ^ (k + 1) = 256 ^ k * 256 from Int.pow_succ _ _]
    show n % 256 ^ k + (n / 256 ^ k % 256) * (256 : Int) ^ k = _
    have h1 := Int.emod_add_mul_ediv n (256 ^ k)
    have h2 := Int.emod_add_mul_ediv (n / 256 ^ k) 256
    have h3 : n / 256 ^ (k + 1) = n / 256 ^ k / 256 := by rw [Int.pow_succ, Int.ediv_ediv_of_nonneg (by omega)]
    have h4 := Int.emod_add_mul_ediv n (256 ^ (k + 1))
    rw [h3, Int.pow_succ] at h4
    generalize n / 256 ^ k = q at *
    generalize (256 : Int) ^ k = p at *
    have : (p * 256) * (q / 256) = p * (256 * (q / 256)) := by rw [Int.mul_assoc]
    have h5 : p * q = p * (q % 256) + p * (256 * (q / 256)) := by rw [← Int.mul_add, h2]
    rw [Int.mul_comm (q % 256) _]
    have : n % (p * 256) = n % p + p * (q % 256) := by omega
    rw [this]
theorem numV_num (n : Int) (k : Nat) (hk : 1 ≤ k ∧ k ≤ 8) (h : 0 ≤ n) (h2 : n < 256 ^ k) (rest : List Int) : numV (numI n k ++ rest) false k = (n, rest, false) := by
  have hc : cutR (numI n k ++ rest) false k = (numI n k, rest, false) := by
    have hl := numI_len n k
    unfold cutR
    rw [if_neg (by simp [hl]; omega), Int.toNat_natCast]
    rw [List.take_left' hl, List.drop_left' hl]
  unfold numV
  rw [if_neg (by omega), hc]
  simp only []
  rw [numG_eq _ (numI_byte n k) (by rw [numI_len]; omega) _ (Nat.le_refl _), List.take_length, leN_num n h k hk.2, Int.emod_eq_of_lt h h2]
def bytesI (l : List (Int × Int)) : List Int := l.flatMap fun c => numI c.1 8 ++ numI c.2 2
theorem bytesI_s (l : List (Int × Int)) : bytesT l = u8s (bytesI l) := by
  induction l with
  | nil => rfl
  | cons x l ih => simp [bytesT, bytesI, numI_s, u8s] at ih ⊢; rw [ih]
def TOK (l : List (Int × Int)) : Prop := ∀ c ∈ l, (0 ≤ c.1 ∧ c.1 < 18446744073709551616) ∧ 0 ≤ c.2 ∧ c.2 < 65536
theorem rd_bytes (p l : List (Int × Int)) (hl : TOK l) (b : List Int) : ∀ k, k ≤ l.length → rdN (bytesI l ++ b, false) k = (l.take k, bytesI (l.drop k) ++ b, false)
  | 0, _ => by simp [rdN]
  | k + 1, hk => by
    have ih := rd_bytes p l hl b k (by omega)
    have hk' : k < l.length := by omega
    have hd : l.drop k = l[k] :: l.drop (k + 1) := List.drop_eq_getElem_cons hk'
    obtain ⟨⟨h1, h2⟩, h3, h4⟩ := hl l[k] (List.getElem_mem hk')
    have e : bytesI (l.drop k) ++ b = numI l[k].1 8 ++ (numI l[k].2 2 ++ (bytesI (l.drop (k + 1)) ++ b)) := by
      rw [hd]; show (l[k] :: l.drop (k + 1)).flatMap _ ++ b = _; rw [List.flatMap_cons]; simp only [bytesI, List.append_assoc]
    have n1 := numV_num l[k].1 8 (by omega) h1 (by omega) (numI l[k].2 2 ++ (bytesI (l.drop (k + 1)) ++ b))
    have n2 := numV_num l[k].2 2 (by omega) h3 (by omega) (bytesI (l.drop (k + 1)) ++ b)
    have n1 : numV (numI l[k].1 8 ++ (numI l[k].2 2 ++ (bytesI (l.drop (k + 1)) ++ b))) false 8 = _ := n1
    have n2 : numV (numI l[k].2 2 ++ (bytesI (l.drop (k + 1)) ++ b)) false 2 = _ := n2
    simp only [rdN, rd2, ih, e, n1, n2]
    rw [IntWalk.u16_in _ ⟨h3, by omega⟩, List.take_succ_eq_append_getElem hk']
theorem rdT_bytes (l : List (Int × Int)) (h8 : l.length = 8) (hl : TOK l) (b : List Int) : rdT (bytesI l ++ b, false) = l := by
  unfold rdT
  rw [rd_bytes l l hl b 8 (by omega)]
  rw [if_neg (by simp)]
  exact List.take_of_length_le (by omega)
end Go.Proofs.Ytapfediapkklnaa.S
