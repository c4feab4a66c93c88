/- The plain law of CrcSums: table by four bits, and bit by bit. -/
import Derived.Test.YtejflbmpokdhgaaPSumsx2
import Derived.Test.YtejflbmpokdhgaaCrcN
namespace Go.Proofs.Ytejflbmpokdhgaa.Pure
open Go.RowKit Go.Proofs.Ytejflbmpokdhgaa.PSums Go.Proofs.YtejflbmpokdhgaaW.PrintWords Go.Proofs.YtejflbmpokdhgaaW.PrintLast Go.Proofs.YtejflbmpokdhgaaW.PrintMore Go.Proofs.Ytejflbmpokdhgaa.K
theorem half_nat (n : Nat) (h : n < 4294967296) : halfC (n : Int) = (hb n : Nat) := by
  have e1 : Go.bits .and .u32 (n : Int) 1 = ((n % 2 : Nat) : Int) := by
    rw [show (1 : Int) = ((1 : Nat) : Int) from rfl, and_u .u32 rfl n 1 h (by decide), Nat.and_one_is_mod]
  have e2 : (n : Int) / 2 = ((n / 2 : Nat) : Int) := by omega
  unfold halfC hb
  rw [e1, e2]
  by_cases h1 : n % 2 = 1
  · rw [if_pos (by omega), if_pos h1, show (2197175160 : Int) = ((hP : Nat) : Int) from rfl]
    exact xor_u .u32 rfl _ _ (show n / 2 < 4294967296 by omega) (by decide)
  · rw [if_neg (by omega), if_neg h1, Nat.xor_zero]
theorem halfN_nat (n : Nat) (h : n < 4294967296) : ∀ k, halfN k (n : Int) = (hN k n : Nat)
  | 0 => rfl
  | k + 1 => by
    show halfC (halfN k n) = _
    rw [halfN_nat n h k]
    exact half_nat _ (hN_lt h k)
theorem step_nat (n : Nat) (h : n < 4294967296) : crcStep (n : Int) = (hN 4 n : Nat) := by
  unfold crcStep
  have e1 : Go.bits .and .u32 (n : Int) 15 = ((n % 16 : Nat) : Int) := by
    rw [show (15 : Int) = ((15 : Nat) : Int) from rfl, and_u .u32 rfl n 15 h (by decide), show (15 : Nat) = 2 ^ 4 - 1 from rfl, Nat.and_two_pow_sub_one_eq_mod]
  have e2 : (n : Int) / 16 = ((n / 16 : Nat) : Int) := by omega
  rw [e1, e2, halfN_nat _ (by omega), hN_four n]
  exact xor_u .u32 rfl _ _ (show n / 16 < 4294967296 by omega) (hN_lt (by omega) 4)
theorem byte_nat (n : Nat) (h : n < 4294967296) (c : Int) (h0 : 0 ≤ c) (h1 : c < 256) : crcByte (n : Int) c = (hN 8 (n ^^^ c.toNat) : Nat) := by
  unfold crcByte
  have e1 : c % 4294967296 = ((c.toNat : Nat) : Int) := by omega
  have hlt : n ^^^ c.toNat < 4294967296 := Nat.xor_lt_two_pow (n := 32) h (by omega)
  rw [e1, xor_u .u32 rfl _ _ h (show c.toNat < 4294967296 by omega), step_nat _ hlt, step_nat _ (hN_lt hlt 4), ← hN_add]
theorem all_nat (n : Nat) (h : n < 4294967296) (l : List Int) (hl : ∀ x ∈ l, 0 ≤ x ∧ x < 256) : ∀ k, crcAll (n : Int) l k = (crcN n l k : Nat)
  | 0 => rfl
  | k + 1 => by
    show crcByte (crcAll n l k) _ = _
    rw [all_nat n h l hl k]
    have hc : 0 ≤ (l[k]?.getD 0) ∧ (l[k]?.getD 0) < 256 := by
      rcases Nat.lt_or_ge k l.length with hk | hk
      · rw [List.getElem?_eq_getElem hk]
        exact hl _ (List.getElem_mem hk)
      · rw [List.getElem?_eq_none hk]
        decide
    exact byte_nat _ (crcN_lt h hl k) _ hc.1 hc.2
def endN (n : Nat) (l : List Int) : Nat := crcN (n ^^^ 4294967295) l l.length ^^^ 4294967295
theorem more_nat (n : Nat) (h : n < 4294967296) (l : List Int) (hl : ∀ x ∈ l, 0 ≤ x ∧ x < 256) : crc_More.f (n : Int) l = some ((endN n l : Nat) : Int) := by
  have hlt : n ^^^ 4294967295 < 4294967296 := Nat.xor_lt_two_pow (n := 32) h (by decide)
  unfold crc_More.f endN
  rw [show IntKind.u32.max = ((4294967295 : Nat) : Int) from rfl, xor_u .u32 rfl _ _ (by decide) h, Nat.xor_comm 4294967295 n, all_nat _ hlt l hl, xor_u .u32 rfl _ _ (by decide) (crcN_lt hlt hl _), Nat.xor_comm 4294967295]
theorem bit_nat (n b : Nat) (h : n < 4294967296) (hb2 : b < 2) : keelsonref02_bit.f (n : Int) (b : Int) = some ((hb (n ^^^ b) : Nat) : Int) := by
  have hlt : n ^^^ b < 4294967296 := Nat.xor_lt_two_pow (n := 32) h (by omega)
  have e2 : (n : Int) / 2 = ((n / 2 : Nat) : Int) := by omega
  unfold keelsonref02_bit.f
  rw [xor_u .u32 rfl _ _ h (show b < 4294967296 by omega), show (1 : Int) = ((1 : Nat) : Int) from rfl, and_u .u32 rfl _ 1 hlt (by decide), Nat.and_one_is_mod, e2, bit_hb n b hb2]
  by_cases h1 : (n ^^^ b) % 2 = 1
  · rw [if_pos (by omega), if_pos h1, show (2197175160 : Int) = ((hP : Nat) : Int) from rfl, xor_u .u32 rfl _ _ (show n / 2 < 4294967296 by omega) (by decide)]
  · rw [if_neg (by omega), if_neg h1, Nat.xor_zero]
theorem w64 (i : Nat) (h : i < 1000000) : wrap64 ((i : Int) + 1) = ((i + 1 : Nat) : Int) := by
  unfold wrap64
  omega
theorem round8 (l : List Int) (i : Nat) (hi : i < l.length) (hi1 : i < 100000) (c : Nat) (hc : rd l i = (c : Int)) (hc2 : c < 256) (n : Nat) (hn : n < 4294967296) (f : Nat) :
    ∀ d j, j + d = 8 → keelsonref02_More.l1 (f + d + 1) l (hN j (n ^^^ c % 2 ^ j) : Nat) i j = keelsonref02_More.l0 f l (hN 8 (n ^^^ c) : Nat) ((i + 1 : Nat) : Int)
  | 0, j, hj => by
    obtain rfl : j = 8 := by omega
    rw [keelsonref02_More.l1, if_neg (by decide), w64 i (by omega), show c % 2 ^ 8 = c from Nat.mod_eq_of_lt hc2]
  | d + 1, j, hj => by
    have hs : shr .u8 (c : Int) (j : Int) = ((c / 2 ^ j : Nat) : Int) := by
      unfold shr
      rw [Int.toNat_natCast, show min j IntKind.u8.bits = j from Nat.min_eq_left (show j ≤ 8 by omega)]
      simp
    have hlt : c / 2 ^ j < 256 := Nat.lt_of_le_of_lt (Nat.div_le_self _ _) hc2
    have hx : n ^^^ c % 2 ^ j < 4294967296 := Nat.xor_lt_two_pow (n := 32) hn (Nat.lt_of_le_of_lt (Nat.mod_le _ _) (by omega))
    have hb1 : Go.bits .and .u32 ((shr .u8 (rd l i) (j : Int)) % 4294967296) 1 = ((c / 2 ^ j % 2 : Nat) : Int) := by
      rw [hc, hs]
      generalize c / 2 ^ j = m at hlt ⊢
      rw [show ((m : Int) % 4294967296) = (m : Int) by omega, show (1 : Int) = ((1 : Nat) : Int) from rfl, and_u .u32 rfl m 1 (show m < 4294967296 by omega) (by decide), Nat.and_one_is_mod]
    rw [show f + (d + 1) + 1 = (f + d + 1) + 1 from rfl, keelsonref02_More.l1, if_pos (by omega), if_pos (by omega), if_pos (by omega), if_pos (by omega), hb1, bit_nat _ _ (hN_lt hx j) (by omega), Option.bind_some, ← hN_bit, w64 j (by omega)]
    exact round8 l i hi hi1 c hc hc2 n hn f d (j + 1) (by omega)
theorem ref_go (l : List Int) (hl : ∀ x ∈ l, 0 ≤ x ∧ x < 256) (hlen : l.length ≤ 1000) (n : Nat) (hn : n < 4294967296) :
    ∀ d i, i + d = l.length → keelsonref02_More.l0 (10 * d + 1) l (crcN n l i : Nat) i = some ((crcN n l l.length ^^^ 4294967295 : Nat) : Int)
  | 0, i, hi => by
    obtain rfl : i = l.length := by omega
    rw [keelsonref02_More.l0, if_neg (by omega), show (4294967295 : Int) = ((4294967295 : Nat) : Int) from rfl, xor_u .u32 rfl _ _ (crcN_lt hn hl _) (by decide)]
  | d + 1, i, hi => by
    have hk : i < l.length := by omega
    have hc := hl _ (List.getElem_mem hk)
    have e : l[i] = ((l[i].toNat : Nat) : Int) := by omega
    have hr : rd l (i : Int) = ((l[i].toNat : Nat) : Int) := by
      unfold rd
      rw [Int.toNat_natCast, List.getD_eq_getElem?_getD, List.getElem?_eq_getElem hk, Option.getD_some, ← e]
    rw [show 10 * (d + 1) + 1 = (10 * d + 1 + 8 + 1) + 1 from rfl, keelsonref02_More.l0, if_pos (by omega)]
    have h8 := round8 l i hk (by omega) _ hr (by omega) _ (crcN_lt hn hl i) (10 * d + 1) 8 0 rfl
    rw [show hN 0 (crcN n l i ^^^ l[i].toNat % 2 ^ 0) = crcN n l i by simp [hN, Nat.mod_one]] at h8
    refine h8.trans ?_
    rw [show hN 8 (crcN n l i ^^^ l[i].toNat) = crcN n l (i + 1) by simp [crcN, List.getElem?_eq_getElem hk]]
    exact ref_go l hl hlen n hn d (i + 1) (by omega)
theorem ref_nat (n : Nat) (h : n < 4294967296) (l : List Int) (hl : ∀ x ∈ l, 0 ≤ x ∧ x < 256) (hlen : l.length ≤ 1000) : keelsonref02_More.f (10 * l.length + 1) (n : Int) l = some ((endN n l : Nat) : Int) := by
  have hlt : n ^^^ 4294967295 < 4294967296 := Nat.xor_lt_two_pow (n := 32) h (by decide)
  unfold keelsonref02_More.f endN
  rw [show (4294967295 : Int) = ((4294967295 : Nat) : Int) from rfl, xor_u .u32 rfl _ _ h (by decide)]
  exact ref_go l hl hlen _ hlt l.length 0 (by omega)
theorem u8s {l : List Int} (h : ∀ x ∈ l, (Lit.int .u8 x).wf = true) : ∀ x ∈ l, 0 ≤ x ∧ x < 256 := by
  intro x hx
  have := h x hx
  simp only [Lit.wf, IntKind.min, IntKind.max, Bool.and_eq_true] at this
  have h1 := this.1
  have h2 := this.2
  simp [IntKind.signed, IntKind.bits] at h1 h2
  omega
theorem u32n {x : Int} (h : (Lit.int .u32 x).wf = true) : ∃ n : Nat, x = n ∧ n < 4294967296 := by
  simp only [Lit.wf, IntKind.min, IntKind.max, Bool.and_eq_true] at h
  have h1 := h.1
  have h2 := h.2
  simp [IntKind.signed, IntKind.bits] at h1 h2
  exact ⟨x.toNat, by omega, by omega⟩
theorem CrcSums : keelsonlaw02_CrcSums.Pure := by
  intro l a1 _ _ hl ha
  have hl := u8s hl
  obtain ⟨n, rfl, hn⟩ := u32n ha
  refine ⟨10 * l.length + 1, ?_⟩
  unfold keelsonlaw02_CrcSums.f
  by_cases h : (l.length : Int) > 1000
  · rw [if_pos h]
    rfl
  · rw [if_neg h]
    have h0 := more_nat 0 (by decide) l hl
    have h1 := ref_nat 0 (by decide) l hl (by omega)
    unfold crc_Sum.f keelsonref02_Sum.f
    rw [show (0 : Int) = ((0 : Nat) : Int) from rfl, h0, h1, more_nat n hn l hl, ref_nat n hn l hl (by omega)]
    simp [keelsonlaw02_lives.f]
end Go.Proofs.Ytejflbmpokdhgaa.Pure
