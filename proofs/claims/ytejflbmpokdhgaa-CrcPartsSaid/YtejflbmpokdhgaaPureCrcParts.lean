/- The plain law of CrcParts: a sum goes on. -/
import Derived.Test.YtejflbmpokdhgaaPPartsx2
import Derived.Test.YtejflbmpokdhgaaCrcN
namespace Go.Proofs.Ytejflbmpokdhgaa.Pure
open Go.RowKit Go.Proofs.Ytejflbmpokdhgaa.PParts Go.Proofs.YtejflbmpokdhgaaW.PrintWords Go.Proofs.YtejflbmpokdhgaaW.PrintLast Go.Proofs.YtejflbmpokdhgaaW.PrintMore Go.Proofs.Ytejflbmpokdhgaa.K
theorem half_nat (n : Nat) (h : n < 4294967296) : halfC (n : Int) = (hb n : Nat) := by
  have e1 : Go.bits .and .u32 (n : Int) 1 = ((n % 2 : Nat) : Int) := by
    rw [show (1 : Int) = ((1 : Nat) : Int) from rfl, and_u .u32 rfl n 1 h (by decide), Nat.and_one_is_mod]
  have e2 : (n : Int) / 2 = ((n / 2 : Nat) : Int) := by omega
  unfold halfC hb
  rw [e1, e2]
  by_cases h1 : n % 2 = 1
  · rw [if_pos (by omega), if_pos h1, show (2197175160 : Int) = ((hP : Nat) : Int) from rfl]
    exact xor_u .u32 rfl _ _ (show n / 2 < 4294967296 by omega) (by decide)
  · rw [if_neg (by omega), if_neg h1, Nat.xor_zero]
theorem halfN_nat (n : Nat) (h : n < 4294967296) : ∀ k, halfN k (n : Int) = (hN k n : Nat)
  | 0 => rfl
  | k + 1 => by
    show halfC (halfN k n) = _
    rw [halfN_nat n h k]
    exact half_nat _ (hN_lt h k)
theorem step_nat (n : Nat) (h : n < 4294967296) : crcStep (n : Int) = (hN 4 n : Nat) := by
  unfold crcStep
  have e1 : Go.bits .and .u32 (n : Int) 15 = ((n % 16 : Nat) : Int) := by
    rw [show (15 : Int) = ((15 : Nat) : Int) from rfl, and_u .u32 rfl n 15 h (by decide), show (15 : Nat) = 2 ^ 4 - 1 from rfl, Nat.and_two_pow_sub_one_eq_mod]
  have e2 : (n : Int) / 16 = ((n / 16 : Nat) : Int) := by omega
  rw [e1, e2, halfN_nat _ (by omega), hN_four n]
  exact xor_u .u32 rfl _ _ (show n / 16 < 4294967296 by omega) (hN_lt (by omega) 4)
theorem byte_nat (n : Nat) (h : n < 4294967296) (c : Int) (h0 : 0 ≤ c) (h1 : c < 256) : crcByte (n : Int) c = (hN 8 (n ^^^ c.toNat) : Nat) := by
  unfold crcByte
  have e1 : c % 4294967296 = ((c.toNat : Nat) : Int) := by omega
  have hlt : n ^^^ c.toNat < 4294967296 := Nat.xor_lt_two_pow (n := 32) h (by omega)
  rw [e1, xor_u .u32 rfl _ _ h (show c.toNat < 4294967296 by omega), step_nat _ hlt, step_nat _ (hN_lt hlt 4), ← hN_add]
theorem all_nat (n : Nat) (h : n < 4294967296) (l : List Int) (hl : ∀ x ∈ l, 0 ≤ x ∧ x < 256) : ∀ k, crcAll (n : Int) l k = (crcN n l k : Nat)
  | 0 => rfl
  | k + 1 => by
    show crcByte (crcAll n l k) _ = _
    rw [all_nat n h l hl k]
    have hc : 0 ≤ (l[k]?.getD 0) ∧ (l[k]?.getD 0) < 256 := by
      rcases Nat.lt_or_ge k l.length with hk | hk
      · rw [List.getElem?_eq_getElem hk]
        exact hl _ (List.getElem_mem hk)
      · rw [List.getElem?_eq_none hk]
        decide
    exact byte_nat _ (crcN_lt h hl k) _ hc.1 hc.2
def endN (n : Nat) (l : List Int) : Nat := crcN (n ^^^ 4294967295) l l.length ^^^ 4294967295
theorem more_nat (n : Nat) (h : n < 4294967296) (l : List Int) (hl : ∀ x ∈ l, 0 ≤ x ∧ x < 256) : crc_More.f (n : Int) l = some ((endN n l : Nat) : Int) := by
  have hlt : n ^^^ 4294967295 < 4294967296 := Nat.xor_lt_two_pow (n := 32) h (by decide)
  unfold crc_More.f endN
  rw [show IntKind.u32.max = ((4294967295 : Nat) : Int) from rfl, xor_u .u32 rfl _ _ (by decide) h, Nat.xor_comm 4294967295 n, all_nat _ hlt l hl, xor_u .u32 rfl _ _ (by decide) (crcN_lt hlt hl _), Nat.xor_comm 4294967295]
theorem u8s {l : List Int} (h : ∀ x ∈ l, (Lit.int .u8 x).wf = true) : ∀ x ∈ l, 0 ≤ x ∧ x < 256 := by
  intro x hx
  have := h x hx
  simp only [Lit.wf, IntKind.min, IntKind.max, Bool.and_eq_true] at this
  have h1 := this.1
  have h2 := this.2
  simp [IntKind.signed, IntKind.bits] at h1 h2
  omega
theorem u32n {x : Int} (h : (Lit.int .u32 x).wf = true) : ∃ n : Nat, x = n ∧ n < 4294967296 := by
  simp only [Lit.wf, IntKind.min, IntKind.max, Bool.and_eq_true] at h
  have h1 := h.1
  have h2 := h.2
  simp [IntKind.signed, IntKind.bits] at h1 h2
  exact ⟨x.toNat, by omega, by omega⟩
theorem crcN_left (n : Nat) (a b : List Int) : ∀ k, k ≤ a.length → crcN n (a ++ b) k = crcN n a k
  | 0, _ => rfl
  | k + 1, h => by
    simp only [crcN, crcN_left n a b k (by omega), List.getElem?_append_left (show k < a.length by omega)]
theorem crcN_right (n : Nat) (a b : List Int) : ∀ k, crcN n (a ++ b) (a.length + k) = crcN (crcN n a a.length) b k
  | 0 => crcN_left n a b _ (Nat.le_refl _)
  | k + 1 => by
    have e : (a ++ b)[a.length + k]? = b[k]? := by simp [List.getElem?_append_right]
    show hN 8 (crcN n (a ++ b) (a.length + k) ^^^ ((a ++ b)[a.length + k]?.getD 0).toNat) = _
    rw [crcN_right n a b k, e]
    rfl
theorem endN_append (n : Nat) (a b : List Int) : endN (endN n a) b = endN n (a ++ b) := by
  unfold endN
  rw [Nat.xor_assoc, Nat.xor_self, Nat.xor_zero, List.length_append, crcN_right]
theorem CrcParts : keelsonlaw02_CrcParts.Pure := by
  intro a b _ _ ha _ _ hb
  have ha := u8s ha
  have hb := u8s hb
  refine ⟨1, ?_⟩
  unfold keelsonlaw02_CrcParts.f
  by_cases h : (a.length : Int) > 1000
  · rw [if_pos h]
    simp [keelsonlaw02_CrcParts.j0, keelsonlaw02_lives.f]
  · rw [if_neg h]
    by_cases h2 : (b.length : Int) > 1000
    · simp [keelsonlaw02_CrcParts.j0, keelsonlaw02_lives.f, h2]
    · have hab : ∀ x ∈ a ++ b, 0 ≤ x ∧ x < 256 := fun x hx => (List.mem_append.1 hx).elim (ha x) (hb x)
      have h0 := more_nat 0 (by decide) a ha
      have hlt : endN 0 a < 4294967296 := Nat.xor_lt_two_pow (n := 32) (crcN_lt (Nat.xor_lt_two_pow (n := 32) (by decide) (by decide)) ha _) (by decide)
      have h1 := more_nat (endN 0 a) hlt b hb
      have h3 := more_nat 0 (by decide) (a ++ b) hab
      rw [keelsonlaw02_CrcParts.j0, if_neg (by simpa using h2)]
      unfold crc_Sum.f
      rw [show (0 : Int) = ((0 : Nat) : Int) from rfl, h0]
      simp only [Option.bind_some, h1, List.nil_append, List.length_nil, h3, endN_append]
      rw [if_pos (by omega), if_pos (by omega)]
      simp [keelsonlaw02_lives.f]
end Go.Proofs.Ytejflbmpokdhgaa.Pure
