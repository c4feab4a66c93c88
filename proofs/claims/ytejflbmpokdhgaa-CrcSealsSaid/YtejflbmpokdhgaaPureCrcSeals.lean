/- The plain law of CrcSeals: a sum behind a text, and what opens. -/
import Derived.Test.YtejflbmpokdhgaaPSealsx3
import Derived.Test.YtejflbmpokdhgaaCrcN
import Derived.Lib.Bytes
namespace Go.Proofs.Ytejflbmpokdhgaa.Pure
open Go.RowKit Go.Proofs.Ytejflbmpokdhgaa.PSeals Go.Proofs.YtejflbmpokdhgaaW.PrintWords Go.Proofs.YtejflbmpokdhgaaW.PrintLast Go.Proofs.YtejflbmpokdhgaaW.PrintMore Go.Proofs.Ytejflbmpokdhgaa.K
theorem half_nat (n : Nat) (h : n < 4294967296) : halfC (n : Int) = (hb n : Nat) := by
  have e1 : Go.bits .and .u32 (n : Int) 1 = ((n % 2 : Nat) : Int) := by
    rw [show (1 : Int) = ((1 : Nat) : Int) from rfl, and_u .u32 rfl n 1 h (by decide), Nat.and_one_is_mod]
  have e2 : (n : Int) / 2 = ((n / 2 : Nat) : Int) := by omega
  unfold halfC hb
  rw [e1, e2]
  by_cases h1 : n % 2 = 1
  · rw [if_pos (by omega), if_pos h1, show (2197175160 : Int) = ((hP : Nat) : Int) from rfl]
    exact xor_u .u32 rfl _ _ (show n / 2 < 4294967296 by omega) (by decide)
  · rw [if_neg (by omega), if_neg h1, Nat.xor_zero]
theorem halfN_nat (n : Nat) (h : n < 4294967296) : ∀ k, halfN k (n : Int) = (hN k n : Nat)
  | 0 => rfl
  | k + 1 => by
    show halfC (halfN k n) = _
    rw [halfN_nat n h k]
    exact half_nat _ (hN_lt h k)
theorem step_nat (n : Nat) (h : n < 4294967296) : crcStep (n : Int) = (hN 4 n : Nat) := by
  unfold crcStep
  have e1 : Go.bits .and .u32 (n : Int) 15 = ((n % 16 : Nat) : Int) := by
    rw [show (15 : Int) = ((15 : Nat) : Int) from rfl, and_u .u32 rfl n 15 h (by decide), show (15 : Nat) = 2 ^ 4 - 1 from rfl, Nat.and_two_pow_sub_one_eq_mod]
  have e2 : (n : Int) / 16 = ((n / 16 : Nat) : Int) := by omega
  rw [e1, e2, halfN_nat _ (by omega), hN_four n]
  exact xor_u .u32 rfl _ _ (show n / 16 < 4294967296 by omega) (hN_lt (by omega) 4)
theorem byte_nat (n : Nat) (h : n < 4294967296) (c : Int) (h0 : 0 ≤ c) (h1 : c < 256) : crcByte (n : Int) c = (hN 8 (n ^^^ c.toNat) : Nat) := by
  unfold crcByte
  have e1 : c % 4294967296 = ((c.toNat : Nat) : Int) := by omega
  have hlt : n ^^^ c.toNat < 4294967296 := Nat.xor_lt_two_pow (n := 32) h (by omega)
  rw [e1, xor_u .u32 rfl _ _ h (show c.toNat < 4294967296 by omega), step_nat _ hlt, step_nat _ (hN_lt hlt 4), ← hN_add]
theorem all_nat (n : Nat) (h : n < 4294967296) (l : List Int) (hl : ∀ x ∈ l, 0 ≤ x ∧ x < 256) : ∀ k, crcAll (n : Int) l k = (crcN n l k : Nat)
  | 0 => rfl
  | k + 1 => by
    show crcByte (crcAll n l k) _ = _
    rw [all_nat n h l hl k]
    have hc : 0 ≤ (l[k]?.getD 0) ∧ (l[k]?.getD 0) < 256 := by
      rcases Nat.lt_or_ge k l.length with hk | hk
      · rw [List.getElem?_eq_getElem hk]
        exact hl _ (List.getElem_mem hk)
      · rw [List.getElem?_eq_none hk]
        decide
    exact byte_nat _ (crcN_lt h hl k) _ hc.1 hc.2
def endN (n : Nat) (l : List Int) : Nat := crcN (n ^^^ 4294967295) l l.length ^^^ 4294967295
theorem more_nat (n : Nat) (h : n < 4294967296) (l : List Int) (hl : ∀ x ∈ l, 0 ≤ x ∧ x < 256) : crc_More.f (n : Int) l = some ((endN n l : Nat) : Int) := by
  have hlt : n ^^^ 4294967295 < 4294967296 := Nat.xor_lt_two_pow (n := 32) h (by decide)
  unfold crc_More.f endN
  rw [show IntKind.u32.max = ((4294967295 : Nat) : Int) from rfl, xor_u .u32 rfl _ _ (by decide) h, Nat.xor_comm 4294967295 n, all_nat _ hlt l hl, xor_u .u32 rfl _ _ (by decide) (crcN_lt hlt hl _), Nat.xor_comm 4294967295]
theorem u8s {l : List Int} (h : ∀ x ∈ l, (Lit.int .u8 x).wf = true) : ∀ x ∈ l, 0 ≤ x ∧ x < 256 := by
  intro x hx
  have := h x hx
  simp only [Lit.wf, IntKind.min, IntKind.max, Bool.and_eq_true] at this
  have h1 := this.1
  have h2 := this.2
  simp [IntKind.signed, IntKind.bits] at h1 h2
  omega
theorem u32n {x : Int} (h : (Lit.int .u32 x).wf = true) : ∃ n : Nat, x = n ∧ n < 4294967296 := by
  simp only [Lit.wf, IntKind.min, IntKind.max, Bool.and_eq_true] at h
  have h1 := h.1
  have h2 := h.2
  simp [IntKind.signed, IntKind.bits] at h1 h2
  exact ⟨x.toNat, by omega, by omega⟩
theorem bit_nat (n b : Nat) (h : n < 4294967296) (hb2 : b < 2) : keelsonref02_bit.f (n : Int) (b : Int) = some ((hb (n ^^^ b) : Nat) : Int) := by
  have hlt : n ^^^ b < 4294967296 := Nat.xor_lt_two_pow (n := 32) h (by omega)
  have e2 : (n : Int) / 2 = ((n / 2 : Nat) : Int) := by omega
  unfold keelsonref02_bit.f
  rw [xor_u .u32 rfl _ _ h (show b < 4294967296 by omega), show (1 : Int) = ((1 : Nat) : Int) from rfl, and_u .u32 rfl _ 1 hlt (by decide), Nat.and_one_is_mod, e2, bit_hb n b hb2]
  by_cases h1 : (n ^^^ b) % 2 = 1
  · rw [if_pos (by omega), if_pos h1, show (2197175160 : Int) = ((hP : Nat) : Int) from rfl, xor_u .u32 rfl _ _ (show n / 2 < 4294967296 by omega) (by decide)]
  · rw [if_neg (by omega), if_neg h1, Nat.xor_zero]
theorem w64 (i : Nat) (h : i < 1000000) : wrap64 ((i : Int) + 1) = ((i + 1 : Nat) : Int) := by
  unfold wrap64
  omega
theorem round8 (l : List Int) (i : Nat) (hi : i < l.length) (hi1 : i < 100000) (c : Nat) (hc : rd l i = (c : Int)) (hc2 : c < 256) (n : Nat) (hn : n < 4294967296) (f : Nat) :
    ∀ d j, j + d = 8 → keelsonref02_More.l1 (f + d + 1) l (hN j (n ^^^ c % 2 ^ j) : Nat) i j = keelsonref02_More.l0 f l (hN 8 (n ^^^ c) : Nat) ((i + 1 : Nat) : Int)
  | 0, j, hj => by
    obtain rfl : j = 8 := by omega
    rw [keelsonref02_More.l1, if_neg (by decide), w64 i (by omega), show c % 2 ^ 8 = c from Nat.mod_eq_of_lt hc2]
  | d + 1, j, hj => by
    have hs : shr .u8 (c : Int) (j : Int) = ((c / 2 ^ j : Nat) : Int) := by
      unfold shr
      rw [Int.toNat_natCast, show min j IntKind.u8.bits = j from Nat.min_eq_left (show j ≤ 8 by omega)]
      simp
    have hlt : c / 2 ^ j < 256 := Nat.lt_of_le_of_lt (Nat.div_le_self _ _) hc2
    have hx : n ^^^ c % 2 ^ j < 4294967296 := Nat.xor_lt_two_pow (n := 32) hn (Nat.lt_of_le_of_lt (Nat.mod_le _ _) (by omega))
    have hb1 : Go.bits .and .u32 ((shr .u8 (rd l i) (j : Int)) % 4294967296) 1 = ((c / 2 ^ j % 2 : Nat) : Int) := by
      rw [hc, hs]
      generalize c / 2 ^ j = m at hlt ⊢
      rw [show ((m : Int) % 4294967296) = (m : Int) by omega, show (1 : Int) = ((1 : Nat) : Int) from rfl, and_u .u32 rfl m 1 (show m < 4294967296 by omega) (by decide), Nat.and_one_is_mod]
    rw [show f + (d + 1) + 1 = (f + d + 1) + 1 from rfl, keelsonref02_More.l1, if_pos (by omega), if_pos (by omega), if_pos (by omega), if_pos (by omega), hb1, bit_nat _ _ (hN_lt hx j) (by omega), Option.bind_some, ← hN_bit, w64 j (by omega)]
    exact round8 l i hi hi1 c hc hc2 n hn f d (j + 1) (by omega)
theorem ref_go (l : List Int) (hl : ∀ x ∈ l, 0 ≤ x ∧ x < 256) (hlen : l.length ≤ 1000) (n : Nat) (hn : n < 4294967296) :
    ∀ d i, i + d = l.length → keelsonref02_More.l0 (10 * d + 1) l (crcN n l i : Nat) i = some ((crcN n l l.length ^^^ 4294967295 : Nat) : Int)
  | 0, i, hi => by
    obtain rfl : i = l.length := by omega
    rw [keelsonref02_More.l0, if_neg (by omega), show (4294967295 : Int) = ((4294967295 : Nat) : Int) from rfl, xor_u .u32 rfl _ _ (crcN_lt hn hl _) (by decide)]
  | d + 1, i, hi => by
    have hk : i < l.length := by omega
    have hc := hl _ (List.getElem_mem hk)
    have e : l[i] = ((l[i].toNat : Nat) : Int) := by omega
    have hr : rd l (i : Int) = ((l[i].toNat : Nat) : Int) := by
      unfold rd
      rw [Int.toNat_natCast, List.getD_eq_getElem?_getD, List.getElem?_eq_getElem hk, Option.getD_some, ← e]
    rw [show 10 * (d + 1) + 1 = (10 * d + 1 + 8 + 1) + 1 from rfl, keelsonref02_More.l0, if_pos (by omega)]
    have h8 := round8 l i hk (by omega) _ hr (by omega) _ (crcN_lt hn hl i) (10 * d + 1) 8 0 rfl
    rw [show hN 0 (crcN n l i ^^^ l[i].toNat % 2 ^ 0) = crcN n l i by simp [hN, Nat.mod_one]] at h8
    refine h8.trans ?_
    rw [show hN 8 (crcN n l i ^^^ l[i].toNat) = crcN n l (i + 1) by simp [crcN, List.getElem?_eq_getElem hk]]
    exact ref_go l hl hlen n hn d (i + 1) (by omega)
theorem ref_nat (n : Nat) (h : n < 4294967296) (l : List Int) (hl : ∀ x ∈ l, 0 ≤ x ∧ x < 256) (hlen : l.length ≤ 1000) : keelsonref02_More.f (10 * l.length + 1) (n : Int) l = some ((endN n l : Nat) : Int) := by
  have hlt : n ^^^ 4294967295 < 4294967296 := Nat.xor_lt_two_pow (n := 32) h (by decide)
  unfold keelsonref02_More.f endN
  rw [show (4294967295 : Int) = ((4294967295 : Nat) : Int) from rfl, xor_u .u32 rfl _ _ h (by decide)]
  exact ref_go l hl hlen _ hlt l.length 0 (by omega)
/-- The lowest 'n' bytes of a number, the lowest first. -/
def enc (n v : Nat) : List Int := (List.range n).map fun j => ((v / 256 ^ j % 256 : Nat) : Int)
theorem enc_succ (n v : Nat) : enc (n + 1) v = enc n v ++ [((v / 256 ^ n % 256 : Nat) : Int)] := by simp [enc, List.range_succ]
theorem enc_length (n v : Nat) : (enc n v).length = n := by simp [enc]
theorem w64n (i : Nat) (h : i < 1000000) : wrap64 ((i : Int) + 1) = ((i + 1 : Nat) : Int) := by
  unfold wrap64
  omega
theorem byte_shr (v j : Nat) (hj : j < 8) : (shr .u64 (v : Int) (wrap64 (8 * (j : Int)))) % 256 = ((v / 256 ^ j % 256 : Nat) : Int) := by
  have e : wrap64 (8 * (j : Int)) = ((8 * j : Nat) : Int) := by unfold wrap64; omega
  unfold shr
  rw [e, Int.toNat_natCast, show min (8 * j) IntKind.u64.bits = 8 * j from Nat.min_eq_left (show 8 * j ≤ 64 by omega), show (256 : Nat) ^ j = 2 ^ (8 * j) by rw [Nat.pow_mul]]
  simp
theorem oct_l1 (w : Nat) (hw : w ≤ 8) (base : List Int) (hb : base.length < 100000000) (v : Nat) (l : List Int) (n x : Int) (f : Nat) :
    ∀ d j, j + d = w → octet_Put.l1 (f + d + 1) w (base ++ enc j v) v l n x w j = octet_Put.l0 f w (base ++ enc w v) l n (wrap64 (x + 1))
  | 0, j, h => by
    obtain rfl : j = w := by omega
    rw [octet_Put.l1, if_neg (by omega)]
  | d + 1, j, h => by
    have e : wrap64 (8 * (j : Int)) = ((8 * j : Nat) : Int) := by unfold wrap64; omega
    rw [show f + (d + 1) + 1 = (f + d + 1) + 1 from rfl, octet_Put.l1, if_pos (by omega), if_pos (by rw [e]; omega), if_pos (by rw [List.length_append, enc_length]; omega), byte_shr v j (by omega), List.append_assoc, ← enc_succ, w64n j (by omega)]
    exact oct_l1 w hw base hb v l n x f d (j + 1) (by omega)
/-- What a list's numbers become. -/
def encs (w : Nat) (l : List Int) : List Int := l.flatMap fun x => enc w x.toNat
theorem encs_len (w : Nat) (hw : w ≤ 8) : ∀ l : List Int, (encs w l).length ≤ 8 * l.length
  | [] => by simp [encs]
  | x :: l => by
    have := encs_len w hw l
    simp only [encs, List.flatMap_cons, List.length_append, enc_length, List.length_cons] at this ⊢
    omega
theorem oct_l0 (w : Nat) (hw : w ≤ 8) (l : List Int) (hl : ∀ x ∈ l, 0 ≤ x) (hn : l.length ≤ 1000) (e : Nat) :
    ∀ d i (base : List Int), i + d = l.length → base.length ≤ 10000 + 8 * i → octet_Put.l0 ((w + 2) * d + 1 + e) w base l l.length i = some (base ++ encs w (l.drop i))
  | 0, i, base, h, _ => by
    obtain rfl : i = l.length := by omega
    rw [Nat.mul_zero, Nat.zero_add, Nat.add_comm 1 e, octet_Put.l0, if_neg (by omega), List.drop_length]
    simp [encs]
  | d + 1, i, base, h, hb => by
    have hi : i < l.length := by omega
    have hx := hl _ (List.getElem_mem hi)
    have ev : l[i] = ((l[i].toNat : Nat) : Int) := by omega
    have hr : rd l (i : Int) = ((l[i].toNat : Nat) : Int) := by
      unfold rd
      rw [Int.toNat_natCast, List.getD_eq_getElem?_getD, List.getElem?_eq_getElem hi, Option.getD_some, ← ev]
    rw [show (w + 2) * (d + 1) + 1 + e = (((w + 2) * d + 1 + e) + w + 1) + 1 by rw [Nat.mul_succ]; omega, octet_Put.l0, if_pos (by omega), if_pos (by omega), if_pos (by omega), hr]
    have h8 := oct_l1 w hw base (by omega) l[i].toNat l l.length i ((w + 2) * d + 1 + e) w 0 (by omega)
    rw [show enc 0 l[i].toNat = [] from rfl, List.append_nil] at h8
    refine h8.trans ?_
    rw [w64n i (by omega), oct_l0 w hw l hl hn e d (i + 1) _ (by omega) (by rw [List.length_append, enc_length]; omega), List.append_assoc]
    congr 2
    unfold encs
    rw [List.drop_eq_getElem_cons hi, List.flatMap_cons]
/-- What 'Put' makes. -/
def putR (b : List Int) (w : Int) (l : List Int) : List Int := if 1 ≤ w ∧ w ≤ 8 then b ++ encs w.toNat l else b
theorem oct_put (b : List Int) (hb : b.length ≤ 10000) (w : Int) (l : List Int) (hl : ∀ x ∈ l, 0 ≤ x) (hn : l.length ≤ 1000) (k : Nat) (hk : 10 * l.length + 2 ≤ k) : octet_Put.f k b w l = some (putR b w l) := by
  unfold octet_Put.f putR
  simp only [Option.bind_some, List.nil_append, List.length_nil]
  rw [if_pos (by omega)]
  obtain ⟨k, rfl⟩ : ∃ k', k = k' + 1 := ⟨k - 1, by omega⟩
  by_cases h1 : w < 1
  · rw [if_pos h1, if_neg (by omega), octet_Put.j0, if_pos rfl]
  · rw [if_neg h1]
    by_cases h2 : w > 8
    · rw [if_neg (by omega), octet_Put.j0, if_pos (by simpa using h2)]
    · obtain ⟨n, rfl⟩ : ∃ n : Nat, w = n := ⟨w.toNat, by omega⟩
      have hle : (n + 2) * l.length ≤ 10 * l.length := Nat.mul_le_mul_right _ (by omega)
      obtain ⟨e, he⟩ : ∃ e, k = (n + 2) * l.length + 1 + e := ⟨k - ((n + 2) * l.length + 1), by omega⟩
      rw [if_pos (by omega), octet_Put.j0, if_neg (by simpa using h2), he]
      have := oct_l0 n (by omega) l hl hn e l.length 0 b (by omega) (by omega)
      rw [List.drop_zero] at this
      exact this
theorem ref_l0 (w : Nat) (hw : w ≤ 8) (base : List Int) (hb : base.length < 100000000) (v : Nat) (hv : v < 18446744073709551616) (f : Nat) :
    ∀ d j, j + d = w → keelsonref01_Put.l0 (f + d + 1) w ((v / 256 ^ j : Nat) : Int) (base ++ enc j v) j = some (base ++ enc w v)
  | 0, j, h => by
    obtain rfl : j = w := by omega
    rw [keelsonref01_Put.l0, if_neg (by omega)]
  | d + 1, j, h => by
    have hlt : v / 256 ^ j < 18446744073709551616 := Nat.lt_of_le_of_lt (Nat.div_le_self _ _) hv
    have e1 : Int.tdiv ((v / 256 ^ j : Nat) : Int) 256 = ((v / 256 ^ (j + 1) : Nat) : Int) := by
      rw [Int.tdiv_eq_ediv_of_nonneg (Int.natCast_nonneg _), Nat.pow_succ, ← Nat.div_div_eq_div_mul]
      omega
    have e2 : Int.tmod ((v / 256 ^ j : Nat) : Int) 256 % 256 = ((v / 256 ^ j % 256 : Nat) : Int) := by
      rw [Int.tmod_eq_emod_of_nonneg (Int.natCast_nonneg _)]
      omega
    have hlt2 : v / 256 ^ (j + 1) < 18446744073709551616 := Nat.lt_of_le_of_lt (Nat.div_le_self _ _) hv
    rw [show f + (d + 1) + 1 = (f + d + 1) + 1 from rfl, keelsonref01_Put.l0, if_pos (by omega), if_pos (by rw [List.length_append, enc_length]; omega), e1, e2, wrap_u .u64 rfl _ hlt2, List.append_assoc, ← enc_succ, w64n j (by omega)]
    exact ref_l0 w hw base hb v hv f d (j + 1) (by omega)
theorem ref_put (b : List Int) (hb : b.length ≤ 100000) (w : Int) (v : Nat) (hv : v < 18446744073709551616) (k : Nat) (hk : 10 ≤ k) : keelsonref01_Put.f k b w v = some (putR b w [(v : Int)]) := by
  unfold keelsonref01_Put.f putR
  rw [if_pos (by simp only [List.length_nil]; omega)]
  simp only [Option.bind_some, List.nil_append]
  obtain ⟨k, rfl⟩ : ∃ k', k = k' + 1 := ⟨k - 1, by omega⟩
  by_cases h1 : w < 1
  · rw [if_pos h1, if_neg (by omega), keelsonref01_Put.j0, if_pos rfl]
  · rw [if_neg h1]
    by_cases h2 : w > 8
    · rw [if_neg (by omega), keelsonref01_Put.j0, if_pos (by simpa using h2)]
    · obtain ⟨n, rfl⟩ : ∃ n : Nat, w = n := ⟨w.toNat, by omega⟩
      obtain ⟨e, he⟩ : ∃ e, k = e + n + 1 := ⟨k - (n + 1), by omega⟩
      rw [if_pos (by omega), keelsonref01_Put.j0, if_neg (by simpa using h2), he]
      have := ref_l0 n (by omega) b (by omega) v hv e n 0 (by omega)
      rw [Nat.pow_zero, Nat.div_one, show enc 0 v = [] from rfl, List.append_nil] at this
      rw [show ((0 : Nat) : Int) = 0 from rfl] at this
      rw [this]
      simp [encs]
theorem putR_nil (b : List Int) (w : Int) : putR b w [] = b := by
  unfold putR
  split <;> simp [encs]
theorem putR_cons (b : List Int) (w x : Int) (l : List Int) : putR (putR b w [x]) w l = putR b w (x :: l) := by
  unfold putR
  split <;> simp [encs]
theorem putR_len (b : List Int) (w : Int) (l : List Int) : (putR b w l).length ≤ b.length + 8 * l.length := by
  unfold putR
  split
  · have := encs_len w.toNat (by omega) l
    rw [List.length_append]
    omega
  · omega
theorem ref_more (n : Nat) (h : n < 4294967296) (l : List Int) (hl : ∀ x ∈ l, 0 ≤ x ∧ x < 256) (hlen : l.length ≤ 1000) : ∀ e, keelsonref02_More.f (10 * l.length + 1 + e) (n : Int) l = some ((endN n l : Nat) : Int)
  | 0 => ref_nat n h l hl hlen
  | e + 1 => keelsonref02_More.mono _ _ _ _ (ref_more n h l hl hlen e)
/-- A sealed text. -/
def sealN (b : List Int) : List Int := b ++ enc 4 (endN 0 b)
theorem endN_lt (n : Nat) (h : n < 4294967296) (b : List Int) (hb : ∀ x ∈ b, 0 ≤ x ∧ x < 256) : endN n b < 4294967296 :=
  Nat.xor_lt_two_pow (n := 32) (crcN_lt (Nat.xor_lt_two_pow (n := 32) h (by decide)) hb _) (by decide)
theorem seal_nat (b : List Int) (hb : ∀ x ∈ b, 0 ≤ x ∧ x < 256) (hn : b.length ≤ 1000) (k : Nat) (hk : 20 ≤ k) : crc_Seal.f k b = some (sealN b) := by
  have hlt := endN_lt 0 (by decide) b hb
  unfold crc_Seal.f crc_Sum.f
  rw [show (0 : Int) = ((0 : Nat) : Int) from rfl, more_nat 0 (by decide) b hb]
  simp only [Option.bind_some]
  rw [wrap_u .u64 rfl _ (show endN 0 b < 18446744073709551616 by omega), oct_put b (by omega) 4 _ (fun x hx => by simp at hx; omega) (by simp) k (by simp; omega)]
  simp [putR, sealN, encs]
theorem rseal_nat (b : List Int) (hb : ∀ x ∈ b, 0 ≤ x ∧ x < 256) (hn : b.length ≤ 1000) (k : Nat) (hk : 10 * b.length + 20 ≤ k) : keelsonref02_Seal.f k b = some (sealN b) := by
  have hlt := endN_lt 0 (by decide) b hb
  obtain ⟨e, rfl⟩ : ∃ e, k = 10 * b.length + 1 + e := ⟨k - (10 * b.length + 1), by omega⟩
  unfold keelsonref02_Seal.f keelsonref02_Sum.f
  rw [show (0 : Int) = ((0 : Nat) : Int) from rfl, ref_more 0 (by decide) b hb hn e]
  simp only [Option.bind_some]
  rw [wrap_u .u64 rfl _ (show endN 0 b < 18446744073709551616 by omega), ref_put b (by omega) 4 _ (by omega) _ (by omega)]
  simp [putR, sealN, encs]
/-- The number of the first bytes. -/
def decN (l : List Int) : Nat → Nat
  | 0 => 0
  | k + 1 => 256 ^ k * (l[k]?.getD 0).toNat + decN l k
theorem byte_at {l : List Int} (hl : ∀ x ∈ l, 0 ≤ x ∧ x < 256) (k : Nat) : 0 ≤ l[k]?.getD 0 ∧ l[k]?.getD 0 < 256 := by
  rcases Nat.lt_or_ge k l.length with hk | hk
  · rw [List.getElem?_eq_getElem hk]
    exact hl _ (List.getElem_mem hk)
  · rw [List.getElem?_eq_none hk]
    decide
theorem decN_lt {l : List Int} (hl : ∀ x ∈ l, 0 ≤ x ∧ x < 256) : ∀ k, decN l k < 256 ^ k
  | 0 => by simp [decN]
  | k + 1 => by
    have h1 := decN_lt hl k
    have h2 := byte_at hl k
    have h3 : 256 ^ k * (l[k]?.getD 0).toNat ≤ 256 ^ k * 255 := Nat.mul_le_mul_left _ (by omega)
    simp only [decN, Nat.pow_succ]
    omega
theorem num_nat {l : List Int} (hl : ∀ x ∈ l, 0 ≤ x ∧ x < 256) : ∀ k, k ≤ 4 → numAt l k = (decN l k : Nat)
  | 0, _ => rfl
  | k + 1, hk => by
    have h1 := decN_lt hl k
    have h2 := byte_at hl k
    obtain ⟨c, hc⟩ : ∃ c : Nat, l[k]?.getD 0 = c := ⟨(l[k]?.getD 0).toNat, by omega⟩
    have hc2 : c < 256 := by omega
    have hp : (256 : Nat) ^ k ≤ 256 ^ 3 := Nat.pow_le_pow_right (by decide) (by omega)
    have h3 : 256 ^ k * c ≤ 256 ^ 3 * 255 := Nat.mul_le_mul hp (by omega)
    have e8 : (2 : Nat) ^ (8 * k) = 256 ^ k := by rw [Nat.pow_mul]
    simp only [numAt, decN, num_nat hl k (by omega), hc, Int.toNat_natCast]
    rw [wrap_u .u64 rfl c (show c < 18446744073709551616 by omega), show ((c : Int) * 2 ^ (8 * k)) = ((256 ^ k * c : Nat) : Int) by rw [← e8]; simp [Int.mul_comm],
      wrap_u .u64 rfl _ (show 256 ^ k * c < 18446744073709551616 by omega), or_u .u64 rfl _ _ (show decN l k < 18446744073709551616 by omega) (show 256 ^ k * c < 18446744073709551616 by omega), ← e8, Nat.or_comm, ← Nat.two_pow_add_eq_or_of_lt (by rw [e8]; exact h1)]
theorem enc_add (k a b : Nat) : enc k (256 ^ k * b + a) = enc k a := by
  unfold enc
  apply List.map_congr_left
  intro j hj
  have hj := List.mem_range.1 hj
  have e : (256 : Nat) ^ k = 256 ^ j * (256 * 256 ^ (k - j - 1)) := by rw [← Nat.pow_succ', ← Nat.pow_add]; congr 1; omega
  rw [e, Nat.mul_assoc, Nat.add_comm, Nat.add_mul_div_left _ _ (Nat.pow_pos (by decide)), Nat.mul_assoc, Nat.add_mul_mod_self_left]
theorem enc_dec {l : List Int} (hl : ∀ x ∈ l, 0 ≤ x ∧ x < 256) : ∀ k, k ≤ l.length → enc k (decN l k) = l.take k
  | 0, _ => by simp [enc]
  | k + 1, hk => by
    have hi : k < l.length := by omega
    have h2 := hl _ (List.getElem_mem hi)
    have h1 := decN_lt hl k
    rw [enc_succ, show decN l (k + 1) = 256 ^ k * (l[k]?.getD 0).toNat + decN l k from rfl, enc_add, enc_dec hl k (by omega), List.take_succ_eq_append_getElem hi, List.getElem?_eq_getElem hi, Option.getD_some, Nat.mul_add_div (Nat.pow_pos (by decide)), Nat.div_eq_of_lt h1]
    congr 2
    omega
theorem dec_enc (v : Nat) : ∀ k (r : List Int), decN (enc k v ++ r) k = v % 256 ^ k
  | 0, r => by simp [decN, Nat.mod_one]
  | k + 1, r => by
    have hb0 : (([((v / 256 ^ k % 256 : Nat) : Int)] ++ r)[0]?.getD (0 : Int)).toNat = v / 256 ^ k % 256 := by
      rw [List.singleton_append, List.getElem?_cons_zero, Option.getD_some, Int.toNat_natCast]
    rw [show decN (enc (k + 1) v ++ r) (k + 1) = 256 ^ k * ((enc (k + 1) v ++ r)[k]?.getD 0).toNat + decN (enc (k + 1) v ++ r) k from rfl, enc_succ, List.append_assoc, dec_enc v k,
      List.getElem?_append_right (by rw [enc_length]; omega), enc_length, Nat.sub_self, Nat.mod_pow_succ,
      hb0, Nat.add_comm]
theorem str_inj {x y : List Int} (hx : ∀ a ∈ x, 0 ≤ a ∧ a < 256) (hy : ∀ a ∈ y, 0 ≤ a ∧ a < 256) (h : (strOfNums x).toList = (strOfNums y).toList) : x = y := by
  have key : ∀ l : List Int, (∀ a ∈ l, 0 ≤ a ∧ a < 256) → (l.map fun n => UInt8.ofNat n.toNat).map (fun b => (b.toNat : Int)) = l := by
    intro l hl
    rw [List.map_map]
    refine (List.map_congr_left (g := id) fun a ha => ?_).trans (List.map_id l)
    have := hl a ha
    simp
    omega
  rw [Go.Lib.strOfNums_toList, Go.Lib.strOfNums_toList] at h
  have h1 := congrArg (fun l => l.map (fun b : UInt8 => (b.toNat : Int))) h
  have e1 := key x hx
  have e2 := key y hy
  exact e1.symm.trans (h1.trans e2)
theorem enc_bytes (k v : Nat) : ∀ x ∈ enc k v, 0 ≤ x ∧ x < 256 := by
  intro x hx
  obtain ⟨j, _, rfl⟩ := List.mem_map.1 hx
  constructor <;> omega
/-- What opens. -/
def openN (c : List Int) : List Int × Int := if c.length < 4 then ([], 10) else if sealN (c.take (c.length - 4)) = c then (c.take (c.length - 4), 0) else ([], 12)
theorem ropen_nat (c : List Int) (hb : ∀ x ∈ c, 0 ≤ x ∧ x < 256) (hn : c.length ≤ 1004) (k : Nat) (hk : 10 * c.length + 20 ≤ k) : keelsonref02_Open.f k c = some (openN c) := by
  unfold keelsonref02_Open.f openN
  by_cases h : c.length < 4
  · rw [if_pos h, if_pos h]
  · have ht : ∀ x ∈ c.take (c.length - 4), 0 ≤ x ∧ x < 256 := fun x hx => hb x (List.mem_of_mem_take hx)
    have hl : (c.take (c.length - 4)).length = c.length - 4 := by rw [List.length_take]; omega
    rw [if_neg h, if_neg h, rseal_nat _ ht (by omega) k (by omega), Option.bind_some]
    have hs : ∀ x ∈ sealN (c.take (c.length - 4)), 0 ≤ x ∧ x < 256 := fun x hx => (List.mem_append.1 hx).elim (ht x) (enc_bytes _ _ x)
    by_cases hq : sealN (c.take (c.length - 4)) = c
    · rw [if_pos (by rw [hq]), if_pos hq]
    · rw [if_neg (fun he => hq (str_inj hs hb he)), if_neg hq]
theorem open_nat (c : List Int) (hb : ∀ x ∈ c, 0 ≤ x ∧ x < 256) (hn : c.length ≤ 1004) : crc_Open.f c = some (openN c) := by
  have ew : wrap64 ((c.length : Int) - 4) = (c.length : Int) - 4 := by unfold wrap64; omega
  unfold crc_Open.f openN
  rw [ew]
  by_cases h : c.length < 4
  · rw [if_pos (by omega), if_pos h]
  · have ht : ∀ x ∈ c.take (c.length - 4), 0 ≤ x ∧ x < 256 := fun x hx => hb x (List.mem_of_mem_take hx)
    have hd : ∀ x ∈ c.drop (c.length - 4), 0 ≤ x ∧ x < 256 := fun x hx => hb x (List.mem_of_mem_drop hx)
    have hl : (c.take (c.length - 4)).length = c.length - 4 := by rw [List.length_take]; omega
    have hld : (c.drop (c.length - 4)).length = 4 := by rw [List.length_drop]; omega
    have hlt := endN_lt 0 (by decide) _ ht
    rw [if_neg (by omega), if_neg h, if_pos (by omega), if_pos (by omega), show ((c.length : Int) - 4).toNat = c.length - 4 by omega]
    have hcut : c.take (c.length - 4) ++ c.drop (c.length - 4) = c := List.take_append_drop _ _
    generalize c.take (c.length - 4) = t at ht hl hlt hcut ⊢
    generalize c.drop (c.length - 4) = d at hd hld hcut ⊢
    unfold crc_Sum.f
    rw [show (0 : Int) = ((0 : Nat) : Int) from rfl, more_nat 0 (by decide) t ht]
    simp only [Option.bind_some, octet_Read.f]
    unfold octet_Reader_Num.f
    rw [if_neg (by simp [hld])]
    simp only [Option.bind_some]
    rw [wrap_u .u64 rfl _ (show endN 0 t < 18446744073709551616 by omega), show ((4 : Int)).toNat = 4 from rfl, num_nat hd 4 (by omega)]
    by_cases hq : endN 0 t = decN d 4
    · have e : sealN t = c := by
        unfold sealN
        rw [hq, enc_dec hd 4 (by omega), List.take_of_length_le (by omega), hcut]
      rw [if_pos (by rw [hq]), if_pos e, if_pos (by simp only [List.length_nil]; omega)]
      simp
    · have e : ¬ sealN t = c := by
        intro he
        unfold sealN at he
        rw [← hcut] at he
        have h1 := List.append_cancel_left he
        have h2 := dec_enc (endN 0 t) 4 []
        rw [List.append_nil, h1, Nat.mod_eq_of_lt (show endN 0 t < 256 ^ 4 by omega)] at h2
        exact hq h2.symm
      rw [if_neg (by omega), if_neg e]
theorem open_seal (b : List Int) : openN (sealN b) = (b, 0) := by
  have hl : (sealN b).length = b.length + 4 := by simp [sealN, enc_length]
  have ht : (sealN b).take ((sealN b).length - 4) = b := by rw [hl, Nat.add_sub_cancel]; exact List.take_left
  unfold openN
  rw [if_neg (by omega), ht, if_pos rfl]
theorem CrcSeals : keelsonlaw02_CrcSeals.Pure := by
  intro b c _ _ hb _ _ hc
  have hb := u8s hb
  have hc := u8s hc
  refine ⟨10 * b.length + 10 * c.length + 20, ?_⟩
  unfold keelsonlaw02_CrcSeals.f
  by_cases h : 1000 < b.length ∨ 1000 < c.length
  · rw [if_pos h]
  · rw [if_neg h]
    have hs : ∀ x ∈ sealN b, 0 ≤ x ∧ x < 256 := fun x hx => (List.mem_append.1 hx).elim (hb x) (enc_bytes _ _ x)
    have hl : (sealN b).length = b.length + 4 := by simp [sealN, enc_length]
    rw [seal_nat b hb (by omega) _ (by omega), rseal_nat b hb (by omega) _ (by omega), open_nat c hc (by omega), ropen_nat c hc (by omega) _ (by omega)]
    simp only [Option.bind_some]
    rw [open_nat (sealN b) hs (by omega), open_seal]
    simp
end Go.Proofs.Ytejflbmpokdhgaa.Pure
