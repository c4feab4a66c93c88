/- The plain law of OctetPuts: a number's bytes, by shifts and by division. -/
import Derived.Test.YtejflbmpokdhgaaPPutsx2
import Derived.Test.YtejflbmpokdhgaaBits
namespace Go.Proofs.Ytejflbmpokdhgaa.Pure
open Go.RowKit Go.Proofs.Ytejflbmpokdhgaa.PPuts Go.Proofs.YtejflbmpokdhgaaW.PrintWords Go.Proofs.YtejflbmpokdhgaaW.PrintLast Go.Proofs.YtejflbmpokdhgaaW.PrintMore Go.Proofs.Ytejflbmpokdhgaa.K
/-- The lowest 'n' bytes of a number, the lowest first. -/
def enc (n v : Nat) : List Int := (List.range n).map fun j => ((v / 256 ^ j % 256 : Nat) : Int)
theorem enc_succ (n v : Nat) : enc (n + 1) v = enc n v ++ [((v / 256 ^ n % 256 : Nat) : Int)] := by simp [enc, List.range_succ]
theorem enc_length (n v : Nat) : (enc n v).length = n := by simp [enc]
theorem w64n (i : Nat) (h : i < 1000000) : wrap64 ((i : Int) + 1) = ((i + 1 : Nat) : Int) := by
  unfold wrap64
  omega
theorem byte_shr (v j : Nat) (hj : j < 8) : (shr .u64 (v : Int) (wrap64 (8 * (j : Int)))) % 256 = ((v / 256 ^ j % 256 : Nat) : Int) := by
  have e : wrap64 (8 * (j : Int)) = ((8 * j : Nat) : Int) := by unfold wrap64; omega
  unfold shr
  rw [e, Int.toNat_natCast, show min (8 * j) IntKind.u64.bits = 8 * j from Nat.min_eq_left (show 8 * j ≤ 64 by omega), show (256 : Nat) ^ j = 2 ^ (8 * j) by rw [Nat.pow_mul]]
  simp
theorem oct_l1 (w : Nat) (hw : w ≤ 8) (base : List Int) (hb : base.length < 100000000) (v : Nat) (l : List Int) (n x : Int) (f : Nat) :
    ∀ d j, j + d = w → octet_Put.l1 (f + d + 1) w (base ++ enc j v) v l n x w j = octet_Put.l0 f w (base ++ enc w v) l n (wrap64 (x + 1))
  | 0, j, h => by
    obtain rfl : j = w := by omega
    rw [octet_Put.l1, if_neg (by omega)]
  | d + 1, j, h => by
    have e : wrap64 (8 * (j : Int)) = ((8 * j : Nat) : Int) := by unfold wrap64; omega
    rw [show f + (d + 1) + 1 = (f + d + 1) + 1 from rfl, octet_Put.l1, if_pos (by omega), if_pos (by rw [e]; omega), if_pos (by rw [List.length_append, enc_length]; omega), byte_shr v j (by omega), List.append_assoc, ← enc_succ, w64n j (by omega)]
    exact oct_l1 w hw base hb v l n x f d (j + 1) (by omega)
/-- What a list's numbers become. -/
def encs (w : Nat) (l : List Int) : List Int := l.flatMap fun x => enc w x.toNat
theorem encs_len (w : Nat) (hw : w ≤ 8) : ∀ l : List Int, (encs w l).length ≤ 8 * l.length
  | [] => by simp [encs]
  | x :: l => by
    have := encs_len w hw l
    simp only [encs, List.flatMap_cons, List.length_append, enc_length, List.length_cons] at this ⊢
    omega
theorem oct_l0 (w : Nat) (hw : w ≤ 8) (l : List Int) (hl : ∀ x ∈ l, 0 ≤ x) (hn : l.length ≤ 1000) (e : Nat) :
    ∀ d i (base : List Int), i + d = l.length → base.length ≤ 10000 + 8 * i → octet_Put.l0 ((w + 2) * d + 1 + e) w base l l.length i = some (base ++ encs w (l.drop i))
  | 0, i, base, h, _ => by
    obtain rfl : i = l.length := by omega
    rw [Nat.mul_zero, Nat.zero_add, Nat.add_comm 1 e, octet_Put.l0, if_neg (by omega), List.drop_length]
    simp [encs]
  | d + 1, i, base, h, hb => by
    have hi : i < l.length := by omega
    have hx := hl _ (List.getElem_mem hi)
    have ev : l[i] = ((l[i].toNat : Nat) : Int) := by omega
    have hr : rd l (i : Int) = ((l[i].toNat : Nat) : Int) := by
      unfold rd
      rw [Int.toNat_natCast, List.getD_eq_getElem?_getD, List.getElem?_eq_getElem hi, Option.getD_some, ← ev]
    rw [show (w + 2) * (d + 1) + 1 + e = (((w + 2) * d + 1 + e) + w + 1) + 1 by rw [Nat.mul_succ]; omega, octet_Put.l0, if_pos (by omega), if_pos (by omega), if_pos (by omega), hr]
    have h8 := oct_l1 w hw base (by omega) l[i].toNat l l.length i ((w + 2) * d + 1 + e) w 0 (by omega)
    rw [show enc 0 l[i].toNat = [] from rfl, List.append_nil] at h8
    refine h8.trans ?_
    rw [w64n i (by omega), oct_l0 w hw l hl hn e d (i + 1) _ (by omega) (by rw [List.length_append, enc_length]; omega), List.append_assoc]
    congr 2
    unfold encs
    rw [List.drop_eq_getElem_cons hi, List.flatMap_cons]
/-- What 'Put' makes. -/
def putR (b : List Int) (w : Int) (l : List Int) : List Int := if 1 ≤ w ∧ w ≤ 8 then b ++ encs w.toNat l else b
theorem oct_put (b : List Int) (hb : b.length ≤ 10000) (w : Int) (l : List Int) (hl : ∀ x ∈ l, 0 ≤ x) (hn : l.length ≤ 1000) (k : Nat) (hk : 10 * l.length + 2 ≤ k) : octet_Put.f k b w l = some (putR b w l) := by
  unfold octet_Put.f putR
  simp only [Option.bind_some, List.nil_append, List.length_nil]
  rw [if_pos (by omega)]
  obtain ⟨k, rfl⟩ : ∃ k', k = k' + 1 := ⟨k - 1, by omega⟩
  by_cases h1 : w < 1
  · rw [if_pos h1, if_neg (by omega), octet_Put.j0, if_pos rfl]
  · rw [if_neg h1]
    by_cases h2 : w > 8
    · rw [if_neg (by omega), octet_Put.j0, if_pos (by simpa using h2)]
    · obtain ⟨n, rfl⟩ : ∃ n : Nat, w = n := ⟨w.toNat, by omega⟩
      have hle : (n + 2) * l.length ≤ 10 * l.length := Nat.mul_le_mul_right _ (by omega)
      obtain ⟨e, he⟩ : ∃ e, k = (n + 2) * l.length + 1 + e := ⟨k - ((n + 2) * l.length + 1), by omega⟩
      rw [if_pos (by omega), octet_Put.j0, if_neg (by simpa using h2), he]
      have := oct_l0 n (by omega) l hl hn e l.length 0 b (by omega) (by omega)
      rw [List.drop_zero] at this
      exact this
theorem ref_l0 (w : Nat) (hw : w ≤ 8) (base : List Int) (hb : base.length < 100000000) (v : Nat) (hv : v < 18446744073709551616) (f : Nat) :
    ∀ d j, j + d = w → keelsonref01_Put.l0 (f + d + 1) w ((v / 256 ^ j : Nat) : Int) (base ++ enc j v) j = some (base ++ enc w v)
  | 0, j, h => by
    obtain rfl : j = w := by omega
    rw [keelsonref01_Put.l0, if_neg (by omega)]
  | d + 1, j, h => by
    have hlt : v / 256 ^ j < 18446744073709551616 := Nat.lt_of_le_of_lt (Nat.div_le_self _ _) hv
    have e1 : Int.tdiv ((v / 256 ^ j : Nat) : Int) 256 = ((v / 256 ^ (j + 1) : Nat) : Int) := by
      rw [Int.tdiv_eq_ediv_of_nonneg (Int.natCast_nonneg _), Nat.pow_succ, ← Nat.div_div_eq_div_mul]
      omega
    have e2 : Int.tmod ((v / 256 ^ j : Nat) : Int) 256 % 256 = ((v / 256 ^ j % 256 : Nat) : Int) := by
      rw [Int.tmod_eq_emod_of_nonneg (Int.natCast_nonneg _)]
      omega
    have hlt2 : v / 256 ^ (j + 1) < 18446744073709551616 := Nat.lt_of_le_of_lt (Nat.div_le_self _ _) hv
    rw [show f + (d + 1) + 1 = (f + d + 1) + 1 from rfl, keelsonref01_Put.l0, if_pos (by omega), if_pos (by rw [List.length_append, enc_length]; omega), e1, e2, wrap_u .u64 rfl _ hlt2, List.append_assoc, ← enc_succ, w64n j (by omega)]
    exact ref_l0 w hw base hb v hv f d (j + 1) (by omega)
theorem ref_put (b : List Int) (hb : b.length ≤ 100000) (w : Int) (v : Nat) (hv : v < 18446744073709551616) (k : Nat) (hk : 10 ≤ k) : keelsonref01_Put.f k b w v = some (putR b w [(v : Int)]) := by
  unfold keelsonref01_Put.f putR
  rw [if_pos (by simp only [List.length_nil]; omega)]
  simp only [Option.bind_some, List.nil_append]
  obtain ⟨k, rfl⟩ : ∃ k', k = k' + 1 := ⟨k - 1, by omega⟩
  by_cases h1 : w < 1
  · rw [if_pos h1, if_neg (by omega), keelsonref01_Put.j0, if_pos rfl]
  · rw [if_neg h1]
    by_cases h2 : w > 8
    · rw [if_neg (by omega), keelsonref01_Put.j0, if_pos (by simpa using h2)]
    · obtain ⟨n, rfl⟩ : ∃ n : Nat, w = n := ⟨w.toNat, by omega⟩
      obtain ⟨e, he⟩ : ∃ e, k = e + n + 1 := ⟨k - (n + 1), by omega⟩
      rw [if_pos (by omega), keelsonref01_Put.j0, if_neg (by simpa using h2), he]
      have := ref_l0 n (by omega) b (by omega) v hv e n 0 (by omega)
      rw [Nat.pow_zero, Nat.div_one, show enc 0 v = [] from rfl, List.append_nil] at this
      rw [show ((0 : Nat) : Int) = 0 from rfl] at this
      rw [this]
      simp [encs]
theorem putR_nil (b : List Int) (w : Int) : putR b w [] = b := by
  unfold putR
  split <;> simp [encs]
theorem putR_cons (b : List Int) (w x : Int) (l : List Int) : putR (putR b w [x]) w l = putR b w (x :: l) := by
  unfold putR
  split <;> simp [encs]
theorem putR_len (b : List Int) (w : Int) (l : List Int) : (putR b w l).length ≤ b.length + 8 * l.length := by
  unfold putR
  split
  · have := encs_len w.toNat (by omega) l
    rw [List.length_append]
    omega
  · omega
theorem ref_all (w : Int) (l : List Int) (hl : ∀ x ∈ l, 0 ≤ x ∧ x < 18446744073709551616) (hn : l.length ≤ 1000) (e : Nat) :
    ∀ d i (base : List Int), i + d = l.length → base.length ≤ 10000 + 8 * i → keelsonref01_All.l0 (d + 11 + e) w l base i = some (putR base w (l.drop i))
  | 0, i, base, h, _ => by
    obtain rfl : i = l.length := by omega
    rw [show 0 + 11 + e = (10 + e) + 1 by omega, keelsonref01_All.l0, if_neg (by omega), List.drop_length, putR_nil]
  | d + 1, i, base, h, hb => by
    have hi : i < l.length := by omega
    have hx := hl _ (List.getElem_mem hi)
    have ev : l[i] = ((l[i].toNat : Nat) : Int) := by omega
    have hr : rd l (i : Int) = ((l[i].toNat : Nat) : Int) := by
      unfold rd
      rw [Int.toNat_natCast, List.getD_eq_getElem?_getD, List.getElem?_eq_getElem hi, Option.getD_some, ← ev]
    rw [show d + 1 + 11 + e = (d + 11 + e) + 1 by omega, keelsonref01_All.l0, if_pos (by omega), if_pos (by omega), hr, ref_put base (by omega) w _ (by omega) _ (by omega), Option.bind_some, w64n i (by omega)]
    have hlen := putR_len base w [((l[i].toNat : Nat) : Int)]
    rw [ref_all w l hl hn e d (i + 1) _ (by omega) (by simp only [List.length_cons, List.length_nil] at hlen; omega), putR_cons, List.drop_eq_getElem_cons hi, ← ev]
theorem u64s {l : List Int} (h : ∀ x ∈ l, (Lit.int .u64 x).wf = true) : ∀ x ∈ l, 0 ≤ x ∧ x < 18446744073709551616 := by
  intro x hx
  have := h x hx
  simp only [Lit.wf, IntKind.min, IntKind.max, Bool.and_eq_true] at this
  have h1 := this.1
  have h2 := this.2
  simp [IntKind.signed, IntKind.bits] at h1 h2
  omega
theorem OctetPuts : keelsonlaw01_OctetPuts.Pure := by
  intro b w l s _ _ _ _ _ _ hl _
  have hl := u64s hl
  refine ⟨10 * l.length + 100, ?_⟩
  unfold keelsonlaw01_OctetPuts.f
  by_cases h : 1000 < b.length ∨ 100 < l.length ∨ 20000 < s.size
  · rw [if_pos h]
  · rw [if_neg h]
    have hs : IntKind.u64.wrap ((s.size : Nat) : Int) = ((s.size : Nat) : Int) := wrap_u .u64 rfl _ (show s.size < 18446744073709551616 by omega)
    have h1 := oct_put b (by omega) w l (fun x hx => (hl x hx).1) (by omega) (10 * l.length + 100) (by omega)
    have h2 : keelsonref01_All.f (10 * l.length + 100) b w l = some (putR b w l) := by
      unfold keelsonref01_All.f
      rw [show (0 : Int) = ((0 : Nat) : Int) from rfl, ref_put b (by omega) _ 0 (by decide) _ (by omega), Option.bind_some, show putR b ((0 : Nat) : Int) [((0 : Nat) : Int)] = b from by unfold putR; rw [if_neg (by omega)]]
      have := ref_all w l hl (by omega) (9 * l.length + 89) l.length 0 b (by omega) (by omega)
      rw [List.drop_zero] at this
      rw [show 10 * l.length + 100 = l.length + 11 + (9 * l.length + 89) by omega]
      exact this
    have h3 : ∀ k, 100 ≤ k → octet_Put.f k b 2 [((s.size : Nat) : Int)] = some (putR b 2 [((s.size : Nat) : Int)]) := fun k hk => oct_put b (by omega) 2 _ (fun x hx => by simp at hx; omega) (by simp) k (by simp; omega)
    have h4 := ref_put b (by omega) 2 s.size (by omega) (10 * l.length + 100) (by omega)
    have hlen := putR_len b 2 [((s.size : Nat) : Int)]
    simp only [List.length_cons, List.length_nil] at hlen
    unfold octet_Text.f keelsonref01_Text.f
    rw [hs, h1, h2, h3 _ (by omega), h4]
    by_cases hsz : (s.size : Int) > 16384
    · simp [hsz]
    · rw [if_neg hsz, if_neg hsz]
      simp only [Option.bind_some]
      rw [if_pos (by omega), if_pos (by omega)]
      simp
end Go.Proofs.Ytejflbmpokdhgaa.Pure
