/- Frames, made and read: plain laws. -/
import Derived.Test.YtjkmnmpjcdanhaaFm5
namespace Go.Proofs.Ytjkmnmpjcdanhaa.S
set_option linter.all false
def mkS (n : Nat) (m : List Int) : List Int := (numI (n : Int) 8).reverse ++ (m ++ numI (n : Int) 8)
theorem mkS_len (n : Nat) {m : List Int} (h : m.length = 48) : (mkS n m).length = 64 := by
  unfold mkS; rw [List.length_append, List.length_append, List.length_reverse, numI_len, h]
def secK (A : List Int) (n i : Nat) : List Int := mkS n (padI (A.drop (48 * i)))
theorem secK_len (A : List Int) (n i : Nat) : (secK A n i).length = 64 := mkS_len n (padI_len _)
def Sec (l : List Int) (i : Nat) : List Int := (l.drop (64 * i)).take 64
theorem sec_len {l : List Int} {i : Nat} (h : 64 * i + 64 ≤ l.length) : (Sec l i).length = 64 := by
  unfold Sec; rw [List.length_take, List.length_drop]; omega
theorem frameK_succ (A : List Int) (n k : Nat) : frameK A n (k + 1) = frameK A n k ++ secK A n k := by
  unfold secK mkS
  rw [← List.append_assoc, ← List.append_assoc]; rfl
theorem sec_frame (A : List Int) (n : Nat) : ∀ (S i : Nat) (more : List Int), i < S → Sec (frameK A n S ++ more) i = secK A n i
  | 0, i, more, h => by omega
  | S + 1, i, more, h => by
    rw [frameK_succ, List.append_assoc]
    by_cases e : i = S
    · subst e
      unfold Sec
      rw [List.drop_left' (frameK_len A n i), List.take_left' (secK_len A n i)]
    · exact sec_frame A n S i _ (by omega)
theorem frame_of_sec (l A : List Int) (n : Nat) : ∀ S, (∀ i, i < S → Sec l i = secK A n i) → frameK A n S = l.take (64 * S)
  | 0, _ => by simp [frameK]
  | S + 1, hs => by
    rw [frameK_succ, frame_of_sec l A n S (fun i hi => hs i (by omega)), ← hs S (by omega)]
    unfold Sec
    rw [show 64 * (S + 1) = 64 * S + 64 by omega, List.take_add]
def hdK (s : List Int) : Nat := leN (s.take 8).reverse
def tlK (s : List Int) : Nat := leN ((s.drop 56).take 8)
theorem ends_at {l : List Int} (i : Nat) (h : 64 * i + 64 ≤ l.length) : endsI (l.drop (64 * i)) = (hdK (Sec l i), tlK (Sec l i)) := by
  unfold endsI hdK tlK Sec
  rw [if_neg (by rw [List.length_drop]; omega), List.take_take, List.drop_take, List.take_take]
  rfl
theorem leN8 {n : Nat} (h : n < 18446744073709551616) : leN (numI (n : Int) 8) = n := by
  have := leN_num (n : Int) (by omega) 8 (by omega)
  rw [show ((256 : Int) ^ 8) = 18446744073709551616 by decide] at this
  omega
theorem leN4n {n : Nat} (h : n < 4294967296) : leN (numI (n : Int) 4) = n := by
  have := leN_num (n : Int) (by omega) 4 (by omega)
  rw [show ((256 : Int) ^ 4) = 4294967296 by decide] at this
  omega
theorem mkS_hd (n : Nat) (m : List Int) : (mkS n m).take 8 = (numI (n : Int) 8).reverse := by
  unfold mkS; exact List.take_left' (by rw [List.length_reverse, numI_len])
theorem mkS_mid (n : Nat) {m : List Int} (h : m.length = 48) : ((mkS n m).drop 8).take 48 = m := by
  unfold mkS; rw [List.drop_left' (by rw [List.length_reverse, numI_len]), List.take_left' h]
theorem mkS_tl (n : Nat) {m : List Int} (h : m.length = 48) : (mkS n m).drop 56 = numI (n : Int) 8 := by
  unfold mkS; rw [← List.append_assoc, List.drop_left' (by rw [List.length_append, List.length_reverse, numI_len, h])]
theorem hdK_mk {n : Nat} (h : n < 18446744073709551616) (m : List Int) : hdK (mkS n m) = n := by
  unfold hdK; rw [mkS_hd, List.reverse_reverse, leN8 h]
theorem tlK_mk {n : Nat} (h : n < 18446744073709551616) {m : List Int} (hm : m.length = 48) : tlK (mkS n m) = n := by
  unfold tlK; rw [mkS_tl n hm, List.take_of_length_le (by rw [numI_len]; omega), leN8 h]
/-- A sector with the same number at both ends is made of that number. -/
theorem mkS_of {s : List Int} (hb : ByteL s) (hl : s.length = 64) {n : Nat} (hn : n < 18446744073709551616) (h1 : hdK s = n) (h2 : tlK s = n) : s = mkS n ((s.drop 8).take 48) := by
  have e1 : (s.take 8).reverse = numI (n : Int) 8 := leN_inj (fun x hx => hb x (List.mem_of_mem_take (List.mem_reverse.1 hx))) (numI_byte _ _) (by rw [List.length_reverse, List.length_take, numI_len]; omega) (by rw [leN8 hn]; exact h1)
  have e2 : (s.drop 56).take 8 = numI (n : Int) 8 := leN_inj (fun x hx => hb x (List.mem_of_mem_drop (List.mem_of_mem_take hx))) (numI_byte _ _) (by rw [List.length_take, List.length_drop, numI_len]; omega) (by rw [leN8 hn]; exact h2)
  rw [List.take_of_length_le (by rw [List.length_drop]; omega)] at e2
  unfold mkS
  rw [← e1, List.reverse_reverse, e1, ← e2]
  have a1 : s.drop 8 = (s.drop 8).take 48 ++ s.drop 56 := by
    have := (List.take_append_drop 48 (s.drop 8)).symm
    rwa [List.drop_drop] at this
  rw [← a1, List.take_append_drop]
theorem mid_sec (l : List Int) (k : Nat) : (l.drop (64 * k + 8)).take 48 = ((Sec l k).drop 8).take 48 := by
  unfold Sec
  rw [List.drop_take, List.take_take, List.drop_drop]
  rfl
theorem allK_frame (A : List Int) (n S : Nat) (more : List Int) : ∀ k, k ≤ S → 48 * k < A.length + 48 → allK (frameK A n S ++ more) k = A.take (48 * k) ++ List.replicate (48 * k - A.length) 0
  | 0, _, _ => by simp [allK]
  | k + 1, h1, h2 => by
    show allK (frameK A n S ++ more) k ++ ((frameK A n S ++ more).drop (64 * k + 8)).take 48 = _
    rw [allK_frame A n S more k (by omega) (by omega), mid_sec, sec_frame A n S k more (by omega)]
    unfold secK
    rw [mkS_mid _ (padI_len _)]
    unfold padI
    rw [show 48 * k - A.length = 0 by omega, List.replicate_zero, List.append_nil, ← List.append_assoc, show 48 * (k + 1) = 48 * k + 48 by omega, List.take_add, List.length_drop]
    congr 2
    omega
theorem make_eq (n : Nat) (h0 : 0 < n) (t : List Int) (ht : t.length ≤ 65536) : makeI n t = (frameK (sealI (numI (t.length : Nat) 4 ++ t)) n ((t.length + 55) / 48), 0) := by
  unfold makeI; rw [if_neg (by omega), if_neg (by omega)]
theorem read_frame (n : Nat) (h0 : 0 < n) (hn : n < 18446744073709551616) (t : List Int) (ht : t.length ≤ 65536) (more : List Int) : readI ((makeI n t).1 ++ more) = (n, t, 0) := by
  rw [make_eq n h0 t ht]
  have sl := sealI_len (numI (t.length : Nat) 4 ++ t)
  have sd := sealed_seal (numI (t.length : Nat) 4 ++ t)
  have tp := (seal_top (numI (t.length : Nat) 4 ++ t)).1
  have hA4 : (sealI (numI (t.length : Nat) 4 ++ t)).take 4 = numI (t.length : Nat) 4 := by
    unfold sealI; rw [List.append_assoc]; exact List.take_left' (numI_len _ _)
  rw [List.length_append, numI_len] at sl
  generalize sealI (numI (t.length : Nat) 4 ++ t) = A at *
  have fl := frameK_len A n ((t.length + 55) / 48)
  have hak := allK_frame A n ((t.length + 55) / 48) more ((t.length + 55) / 48) (Nat.le_refl _) (by omega)
  have hsc := fun i h => sec_frame A n ((t.length + 55) / 48) i more h
  have hL : (frameK A n ((t.length + 55) / 48) ++ more).length = 64 * ((t.length + 55) / 48) + more.length := by rw [List.length_append, fl]
  show readI (frameK A n ((t.length + 55) / 48) ++ more) = _
  generalize frameK A n ((t.length + 55) / 48) ++ more = l at *
  have he : ∀ i, i < (t.length + 55) / 48 → endsI (l.drop (64 * i)) = (n, n) := fun i hi => by
    rw [ends_at i (by omega), hsc i hi]
    unfold secK
    rw [hdK_mk hn, tlK_mk hn (padI_len _)]
  have hz : sizeI l = t.length := by
    unfold sizeI
    have : (l.drop 8).take 4 = A.take 4 := by
      have h1 := mid_sec l 0
      rw [hsc 0 (by omega)] at h1
      unfold secK at h1
      rw [mkS_mid _ (padI_len _)] at h1
      have h2 : ((l.drop (64 * 0 + 8)).take 48).take 4 = (padI (A.drop (48 * 0))).take 4 := by rw [h1]
      rw [List.take_take] at h2
      unfold padI at h2
      rw [List.take_append_of_le_length (by rw [List.length_take, List.length_drop]; omega), List.take_take] at h2
      exact h2
    rw [this, hA4, leN4n (by omega)]
  have hF : firstI l = (n, t.length, 0) := by
    have h0' := he 0 (by omega)
    rw [Nat.mul_zero, List.drop_zero] at h0'
    unfold firstI
    rw [if_neg (by omega), h0', if_neg (by simp), if_neg (by simp; omega), hz, if_neg (by omega)]
  unfold readI
  rw [hF]
  have hp : piecesI l n ((t.length + 55) / 48) = (allK l ((t.length + 55) / 48), 0) := by
    unfold piecesI; rw [if_neg (by omega), if_pos he]
  simp only [hp]
  rw [if_neg (by simp), if_neg (by simp), hak]
  rw [List.take_of_length_le (l := A) (by omega), List.take_left' (by omega), List.drop_left' (by omega), sd, tp]
  rw [if_neg (by simp), if_pos (fun x hx => List.eq_of_mem_replicate hx), List.drop_left' (numI_len _ _)]
theorem read_bad {l : List Int} (h : (readI l).2.2 ≠ 0) : (readI l).1 = 0 ∧ (readI l).2.1 = [] := by
  unfold readI at h ⊢
  split
  · exact ⟨rfl, rfl⟩
  split
  · exact ⟨rfl, rfl⟩
  split
  · exact ⟨rfl, rfl⟩
  split
  · rw [if_neg (by assumption), if_neg (by assumption), if_neg (by assumption), if_pos (by assumption)] at h
    exact absurd rfl h
  · exact ⟨rfl, rfl⟩
theorem pad_take (B : List Int) (r k : Nat) (h : 48 * k + 48 ≤ B.length + r) : ((B ++ List.replicate r 0).drop (48 * k)).take 48 = padI (B.drop (48 * k)) := by
  unfold padI
  rw [List.drop_append, List.take_append, List.drop_replicate, List.take_replicate, List.length_drop]
  congr 2
  omega
theorem allK_at (l : List Int) : ∀ S k, k < S → 64 * S ≤ l.length → ((allK l S).drop (48 * k)).take 48 = (l.drop (64 * k + 8)).take 48
  | 0, k, h, _ => by omega
  | S + 1, k, h, hl => by
    show ((allK l S ++ (l.drop (64 * S + 8)).take 48).drop (48 * k)).take 48 = _
    have ha := allK_len l S (by omega)
    by_cases e : k = S
    · subst e
      rw [List.drop_left' ha, List.take_take]
      rfl
    · rw [List.drop_append_of_le_length (by omega), List.take_append_of_le_length (by rw [List.length_drop]; omega)]
      exact allK_at l S k (by omega) (by omega)
theorem make_read {l : List Int} (hb : ByteL l) (h : (readI l).2.2 = 0) : 0 < (readI l).1 ∧ (readI l).1 < 18446744073709551616 ∧ ByteL (readI l).2.1 ∧ (readI l).2.1.length ≤ 65536 ∧ ∃ S, 64 * S ≤ l.length ∧ (makeI ((readI l).1 : Nat) (readI l).2.1).1 = l.take (64 * S) := by
  have hle := firstI_le l
  have hR : readI l = if (firstI l).2.2 ≠ 0 then (0, [], (firstI l).2.2) else
    if (piecesI l (firstI l).1 (((firstI l).2.1 + 55) / 48)).2 ≠ 0 then (0, [], (piecesI l (firstI l).1 (((firstI l).2.1 + 55) / 48)).2) else
    if sealed ((allK l (((firstI l).2.1 + 55) / 48)).take ((firstI l).2.1 + 8)) = false then (0, [], 12) else
    if ∀ x ∈ (allK l (((firstI l).2.1 + 55) / 48)).drop ((firstI l).2.1 + 8), x = 0 then ((firstI l).1, (topI ((allK l (((firstI l).2.1 + 55) / 48)).take ((firstI l).2.1 + 8))).drop 4, 0) else (0, [], 10) := rfl
  generalize readI l = R at *
  by_cases hf : (firstI l).2.2 ≠ 0
  · rw [if_pos hf] at hR; rw [hR] at h; exact absurd h hf
  rw [if_neg hf] at hR
  by_cases hp : (piecesI l (firstI l).1 (((firstI l).2.1 + 55) / 48)).2 ≠ 0
  · rw [if_pos hp] at hR; rw [hR] at h; exact absurd h hp
  rw [if_neg hp] at hR
  obtain ⟨p1, p2, p3⟩ := pieces_ok (Decidable.not_not.1 hp)
  have hF : firstI l = if l.length < 64 then (0, 0, 10) else if (endsI l).1 ≠ (endsI l).2 then (0, 0, 13) else if (endsI l).1 = 0 then (0, 0, 40) else if 65536 < sizeI l then (0, 0, 11) else ((endsI l).1, sizeI l, 0) := rfl
  have hF2 : 64 ≤ l.length ∧ (endsI l).1 ≠ 0 ∧ sizeI l ≤ 65536 ∧ firstI l = ((endsI l).1, sizeI l, 0) := by
    generalize firstI l = F at *
    split at hF
    · subst hF; simp at hf
    split at hF
    · subst hF; simp at hf
    split at hF
    · subst hF; simp at hf
    split at hF
    · subst hF; simp at hf
    exact ⟨by omega, by assumption, by omega, hF⟩
  obtain ⟨f1, f2, f3, f4⟩ := hF2
  rw [f4] at hR p1 p2
  clear hF hf hp p3 hle f4
  simp only [] at hR p1 p2
  generalize hn : (endsI l).1 = n at *
  have hZ : sizeI l = leN ((l.drop 8).take 4) := rfl
  generalize sizeI l = Z at *
  generalize hS : (Z + 55) / 48 = S at *
  have hnl : n < 18446744073709551616 := by
    rw [← hn]
    unfold endsI
    rw [if_neg (by omega)]
    have := leN_lt (l.take 8).reverse (fun x hx => hb x (List.mem_of_mem_take (List.mem_reverse.1 hx)))
    rw [List.length_reverse, List.length_take, Nat.min_eq_left (by omega)] at this
    exact this
  have hal := allK_len l S (by omega)
  have hab := allK_byte hb S
  have hat := fun k hk => allK_at l S k hk (by omega)
  generalize allK l S = K at *
  have hBl : (K.take (Z + 8)).length = Z + 8 := by rw [List.length_take]; omega
  have hBb : ByteL (K.take (Z + 8)) := fun x hx => hab x (List.mem_of_mem_take hx)
  have hsi := sealed_iff hBb (by omega)
  have hKs : K.take (Z + 8) ++ K.drop (Z + 8) = K := List.take_append_drop _ _
  have hDl : (K.drop (Z + 8)).length = 48 * S - (Z + 8) := by rw [List.length_drop, hal]
  have hB4 : (topI (K.take (Z + 8))).take 4 = (l.drop 8).take 4 := by
    unfold topI
    rw [hBl, List.take_take, List.take_take]
    have h2 := hat 0 (by omega)
    have h3 : ((K.drop (48 * 0)).take 48).take 4 = ((l.drop (64 * 0 + 8)).take 48).take 4 := by rw [h2]
    rw [List.take_take, List.take_take] at h3
    rw [show min (min 4 (Z + 8 - 4)) (Z + 8) = 4 by omega]
    exact h3
  have hTl : (topI (K.take (Z + 8))).length = Z + 4 := by unfold topI; rw [List.length_take, hBl]; omega
  generalize K.take (Z + 8) = B at *
  by_cases hs : sealed B = false
  · rw [if_pos hs] at hR; rw [hR] at h; simp at h
  rw [if_neg hs] at hR
  by_cases hz : ∀ x ∈ K.drop (Z + 8), x = 0
  case neg => rw [if_neg hz] at hR; rw [hR] at h; simp at h
  rw [if_pos hz] at hR
  have hse := hsi.1 (by simpa using hs)
  have hTb : ByteL (topI B) := fun x hx => hBb x (List.mem_of_mem_take hx)
  have hul : ((topI B).drop 4).length = Z := by rw [List.length_drop, hTl]; omega
  have hnum : numI (((topI B).drop 4).length : Nat) 4 = (topI B).take 4 := by
    rw [hul]
    refine leN_inj (numI_byte _ _) (fun x hx => hTb x (List.mem_of_mem_take hx)) (by rw [numI_len, List.length_take]; omega) ?_
    rw [leN4n (by omega), hB4, hZ]
  rw [hR]
  refine ⟨by show 0 < n; omega, hnl, fun x hx => hTb x (List.mem_of_mem_drop hx), by show ((topI B).drop 4).length ≤ _; omega, S, by omega, ?_⟩
  show (makeI (n : Int) ((topI B).drop 4)).1 = _
  rw [make_eq n (by omega) _ (by omega), hnum, List.take_append_drop, hse, hul, hS]
  refine frame_of_sec l B n S fun i hi => ?_
  have hei := p2 i hi
  rw [ends_at i (by omega)] at hei
  have hbs : ByteL (Sec l i) := fun x hx => hb x (List.mem_of_mem_drop (List.mem_of_mem_take hx))
  have hm := mkS_of hbs (sec_len (by omega)) hnl (congrArg Prod.fst hei) (congrArg Prod.snd hei)
  rw [hm, ← mid_sec, ← hat i hi, ← hKs, List.eq_replicate_of_mem hz, hDl, pad_take _ _ _ (by omega)]
  rfl
end Go.Proofs.Ytjkmnmpjcdanhaa.S
