/- Frames of which a part alone was written: plain laws. -/
import Derived.Test.YtjkmnmpjcdanhaaFm8
namespace Go.Proofs.Ytjkmnmpjcdanhaa.S
set_option linter.all false
theorem mix {n o : Nat} (hn : n < 18446744073709551616) (ho : o < n) {m1 m2 : List Int} (h1 : m1.length = 48) (h2 : m2.length = 48) (k : Nat) (hk : k ≤ 64)
    (he : hdK ((mkS n m1).take k ++ (mkS o m2).drop k) = tlK ((mkS n m1).take k ++ (mkS o m2).drop k)) :
    (mkS n m1).take k ++ (mkS o m2).drop k = mkS n m1 ∨ (mkS n m1).take k ++ (mkS o m2).drop k = mkS o m2 := by
  have l1 := mkS_len n h1
  have l2 := mkS_len o h2
  have nl := numI_len (n : Int) 8
  have ol := numI_len (o : Int) 8
  have nb := numI_byte (n : Int) 8
  have ob := numI_byte (o : Int) 8
  have en := leN8 hn
  have eo := leN8 (n := o) (by omega)
  by_cases c1 : k < 8
  · right
    have hs : (mkS n m1).take k ++ (mkS o m2).drop k = ((numI (n : Int) 8).reverse.take k ++ (numI (o : Int) 8).reverse.drop k) ++ (m2 ++ numI (o : Int) 8) := by
      unfold mkS
      rw [List.take_append_of_le_length (by rw [List.length_reverse]; omega), List.drop_append_of_le_length (by rw [List.length_reverse]; omega), List.append_assoc]
    have hY : ((numI (n : Int) 8).reverse.take k ++ (numI (o : Int) 8).reverse.drop k).length = 8 := by
      rw [List.length_append, List.length_take, List.length_drop, List.length_reverse, List.length_reverse, nl, ol]; omega
    have hYb : ByteL ((numI (n : Int) 8).reverse.take k ++ (numI (o : Int) 8).reverse.drop k) := fun x hx => by
      rcases List.mem_append.1 hx with hx | hx
      · exact nb x (List.mem_reverse.1 (List.mem_of_mem_take hx))
      · exact ob x (List.mem_reverse.1 (List.mem_of_mem_drop hx))
    rw [hs] at he ⊢
    generalize (numI (n : Int) 8).reverse.take k ++ (numI (o : Int) 8).reverse.drop k = Y at *
    have a1 : hdK (Y ++ (m2 ++ numI (o : Int) 8)) = leN Y.reverse := by unfold hdK; rw [List.take_left' hY]
    have a2 : tlK (Y ++ (m2 ++ numI (o : Int) 8)) = o := by
      unfold tlK
      rw [← List.append_assoc, List.drop_left' (by rw [List.length_append, hY, h2]), List.take_of_length_le (by omega), eo]
    rw [a1, a2, ← eo] at he
    have e := leN_inj (fun x hx => hYb x (List.mem_reverse.1 hx)) ob (by rw [List.length_reverse, hY, ol]) he
    unfold mkS
    rw [← e, List.reverse_reverse]
  by_cases c2 : k < 56
  · exfalso
    have a1 : hdK ((mkS n m1).take k ++ (mkS o m2).drop k) = n := by
      unfold hdK
      rw [List.take_append_of_le_length (by rw [List.length_take]; omega), List.take_take, show min 8 k = 8 by omega, mkS_hd, List.reverse_reverse, en]
    have a2 : tlK ((mkS n m1).take k ++ (mkS o m2).drop k) = o := by
      unfold tlK
      rw [List.drop_append, List.drop_of_length_le (by rw [List.length_take]; omega), List.nil_append, List.drop_drop, List.length_take, show k + (56 - min k (mkS n m1).length) = 56 by omega, mkS_tl o h2, List.take_of_length_le (by omega), eo]
    omega
  · left
    have hX : ((numI (n : Int) 8).reverse ++ m1).length = 56 := by rw [List.length_append, List.length_reverse, nl, h1]
    have hX2 : ((numI (o : Int) 8).reverse ++ m2).length = 56 := by rw [List.length_append, List.length_reverse, ol, h2]
    have hs : (mkS n m1).take k ++ (mkS o m2).drop k = ((numI (n : Int) 8).reverse ++ m1) ++ ((numI (n : Int) 8).take (k - 56) ++ (numI (o : Int) 8).drop (k - 56)) := by
      unfold mkS
      rw [← List.append_assoc, ← List.append_assoc, List.take_append, List.drop_append, hX, hX2, List.take_of_length_le (by omega), List.drop_of_length_le (by omega), List.nil_append, List.append_assoc]
    have hm : mkS n m1 = ((numI (n : Int) 8).reverse ++ m1) ++ numI (n : Int) 8 := by unfold mkS; rw [List.append_assoc]
    have hZ : ((numI (n : Int) 8).take (k - 56) ++ (numI (o : Int) 8).drop (k - 56)).length = 8 := by
      rw [List.length_append, List.length_take, List.length_drop, nl, ol]; omega
    have hZb : ByteL ((numI (n : Int) 8).take (k - 56) ++ (numI (o : Int) 8).drop (k - 56)) := fun x hx => by
      rcases List.mem_append.1 hx with hx | hx
      · exact nb x (List.mem_of_mem_take hx)
      · exact ob x (List.mem_of_mem_drop hx)
    rw [hs] at he ⊢
    rw [hm]
    generalize (numI (n : Int) 8).take (k - 56) ++ (numI (o : Int) 8).drop (k - 56) = Z at *
    have a1 : hdK ((numI (n : Int) 8).reverse ++ m1 ++ Z) = n := by
      unfold hdK
      rw [List.append_assoc, List.take_left' (by rw [List.length_reverse, nl]), List.reverse_reverse, en]
    have a2 : tlK ((numI (n : Int) 8).reverse ++ m1 ++ Z) = leN Z := by
      unfold tlK
      rw [List.drop_left' hX, List.take_of_length_le (by omega)]
    rw [a1, a2, ← en] at he
    rw [leN_inj hZb nb (by rw [hZ, nl]) he.symm]
theorem size_sec {l t : List Int} {x : Nat} (ht : t.length ≤ 65536) (h : Sec l 0 = secK (sealI (numI (t.length : Nat) 4 ++ t)) x 0) : sizeI l = t.length := by
  have sl := sealI_len (numI (t.length : Nat) 4 ++ t)
  have hA4 : (sealI (numI (t.length : Nat) 4 ++ t)).take 4 = numI (t.length : Nat) 4 := by
    unfold sealI; rw [List.append_assoc]; exact List.take_left' (numI_len _ _)
  rw [List.length_append, numI_len] at sl
  generalize sealI (numI (t.length : Nat) 4 ++ t) = A at *
  unfold sizeI
  have : (l.drop 8).take 4 = A.take 4 := by
    have h1 := mid_sec l 0
    rw [h] at h1
    unfold secK at h1
    rw [mkS_mid _ (padI_len _)] at h1
    have h2 : ((l.drop (64 * 0 + 8)).take 48).take 4 = (padI (A.drop (48 * 0))).take 4 := by rw [h1]
    rw [List.take_take] at h2
    unfold padI at h2
    rw [List.take_append_of_le_length (by rw [List.length_take, List.length_drop]; omega), List.take_take] at h2
    exact h2
  rw [this, hA4, leN4n (by omega)]
theorem read_when {l t : List Int} {x : Nat} (h0 : 0 < x) (hx : x < 18446744073709551616) (ht : t.length ≤ 65536) (hl : 64 * ((t.length + 55) / 48) ≤ l.length)
    (hs : Sec l 0 = secK (sealI (numI (t.length : Nat) 4 ++ t)) x 0)
    (ha : ∀ i, i < (t.length + 55) / 48 → endsI (l.drop (64 * i)) = (x, x) → Sec l i = secK (sealI (numI (t.length : Nat) 4 ++ t)) x i) : readI l = (x, t, 0) ∨ readI l = (0, [], 13) := by
  by_cases he : ∀ i, i < (t.length + 55) / 48 → endsI (l.drop (64 * i)) = (x, x)
  · left
    have hf := frame_of_sec l (sealI (numI (t.length : Nat) 4 ++ t)) x _ fun i hi => ha i hi (he i hi)
    have hr := read_frame x h0 hx t ht (l.drop (64 * ((t.length + 55) / 48)))
    rw [make_eq x h0 t ht] at hr
    simp only [] at hr
    rw [hf, List.take_append_drop] at hr
    exact hr
  · right
    have hz := size_sec ht hs
    have hF : firstI l = (x, t.length, 0) := by
      have h0' := ends_at (l := l) 0 (by omega)
      rw [hs] at h0'
      unfold secK at h0'
      rw [hdK_mk hx, tlK_mk hx (padI_len _), Nat.mul_zero, List.drop_zero] at h0'
      unfold firstI
      rw [if_neg (by omega), h0', if_neg (by simp), if_neg (by simp; omega), hz, if_neg (by omega)]
    have hp : piecesI l x ((t.length + 55) / 48) = ([], 13) := by
      unfold piecesI; rw [if_neg (by omega), if_neg he]
    unfold readI
    rw [hF]
    simp only [hp]
    rw [if_neg (by simp), if_pos (by simp)]
def zeroS : List Int := mkS 0 (List.replicate 48 0)
def bsK (A : List Int) (old Sa i : Nat) : List Int := if i < Sa then secK A old i else zeroS
def TornAt (A B : List Int) (old n Sa Sb : Nat) (l : List Int) (i : Nat) : Prop := (i < Sb ∧ ∃ k, k ≤ 64 ∧ Sec l i = (secK B n i).take k ++ (bsK A old Sa i).drop k) ∨ Sec l i = bsK A old Sa i
theorem read_torn {old n M Sa : Nat} {was text l : List Int} (ho : old < n) (hn : n < 18446744073709551616) (hw : was.length ≤ 65536) (ht : text.length ≤ 65536)
    (hSa : (old = 0 ∧ Sa = 0) ∨ (0 < old ∧ Sa = (was.length + 55) / 48)) (hl : l.length = 64 * M) (hM1 : (text.length + 55) / 48 ≤ M) (hM2 : Sa ≤ M)
    (hs : ∀ i, i < M → TornAt (sealI (numI (was.length : Nat) 4 ++ was)) (sealI (numI (text.length : Nat) 4 ++ text)) old n Sa ((text.length + 55) / 48) l i) :
    (readI l = (n, text, 0) ∨ readI l = (old, was, 0)) ∨ (readI l = (0, [], 40) ∧ old = 0) ∨ readI l = (0, [], 13) := by
  have hH : ∀ i, i < M → hdK (Sec l i) = tlK (Sec l i) → (i < (text.length + 55) / 48 ∧ Sec l i = secK (sealI (numI (text.length : Nat) 4 ++ text)) n i) ∨ Sec l i = bsK (sealI (numI (was.length : Nat) 4 ++ was)) old Sa i := fun i hi he => by
    rcases hs i hi with ⟨h1, k, hk, h2⟩ | h
    · rw [h2] at he ⊢
      unfold bsK at he ⊢
      split at he
      · rename_i hia
        rw [if_pos hia]
        rcases mix hn ho (padI_len _) (padI_len _) k hk he with e | e
        · exact .inl ⟨h1, e⟩
        · exact .inr e
      · rename_i hia
        rw [if_neg hia]
        rcases mix hn (show 0 < n by omega) (padI_len _) (List.length_replicate ..) k hk he with e | e
        · exact .inl ⟨h1, e⟩
        · exact .inr e
    · exact .inr h
  have e0 := ends_at (l := l) 0 (by omega)
  rw [Nat.mul_zero, List.drop_zero] at e0
  have hbs : ∀ i, hdK (bsK (sealI (numI (was.length : Nat) 4 ++ was)) old Sa i) < n := fun i => by
    unfold bsK
    split
    · unfold secK; rw [hdK_mk (by omega)]; exact ho
    · unfold zeroS; rw [hdK_mk (by omega)]; omega
  by_cases c : hdK (Sec l 0) = tlK (Sec l 0)
  case neg =>
    right; right
    have hF : firstI l = (0, 0, 13) := by
      unfold firstI; rw [if_neg (by omega), e0, if_pos c]
    unfold readI; rw [hF, if_pos (by simp)]
  rcases hH 0 (by omega) c with ⟨h1, h2⟩ | h2
  · rcases read_when (by omega) hn ht (by omega) h2 (fun i hi he => by
      rw [ends_at i (by omega)] at he
      have a1 := congrArg Prod.fst he
      have a2 := congrArg Prod.snd he
      simp only [] at a1 a2
      rcases hH i (by omega) (by rw [a1, a2]) with ⟨_, e⟩ | e
      · exact e
      · have := hbs i; rw [← e] at this; omega) with h | h
    · exact .inl (.inl h)
    · exact .inr (.inr h)
  · unfold bsK at h2
    split at h2
    · rename_i hia
      obtain ⟨q1, q2⟩ : 0 < old ∧ Sa = (was.length + 55) / 48 := by omega
      rcases read_when q1 (by omega) hw (by omega) h2 (fun i hi he => by
        rw [ends_at i (by omega)] at he
        have a1 := congrArg Prod.fst he
        have a2 := congrArg Prod.snd he
        simp only [] at a1 a2
        rcases hH i (by omega) (by rw [a1, a2]) with ⟨_, e⟩ | e
        · rw [e] at a1; unfold secK at a1; rw [hdK_mk hn] at a1; omega
        · rw [e]; unfold bsK; rw [if_pos (by omega)]) with h | h
      · exact .inl (.inr h)
      · exact .inr (.inr h)
    · right; left
      refine ⟨?_, by omega⟩
      have hF : firstI l = (0, 0, 40) := by
        unfold firstI
        rw [if_neg (by omega), e0, h2, if_neg (by unfold zeroS; rw [hdK_mk (by omega), tlK_mk (by omega) (List.length_replicate ..)]; simp), if_pos (by unfold zeroS; rw [hdK_mk (by omega)])]
      unfold readI; rw [hF, if_pos (by simp)]
def putI (l : List Int) (o : Nat) (v : List Int) : List Int := l.take o ++ v ++ l.drop (o + v.length)
theorem putI_len {l v : List Int} {o : Nat} (h : o + v.length ≤ l.length) : (putI l o v).length = l.length := by
  unfold putI; rw [List.length_append, List.length_append, List.length_take, List.length_drop]; omega
theorem putI_get {l v : List Int} {o : Nat} (h : o + v.length ≤ l.length) (p : Nat) : (putI l o v)[p]? = if p < o then l[p]? else if p < o + v.length then v[p - o]? else l[p]? := by
  unfold putI
  have h1 : (l.take o).length = o := by rw [List.length_take]; omega
  split
  · rw [List.append_assoc, List.getElem?_append_left (by omega), List.getElem?_take_of_lt (by omega)]
  split
  · rw [List.append_assoc, List.getElem?_append_right (by omega), h1, List.getElem?_append_left (by omega)]
  · rw [List.getElem?_append_right (by rw [List.length_append]; omega), List.getElem?_drop, List.length_append, h1]
    congr 1; omega
theorem sec_get (l : List Int) (i q : Nat) : (Sec l i)[q]? = if q < 64 then l[64 * i + q]? else none := by
  unfold Sec
  split
  · rw [List.getElem?_take_of_lt (by omega), List.getElem?_drop]
  · rw [List.getElem?_eq_none]; rw [List.length_take]; omega
theorem sec_put {l v : List Int} {i : Nat} (hv : v.length ≤ 64) (h : 64 * i + 64 ≤ l.length) : Sec (putI l (64 * i) v) i = v ++ (Sec l i).drop v.length := by
  apply List.ext_getElem?
  intro q
  rw [sec_get, putI_get (by omega)]
  by_cases c : q < v.length
  · rw [if_pos (by omega), if_neg (by omega), if_pos (by omega), List.getElem?_append_left c]
    congr 1; omega
  · rw [List.getElem?_append_right (by omega), List.getElem?_drop, sec_get, show v.length + (q - v.length) = q by omega]
    split
    · rw [if_neg (by omega), if_neg (by omega)]
    · rfl
theorem sec_put_ne {l v : List Int} {i j : Nat} (hv : v.length ≤ 64) (h : 64 * i + 64 ≤ l.length) (hj : j ≠ i) : Sec (putI l (64 * i) v) j = Sec l j := by
  apply List.ext_getElem?
  intro q
  rw [sec_get, sec_get]
  split
  · rw [putI_get (by omega)]
    by_cases c : j < i
    · rw [if_pos (by omega)]
    · rw [if_neg (by omega), if_neg (by omega)]
  · rfl
end Go.Proofs.Ytjkmnmpjcdanhaa.S
