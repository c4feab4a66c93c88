/- Votes in any order: plain laws. -/
import Derived.Test.YtjkmnmpjcdanhaaBa5
namespace Go.Proofs.Ytjkmnmpjcdanhaa.S
set_option linter.all false
set_option maxRecDepth 100000
set_option maxHeartbeats 2000000
theorem mrgT_bl {L : List En} {base term n : Int} {M : Nat} (hM : M ≤ 192) : ∀ k, ∀ e ∈ mrgT L base term n M k, e.b.length ≤ k
  | 0 => fun e he => by cases he
  | k + 1 => fun e he => by
    rcases List.mem_append.1 he with h | h
    · have := mrgT_bl hM k e h; omega
    · have h : e = mrgE L base term n M (mrgT L base term n M k) k := by simpa using h
      have hl := rowL_len (mrgT L base term n M k) n
      rw [mrgT_len] at hl
      have hb : e.b = rowL (mrgT L base term n M k) n := by rw [h]; unfold mrgE; split <;> rfl
      rw [hb]; omega
abbrev Gs := Nat × (Nat → List En)
def gstep (N : Nat) (p : Gs) (v : Vt) : Gs := (grantV N p.1 v.n, grantH N p.1 p.2 v.n v.l)
def gst (N s : Nat) (own : List En) (L : List Vt) : Gs := L.foldl (gstep N) (1 <<< s, updH (fun _ => []) s own)
theorem gst_snoc (N s : Nat) (own : List En) (L : List Vt) (v : Vt) : gst N s own (L ++ [v]) = gstep N (gst N s own L) v := by unfold gst; rw [List.foldl_append]; rfl
theorem gst_char (N s : Nat) (hs : s < N) (own : List En) (l : List Vt) : ∀ k,
    (∀ n : Nat, (gst N s own (l.take k)).1.testBit n = (decide (n = s) || (decide (n < N) && (l.take k).any fun v => v.n == (n : Int)))) ∧
    (∀ n : Nat, (gst N s own (l.take k)).2 n = if n = s then own else if n < N then (((l.take k).find? fun v => v.n == (n : Int)).map (·.l)).getD [] else [])
  | 0 => by
    refine ⟨fun n => ?_, fun n => ?_⟩
    · show (1 <<< s).testBit n = _
      rw [Nat.one_shiftLeft, Nat.testBit_two_pow, List.take_zero, List.any_nil, Bool.and_false, Bool.or_false]
      by_cases h : n = s
      · subst h; rfl
      · rw [decide_eq_false h, decide_eq_false (fun e => h e.symm)]
    · show updH (fun _ => []) s own n = _
      unfold updH
      rw [List.take_zero]
      simp
  | k + 1 => by
    obtain ⟨ih1, ih2⟩ := gst_char N s hs own l k
    by_cases hk : k < l.length
    · obtain ⟨v, hv⟩ : ∃ v, l[k]? = some v := ⟨_, List.getElem?_eq_getElem hk⟩
      have ht : l.take (k + 1) = l.take k ++ [v] := by rw [List.take_add_one, hv]; rfl
      rw [ht, gst_snoc]
      generalize l.take k = L at *
      generalize gst N s own L = p at *
      unfold gstep grantV grantH
      simp only [List.any_append, List.any_cons, List.any_nil, Bool.or_false, List.find?_append]
      by_cases h1 : v.n < 0 ∨ (N : Int) ≤ v.n
      · simp only [if_pos h1]
        have hv2 : ∀ n : Nat, n < N → (v.n == (n : Int)) = false := fun n hn => by rw [beq_eq_false_iff_ne]; omega
        refine ⟨fun n => ?_, fun n => ?_⟩
        · rw [ih1 n]
          by_cases hn : n < N
          · rw [hv2 n hn, Bool.or_false]
          · rw [decide_eq_false hn, Bool.false_and, Bool.false_and]
        · rw [ih2 n]
          by_cases hn : n < N
          · rw [List.find?_cons_of_neg (by rw [hv2 n hn]; decide), List.find?_nil, Option.or_none]
          · rw [if_neg hn, if_neg hn]
      · simp only [if_neg h1]
        obtain ⟨m, hm⟩ : ∃ m : Nat, v.n = m := ⟨v.n.toNat, by omega⟩
        have hmN : m < N := by omega
        rw [hm, Int.toNat_natCast]
        have hne : ∀ n : Nat, n ≠ m → ((m : Int) == (n : Int)) = false := fun n hn => by rw [beq_eq_false_iff_ne]; omega
        by_cases h2 : p.1.testBit m = true
        · simp only [if_pos h2]
          have h3 := ih1 m
          rw [h2, decide_eq_true hmN, Bool.true_and] at h3
          refine ⟨fun n => ?_, fun n => ?_⟩
          · rw [ih1 n]
            by_cases hn : n = m
            · subst hn
              rw [decide_eq_true hmN, Bool.true_and, Bool.true_and, ← h3, beq_self_eq_true, Bool.or_true, Bool.or_true]
            · rw [hne n hn, Bool.or_false]
          · rw [ih2 n]
            by_cases hns : n = s
            · rw [if_pos hns, if_pos hns]
            · rw [if_neg hns, if_neg hns]
              by_cases hn : n = m
              · subst hn
                rw [decide_eq_false hns, Bool.false_or] at h3
                rw [if_pos hmN, if_pos hmN]
                have : ((L.find? fun v => v.n == (n : Int))).isSome = true := by rw [List.find?_isSome]; simpa using h3.symm
                obtain ⟨u, hu⟩ := Option.isSome_iff_exists.1 this
                rw [hu]; rfl
              · rw [List.find?_cons_of_neg (by rw [hm, hne n hn]; decide), List.find?_nil, Option.or_none]
        · simp only [if_neg h2]
          have h3 := ih1 m
          rw [show p.1.testBit m = false by simpa using h2, decide_eq_true hmN, Bool.true_and] at h3
          obtain ⟨h4, h5⟩ := Bool.or_eq_false_iff.1 h3.symm
          have hms : m ≠ s := by simpa using h4
          refine ⟨fun n => ?_, fun n => ?_⟩
          · rw [Nat.testBit_or, ih1 n, Nat.one_shiftLeft, Nat.testBit_two_pow]
            by_cases hn : n = m
            · subst hn
              rw [decide_eq_true rfl, decide_eq_true hmN, beq_self_eq_true]
              simp
            · rw [hne n hn, Bool.or_false, decide_eq_false (show ¬ m = n from fun e => hn e.symm), Bool.or_false]
          · unfold updH
            by_cases hn : n = m
            · subst hn
              rw [if_pos rfl, if_neg hms, if_pos hmN]
              have : L.find? (fun v => v.n == (n : Int)) = none := by
                rw [List.find?_eq_none]
                intro x hx
                have := List.any_eq_false.1 h5 x hx
                simpa using this
              rw [this, List.find?_cons_of_pos (by rw [hm]; simp)]
              rfl
            · rw [if_neg hn, ih2 n]
              rw [List.find?_cons_of_neg (by rw [hm, hne n hn]; decide), List.find?_nil, Option.or_none]
    · rw [List.take_of_length_le (show l.length ≤ k + 1 by omega), ← List.take_of_length_le (show l.length ≤ k by omega)]
      exact ⟨ih1, ih2⟩
theorem find_nd {x : Int} : ∀ {L : List Vt}, (L.map (·.n)).Nodup → ∀ v, (L.find? fun v => v.n == x) = some v ↔ v ∈ L ∧ v.n = x
  | [], _, v => by simp
  | a :: L, h, v => by
    obtain ⟨h1, h2⟩ := List.nodup_cons.1 (by simpa using h : (a.n :: L.map (·.n)).Nodup)
    by_cases ha : a.n = x
    · rw [List.find?_cons_of_pos (by simpa using ha)]
      constructor
      · intro e; cases e; exact ⟨by simp, ha⟩
      · rintro ⟨hm, hx⟩
        rcases List.mem_cons.1 hm with rfl | hm
        · rfl
        · exact absurd (List.mem_map.2 ⟨v, hm, by rw [hx, ha]⟩) h1
    · rw [List.find?_cons_of_neg (by simpa using ha), find_nd h2]
      constructor
      · rintro ⟨hm, hx⟩; exact ⟨by simp [hm], hx⟩
      · rintro ⟨hm, hx⟩
        rcases List.mem_cons.1 hm with rfl | hm
        · exact absurd hx ha
        · exact ⟨hm, hx⟩
theorem gst_rev (N s : Nat) (hs : s < N) (own : List En) (l : List Vt) (hnd : (l.map (·.n)).Nodup) : gst N s own l.reverse = gst N s own l := by
  have h1 := gst_char N s hs own l l.length
  have h2 := gst_char N s hs own l.reverse l.reverse.length
  rw [List.take_length] at h1 h2
  have hnd2 : (l.reverse.map (·.n)).Nodup := by rw [List.map_reverse]; exact List.pairwise_reverse.2 (hnd.imp fun h => h.symm)
  refine Prod.ext (Nat.eq_of_testBit_eq fun n => ?_) (funext fun n => ?_)
  · rw [h1.1, h2.1, List.any_reverse]
  · rw [h1.2, h2.2]
    have : (l.reverse.find? fun v => v.n == (n : Int)) = l.find? fun v => v.n == (n : Int) := by
      apply Option.ext
      intro v
      rw [find_nd hnd2, find_nd hnd, List.mem_reverse]
    rw [this]
theorem BOK.step {N s : Nat} {own : List En} {L : List Vt} {T : Mp} (h : BOK N (gst N s own L).1 T (gst N s own L).2) (v : Vt) : BOK N (gst N s own (L ++ [v])).1 (grantT N (gst N s own L).1 T v.n v.l) (gst N s own (L ++ [v])).2 := by
  rw [gst_snoc]
  exact h.grant v.n v.l
/-- Where all lists are light, so are the voters'. -/
theorem gst_few {base : Int} {N s : Nat} (hN : N ≤ 7) (hs : s < N) {own : List En} {l : List Vt} (ho : lit23 base [own] = true) (hl : ∀ v ∈ l, lit23 base [v.l] = true) (hoo : ∀ e ∈ own, EnOK e) (hlo : ∀ v ∈ l, ∀ e ∈ v.l, EnOK e) : Few (lists (gst N s own l).1 (gst N s own l).2) := by
  have h1 := gst_char N s hs own l l.length
  rw [List.take_length] at h1
  have hmem : ∀ n ∈ mems (gst N s own l).1 64, n < N := by
    intro n hn
    have hb := (List.mem_filter.1 hn).2
    rw [h1.1 n] at hb
    by_cases e : n = s
    · omega
    · rw [decide_eq_false e, Bool.false_or, Bool.and_eq_true, decide_eq_true_eq] at hb
      exact hb.1
  have hnd : (mems (gst N s own l).1 64).Nodup := List.Nodup.sublist List.filter_sublist List.nodup_range
  have hlen : (mems (gst N s own l).1 64).length ≤ N := by
    have := nd_len _ (List.range N) hnd fun x hx => List.mem_range.2 (hmem x hx)
    rwa [List.length_range] at this
  have hq : ∀ q ∈ lists (gst N s own l).1 (gst N s own l).2, q = [] ∨ q = own ∨ ∃ v ∈ l, q = v.l := by
    intro q hq
    obtain ⟨n, _, rfl⟩ := List.mem_map.1 hq
    rw [h1.2 n]
    split
    · exact .inr (.inl rfl)
    · split
      · cases hf : l.find? fun v => v.n == (n : Int) with
        | none => exact .inl rfl
        | some v => exact .inr (.inr ⟨v, List.mem_of_find?_eq_some hf, rfl⟩)
      · exact .inl rfl
  have hfew : ∀ q ∈ lists (gst N s own l).1 (gst N s own l).2, Few [q] := by
    intro q h
    rcases hq q h with rfl | rfl | ⟨v, hv, rfl⟩
    · exact ⟨by simp, by simp, fun e he => by simp at he, fun e he => by simp at he⟩
    · exact (few_lit ho (fun e he => hoo e (by simpa using he))).1
    · exact (few_lit (hl v hv) (fun e he => hlo v hv e (by simpa using he))).1
  refine ⟨?_, fun q h => (hfew q h).m q (by simp), fun e he => ?_, fun e he => ?_⟩
  · unfold lists; rw [List.length_map]; omega
  · obtain ⟨q, h, hq⟩ := List.mem_flatten.1 he
    exact (hfew q h).ok e (by simpa using hq)
  · obtain ⟨q, h, hq⟩ := List.mem_flatten.1 he
    exact (hfew q h).bl e (by simpa using hq)
end Go.Proofs.Ytjkmnmpjcdanhaa.S
