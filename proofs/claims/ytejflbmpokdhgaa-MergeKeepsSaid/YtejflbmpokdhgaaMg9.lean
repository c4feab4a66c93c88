/- What a new leader goes on with: plain laws. -/
import Derived.Test.YtejflbmpokdhgaaMg7
namespace Go.Proofs.Ytejflbmpokdhgaa.S
set_option linter.all false
set_option maxRecDepth 100000
section
variable {L : List En} {base term n : Int} {M : Nat}
theorem mrgT_take : ∀ {k i : Nat}, i ≤ k → (mrgT L base term n M k).take i = mrgT L base term n M i
  | 0, i, h => by have : i = 0 := by omega
                  subst this; rfl
  | k + 1, i, h => by
    by_cases hi : i = k + 1
    · subst hi; rw [List.take_of_length_le (by rw [mrgT_len]; exact Nat.le_refl _)]
    · show (mrgT L base term n M k ++ _).take i = _
      rw [List.take_append_of_le_length (by rw [mrgT_len]; omega)]
      exact mrgT_take (by omega)
theorem mrgT_get {k i : Nat} (h : i < k) : (mrgT L base term n M k)[i]? = some (mrgE L base term n M (mrgT L base term n M i) i) := by
  have h1 : (mrgT L base term n M (i + 1))[i]? = some (mrgE L base term n M (mrgT L base term n M i) i) := by
    show (mrgT L base term n M i ++ [_])[i]? = _
    rw [List.getElem?_append_right (by rw [mrgT_len]; exact Nat.le_refl _), mrgT_len, Nat.sub_self]
    rfl
  rw [← mrgT_take (show i + 1 ≤ k by omega), List.getElem?_take_of_lt (by omega)] at h1
  exact h1
theorem mrgE_i (out : List En) (k : Nat) : (mrgE L base term n M out k).i = base + 1 + k := by unfold mrgE; split <;> rfl
theorem mrgE_t (out : List En) (k : Nat) : (mrgE L base term n M out k).t = term := by unfold mrgE; split <;> rfl
theorem mrgE_s (out : List En) (k : Nat) : (mrgE L base term n M out k).s = base + M + 1 := by unfold mrgE; split <;> rfl
theorem mrgE_b (out : List En) (k : Nat) : (mrgE L base term n M out k).b = rowL out n := by unfold mrgE; split <;> rfl
theorem row_len (out : List En) : (((rowL out n).length : Nat) : Int) = max (min n out.length) 0 := by
  unfold rowL
  rw [List.length_take, List.length_map, List.length_reverse]
  omega
theorem row_get {out : List En} {k : Nat} (h : k < (rowL out n).length) : ∃ y, out[out.length - 1 - k]? = some y ∧ (rowL out n)[k]? = some y.l := by
  have h1 : k < out.length ∧ k < n.toNat := by
    unfold rowL at h
    rw [List.length_take, List.length_map, List.length_reverse] at h
    omega
  refine ⟨out[out.length - 1 - k], List.getElem?_eq_getElem (by omega), ?_⟩
  unfold rowL
  rw [List.getElem?_take_of_lt h1.2, List.getElem?_map, List.getElem?_reverse h1.1, List.getElem?_eq_getElem (by omega)]
  rfl
theorem mrg_tells {i k : Nat} (hk : k < (rowL (mrgT L base term n M i) n).length) :
    k < i ∧ tellsL (mrgE L base term n M (mrgT L base term n M i) i) (mrgE L base term n M (mrgT L base term n M (i - 1 - k)) (i - 1 - k)) = true := by
  have hl := rowL_len (mrgT L base term n M i) n
  rw [mrgT_len] at hl
  have hki : k < i := by omega
  refine ⟨hki, ?_⟩
  obtain ⟨y, h1, h2⟩ := row_get hk
  rw [mrgT_len, mrgT_get (by omega)] at h1
  injection h1 with h1
  unfold tellsL atL
  rw [mrgE_i, mrgE_i, mrgE_b, if_neg (by omega), show (base + 1 + (i : Int) - (base + 1 + ((i - 1 - k : Nat) : Int)) - 1).toNat = k by omega, h2, h1]
  simp
theorem mrgE_l (hok : ∀ o ∈ L, EnOK o) (out : List En) (k : Nat) : LkOK (mrgE L base term n M out k).l := by
  unfold mrgE
  split
  · rename_i o ho; exact (hok o (best_mem ho).1).l
  · simp [LkOK, lk0, U64, U32]
theorem mrgT_l (hok : ∀ o ∈ L, EnOK o) : ∀ k, ∀ e ∈ mrgT L base term n M k, LkOK e.l
  | 0 => fun e he => by cases he
  | k + 1 => fun e he => by
    rcases List.mem_append.1 he with h | h
    · exact mrgT_l hok k e h
    · have h : e = mrgE L base term n M (mrgT L base term n M k) k := by simpa using h
      rw [h]; exact mrgE_l hok _ _
theorem mrgE_ok (hok : ∀ o ∈ L, EnOK o) (hb : 0 ≤ base ∧ base ≤ 4611686018427387904) {i : Nat} (hi : i < 1000) : EnOK (mrgE L base term n M (mrgT L base term n M i) i) := by
  have hl := rowL_len (mrgT L base term n M i) n
  rw [mrgT_len] at hl
  refine ⟨by rw [mrgE_i]; exact ⟨by omega, by omega⟩, mrgE_l hok _ _, fun x hx => ?_, by rw [mrgE_b]; omega⟩
  rw [mrgE_b] at hx
  obtain ⟨k, hk⟩ := List.getElem?_of_mem hx
  obtain ⟨y, h1, h2⟩ := row_get (List.getElem?_eq_some_iff.1 hk).1
  rw [hk] at h2
  injection h2 with h2
  rw [h2]
  exact mrgT_l hok i y (List.mem_of_getElem? h1)
theorem mrgE_best {k : Nat} {out : List En} {o : En} (h : best L (base + 1 + k) = some o) : alikeL o (mrgE L base term n M out k) = true := by
  unfold mrgE
  rw [h]
  simp [alikeL]
theorem many_best (h : 0 < many L base) : ∃ o, best L (base + many L base) = some o := by
  have h2 := (manyT_spec L base 192).2
  rcases h2 with h2 | ⟨_, h2⟩
  · unfold many at h; omega
  · exact Option.isSome_iff_exists.1 h2
end
theorem alike_symm {a b : En} (h : alikeL a b = true) : alikeL b a = true := by
  unfold alikeL at h ⊢
  simp only [Bool.and_eq_true, beq_iff_eq] at h ⊢
  exact ⟨⟨h.1.1.symm, h.1.2.symm⟩, h.2.symm⟩
theorem alike_trans {a b c : En} (h : alikeL a b = true) (h2 : alikeL b c = true) : alikeL a c = true := by
  unfold alikeL at h h2 ⊢
  simp only [Bool.and_eq_true, beq_iff_eq] at h h2 ⊢
  exact ⟨⟨h.1.1.trans h2.1.1, h.1.2.trans h2.1.2⟩, h.2.trans h2.2⟩
/- The best one: of the latest term among those that are not void. -/
theorem bestF_spec (L : List En) (ix : Int) : ∀ (es : List En) (acc : Option En), (∀ o, acc = some o → o ∈ L ∧ o.i = ix ∧ voidB o L = false) → (∀ e ∈ es, e ∈ L) →
    (∀ o, es.foldl (fun acc e => if e.i = ix then stepB L acc e else acc) acc = some o → o ∈ L ∧ o.i = ix ∧ voidB o L = false ∧ (∀ a, acc = some a → a.t ≤ o.t) ∧ ∀ e ∈ es, e.i = ix → voidB e L = false → e.t ≤ o.t) ∧
    (es.foldl (fun acc e => if e.i = ix then stepB L acc e else acc) acc = none → acc = none ∧ ∀ e ∈ es, e.i = ix → voidB e L = true)
  | [], acc, h, _ => ⟨fun o ho => ⟨(h o ho).1, (h o ho).2.1, (h o ho).2.2, fun a ha => by rw [show [].foldl _ acc = acc from rfl, ha] at ho; injection ho with ho; rw [ho]; exact Int.le_refl _, fun e he => by cases he⟩, fun hn => ⟨hn, fun e he => by cases he⟩⟩
  | e :: es, acc, h, hm => by
    have hacc : ∀ o, (if e.i = ix then stepB L acc e else acc) = some o → o ∈ L ∧ o.i = ix ∧ voidB o L = false := by
      intro o ho
      split at ho
      · rename_i hi
        unfold stepB at ho
        split at ho
        · rename_i hc
          injection ho with ho
          subst ho
          exact ⟨hm e (by simp), hi, hc.1⟩
        · exact h o ho
      · exact h o ho
    obtain ⟨g1, g2⟩ := bestF_spec L ix es (if e.i = ix then stepB L acc e else acc) hacc (fun x hx => hm x (by simp [hx]))
    refine ⟨fun o ho => ?_, fun hn => ?_⟩
    · obtain ⟨q1, q2, q3, q4, q5⟩ := g1 o ho
      refine ⟨q1, q2, q3, fun a ha => ?_, fun x hx hi hv => ?_⟩
      · subst ha
        by_cases hi : e.i = ix
        · rw [if_pos hi] at q4
          unfold stepB at q4
          by_cases hc : voidB e L = false ∧ ((some a).all fun o => decide (o.t < e.t)) = true
          · rw [if_pos hc] at q4
            have := q4 e rfl
            have h2 : a.t < e.t := by simpa using hc.2
            omega
          · rw [if_neg hc] at q4; exact q4 a rfl
        · rw [if_neg hi] at q4; exact q4 a rfl
      · rcases List.mem_cons.1 hx with rfl | hx
        · rw [if_pos hi] at q4
          unfold stepB at q4
          by_cases hc : voidB x L = false ∧ (acc.all fun o => decide (o.t < x.t)) = true
          · rw [if_pos hc] at q4; exact q4 x rfl
          · rw [if_neg hc] at q4
            cases acc with
            | none => exact absurd ⟨hv, rfl⟩ hc
            | some a =>
              have := q4 a rfl
              have h2 : ¬ a.t < x.t := fun h2 => hc ⟨hv, by simpa using h2⟩
              omega
        · exact q5 x hx hi hv
    · obtain ⟨q1, q2⟩ := g2 hn
      have hstep : acc = none ∧ (e.i = ix → voidB e L = true) := by
        by_cases hi : e.i = ix
        · rw [if_pos hi] at q1
          unfold stepB at q1
          by_cases hc : voidB e L = false ∧ (acc.all fun o => decide (o.t < e.t)) = true
          · rw [if_pos hc] at q1; cases q1
          · rw [if_neg hc] at q1
            subst q1
            exact ⟨rfl, fun _ => by cases hv : voidB e L with | true => rfl | false => exact absurd ⟨hv, rfl⟩ hc⟩
        · rw [if_neg hi] at q1; exact ⟨q1, fun h => absurd h hi⟩
      refine ⟨hstep.1, fun x hx hi => ?_⟩
      rcases List.mem_cons.1 hx with rfl | hx
      · exact hstep.2 hi
      · exact q2 x hx hi
theorem best_some {L : List En} {ix : Int} {o : En} (h : best L ix = some o) : o ∈ L ∧ o.i = ix ∧ voidB o L = false ∧ ∀ e ∈ L, e.i = ix → voidB e L = false → e.t ≤ o.t := by
  obtain ⟨h1, h2, h3, _, h5⟩ := (bestF_spec L ix L none (fun o h => by cases h) (fun e h => h)).1 o h
  exact ⟨h1, h2, h3, h5⟩
theorem best_none {L : List En} {ix : Int} (h : best L ix = none) : ∀ e ∈ L, e.i = ix → voidB e L = true := ((bestF_spec L ix L none (fun o h => by cases h) (fun e h => h)).2 h).2
end Go.Proofs.Ytejflbmpokdhgaa.S
