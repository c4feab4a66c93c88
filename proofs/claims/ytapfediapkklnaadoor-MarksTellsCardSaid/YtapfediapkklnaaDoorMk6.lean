/- What marks mark: plain laws. -/
import Derived.Test.YtapfediapkklnaaDoorMk5
namespace Go.Proofs.YtapfediapkklnaaDoor.S
open Go.Lib
set_option linter.all false
set_option maxRecDepth 100000
theorem bits_test (P : Nat → Bool) (L : Nat) : ∀ K k, k < K → (bitsOf P L K).testBit k = P (L + 1 + k)
  | 0, k, h => by omega
  | K + 1, k, h => by
    have hlt := bitsOf_lt P L K
    simp only [bitsOf]
    by_cases hk : k < K
    · rw [← bits_test P L K k hk]
      split
      · rw [Nat.add_comm, Nat.testBit_two_pow_add_gt hk]
      · rfl
    · have : k = K := by omega
      subst this
      split
      · rename_i hp
        rw [Nat.add_comm, Nat.testBit_two_pow_add_eq, Nat.testBit_lt_two_pow hlt, hp]; rfl
      · rename_i hp
        rw [Nat.add_zero, Nat.testBit_lt_two_pow hlt]; simpa using hp
theorem climb_spec (P : Nat → Bool) : ∀ f x, x ≤ climb P f x ∧ (∀ n, x < n → n ≤ climb P f x → P n = true) ∧ (climb P f x = x + f ∨ P (climb P f x + 1) = false)
  | 0, x => ⟨Nat.le_refl _, fun n h1 h2 => by simp [climb] at h2; omega, .inl rfl⟩
  | f + 1, x => by
    unfold climb
    split
    · rename_i hp
      obtain ⟨h1, h2, h3⟩ := climb_spec P f (x + 1)
      refine ⟨by omega, fun n g1 g2 => ?_, ?_⟩
      · by_cases e : n = x + 1
        · rw [e]; exact hp
        · exact h2 n (by omega) g2
      · rcases h3 with h3 | h3
        · left; omega
        · exact .inr h3
    · rename_i hp
      exact ⟨Nat.le_refl _, fun n h1 h2 => by omega, .inr (by simpa using hp)⟩
theorem made_ok (P : Nat → Bool) (low : Nat) (hl : low ≤ 4611686018427387840) (h1 : ∀ n, low < n → P n = true → n ≤ 4611686018427387840) (h2 : ∀ n, P n = true → n ≤ low + 64) : Gd (madeM P low) ∧ ∀ n, hasM (madeM P low) n = (decide (n ≤ low) || P n) := by
  obtain ⟨c1, c2, c3⟩ := climb_spec P (4611686018427387840 - low) low
  have c4 := climb_le P (4611686018427387840 - low) low
  have hm : madeM P low = ⟨climb P (4611686018427387840 - low) low, bitsOf P (climb P (4611686018427387840 - low) low) 64⟩ := rfl
  generalize climb P (4611686018427387840 - low) low = L at *
  rw [hm]
  have has : ∀ n, hasM ⟨L, bitsOf P L 64⟩ n = (decide (n ≤ low) || P n) := by
    intro n
    by_cases g1 : n ≤ L
    · rw [has_low (m := ⟨L, bitsOf P L 64⟩) g1]
      by_cases g2 : n ≤ low
      · rw [decide_eq_true g2]; rfl
      · rw [c2 n (by omega) g1]; simp
    · rw [decide_eq_false (by omega), Bool.false_or]
      by_cases g3 : n ≤ L + 64
      · have := has_bit ⟨L, bitsOf P L 64⟩ (n - L - 1) (by omega)
        rw [bits_test P L 64 _ (by omega)] at this
        simp only at this
        rw [show L + 1 + (n - L - 1) = n by omega] at this
        exact this
      · rw [has_far (m := ⟨L, bitsOf P L 64⟩) (by show n > L + 64; omega)]
        cases hp : P n with
        | false => rfl
        | true => have := h2 n hp; omega
  refine ⟨⟨bitsOf_lt P L 64, by show L ≤ _; omega, ?_, fun n hn => ?_⟩, has⟩
  · rw [has (L + 1), decide_eq_false (by omega), Bool.false_or]
    rcases c3 with c3 | c3
    · cases hp : P (L + 1) with
      | false => rfl
      | true => have := h1 (L + 1) (by omega) hp; omega
    · exact c3
  · rw [has] at hn
    simp only [Bool.or_eq_true, decide_eq_true_eq] at hn
    rcases hn with hn | hn
    · omega
    · by_cases g : low < n
      · exact h1 n g hn
      · omega
theorem ctz_not (b : Nat) (hb : b < 18446744073709551616) : (∀ i, i < ctz 64 (18446744073709551615 - b) → b.testBit i = true) ∧ (b.testBit (ctz 64 (18446744073709551615 - b)) = false) ∧ ctz 64 (18446744073709551615 - b) ≤ 64 := by
  have hn : ∀ i, i < 64 → (18446744073709551615 - b).testBit i = !b.testBit i := by
    intro i hi
    have := Nat.testBit_two_pow_sub_succ (x := b) (n := 64) hb i
    rw [show 2 ^ 64 - (b + 1) = 18446744073709551615 - b by omega] at this
    rw [this, decide_eq_true hi]; rfl
  by_cases h0 : 18446744073709551615 - b = 0
  · rw [h0]
    have : b = 2 ^ 64 - 1 := by omega
    refine ⟨fun i hi => ?_, ?_, Nat.le_refl _⟩
    · rw [this, Nat.testBit_two_pow_sub_one]; have hi : i < 64 := hi; simpa using hi
    · exact Nat.testBit_lt_two_pow hb
  · obtain ⟨m, h1, h2⟩ := ctzFrom_spec 64 (18446744073709551615 - b) (by omega) (by omega)
    have e : ctz 64 (18446744073709551615 - b) = ctzFrom 64 (18446744073709551615 - b) := by simp [ctz, h0]
    rw [e]
    generalize ctzFrom 64 (18446744073709551615 - b) = c at *
    refine ⟨fun i hi => ?_, ?_, by omega⟩
    · have := hn i (by omega)
      rw [h1, Nat.mul_comm, Nat.testBit_mul_two_pow, decide_eq_false (by omega), Bool.false_and] at this
      simpa using this
    · have := hn c h2
      rw [h1, Nat.mul_comm, Nat.testBit_mul_two_pow, decide_eq_true (Nat.le_refl _), Nat.sub_self] at this
      simp [Nat.testBit_zero] at this
      exact this
theorem norm_ok (m : Mk) (hb : m.b < 18446744073709551616) (hl : m.l ≤ 4611686018427387840) (ht : ∀ n, hasM m n = true → n ≤ 4611686018427387840) : Gd (normM m) ∧ ∀ n, hasM (normM m) n = hasM m n := by
  obtain ⟨c1, c2, c3⟩ := ctz_not m.b hb
  have hn : normM m = ⟨m.l + upM' m, m.b >>> upM' m⟩ := rfl
  have hu : upM' m = min (ctz 64 (18446744073709551615 - m.b)) (4611686018427387840 - m.l) := rfl
  generalize ctz 64 (18446744073709551615 - m.b) = c at *
  have huc : upM' m = c := by
    by_cases h : c = 0
    · rw [hu, h]; simp
    · have := has_bit m (c - 1) (by omega)
      rw [c1 (c - 1) (by omega)] at this
      have := ht _ this
      omega
  rw [huc] at hn
  have has : ∀ n, hasM (normM m) n = hasM m n := by
    intro n
    rw [hn]
    by_cases g1 : n ≤ m.l
    · rw [has_low g1, has_low (m := ⟨m.l + c, m.b >>> c⟩) (by show n ≤ m.l + c; omega)]
    · by_cases g2 : n ≤ m.l + c
      · rw [has_low (m := ⟨m.l + c, m.b >>> c⟩) g2]
        have := has_bit m (n - m.l - 1) (by omega)
        rw [c1 _ (by omega), show m.l + 1 + (n - m.l - 1) = n by omega] at this
        exact this.symm
      · by_cases g3 : n ≤ m.l + c + 64
        · have := has_bit ⟨m.l + c, m.b >>> c⟩ (n - (m.l + c) - 1) (by omega)
          simp only at this
          rw [show m.l + c + 1 + (n - (m.l + c) - 1) = n by omega, Nat.testBit_shiftRight] at this
          rw [this]
          by_cases g4 : n ≤ m.l + 64
          · have := has_bit m (n - m.l - 1) (by omega)
            rw [show m.l + 1 + (n - m.l - 1) = n by omega] at this
            rw [this]
            congr 1; omega
          · rw [has_far (by omega)]
            exact Nat.testBit_lt_two_pow (Nat.lt_of_lt_of_le hb (Nat.pow_le_pow_right (n := 2) (i := 64) (by omega) (by omega)))
        · rw [has_far (m := ⟨m.l + c, m.b >>> c⟩) (by show n > m.l + c + 64; omega), has_far (by omega)]
  refine ⟨⟨?_, ?_, ?_, fun n h => ht n (by rw [← has]; exact h)⟩, has⟩
  · rw [hn]; exact shr_lt _ _ hb
  · rw [hn]; show m.l + c ≤ _; omega
  · rw [has, hn]
    show hasM m (m.l + c + 1) = false
    by_cases g : c < 64
    · have := has_bit m c g
      rw [c2] at this
      rw [show m.l + c + 1 = m.l + 1 + c by omega]; exact this
    · exact has_far (by omega)
theorem lift_has (m : Mk) (low n : Nat) (hb : m.b < 18446744073709551616) : hasM (liftM m low) n = (decide (n ≤ low) || hasM m n) := by
  unfold liftM
  split
  · rename_i h
    by_cases g : n ≤ low
    · rw [has_low (by omega), decide_eq_true g]; rfl
    · rw [decide_eq_false g]; rfl
  · rename_i h
    by_cases g : n ≤ low
    · rw [has_low (m := ⟨low, m.b >>> (low - m.l)⟩) g, decide_eq_true g]; rfl
    · rw [decide_eq_false g, Bool.false_or]
      by_cases g2 : n ≤ low + 64
      · have := has_bit ⟨low, m.b >>> (low - m.l)⟩ (n - low - 1) (by omega)
        simp only at this
        rw [show low + 1 + (n - low - 1) = n by omega, Nat.testBit_shiftRight] at this
        rw [this]
        by_cases g4 : n ≤ m.l + 64
        · have := has_bit m (n - m.l - 1) (by omega)
          rw [show m.l + 1 + (n - m.l - 1) = n by omega] at this
          rw [this]
          congr 1; omega
        · rw [has_far (by omega)]
          exact Nat.testBit_lt_two_pow (Nat.lt_of_lt_of_le hb (Nat.pow_le_pow_right (n := 2) (i := 64) (by omega) (by omega)))
      · rw [has_far (m := ⟨low, m.b >>> (low - m.l)⟩) (by show n > low + 64; omega), has_far (by omega)]
theorem or_has (m : Mk) (n : Nat) (h1 : m.l < n) (h2 : n ≤ m.l + 64) (x : Nat) : hasM ⟨m.l, m.b ||| 1 <<< (n - m.l - 1)⟩ x = (hasM m x || x == n) := by
  by_cases g : x ≤ m.l
  · rw [has_low g, has_low (m := ⟨m.l, m.b ||| 1 <<< (n - m.l - 1)⟩) g]; rfl
  · by_cases g2 : x ≤ m.l + 64
    · have e1 := has_bit ⟨m.l, m.b ||| 1 <<< (n - m.l - 1)⟩ (x - m.l - 1) (by omega)
      have e2 := has_bit m (x - m.l - 1) (by omega)
      simp only at e1
      rw [show m.l + 1 + (x - m.l - 1) = x by omega] at e1 e2
      rw [e1, e2, Nat.testBit_or, Nat.one_shiftLeft, Nat.testBit_two_pow]
      congr 1
      rw [Bool.eq_iff_iff]
      simp
      omega
    · rw [has_far (m := ⟨m.l, m.b ||| 1 <<< (n - m.l - 1)⟩) (by show x > m.l + 64; omega), has_far (m := m) (by omega)]
      have : ¬ x = n := by omega
      simp [this]
def canSet (m : Mk) (n : Nat) : Prop := n ≤ 4611686018427387840 ∧ n ≤ m.l + 64
theorem set_no {m : Mk} {n : Nat} (h : ¬ canSet m n) : setM m n = (m, 30) ∧ rsetM m n = (m, 30) := by
  unfold canSet at h
  exact ⟨if_pos (by omega), if_pos (by omega)⟩
theorem set_ok {m : Mk} {n : Nat} (hg : Gd m) (h : canSet m n) : (setM m n).2 = 0 ∧ Gd (setM m n).1 ∧ (∀ x, hasM (setM m n).1 x = (hasM m x || x == n)) ∧ rsetM m n = setM m n := by
  obtain ⟨h1, h2⟩ := h
  have hr : rsetM m n = (madeM (PM m m n) m.l, 0) := if_neg (by omega)
  obtain ⟨r1, r2⟩ := made_ok (PM m m n) m.l hg.l (fun x hx hp => by
    simp only [PM, Bool.or_eq_true, beq_iff_eq] at hp
    rcases hp with hp | hp | hp
    · exact hg.t _ hp
    · exact hg.t _ hp
    · omega) (fun x hp => by
    simp only [PM, Bool.or_eq_true, beq_iff_eq] at hp
    rcases hp with hp | hp | hp
    · apply Decidable.byContradiction; intro h; rw [has_far (by omega)] at hp; cases hp
    · apply Decidable.byContradiction; intro h; rw [has_far (by omega)] at hp; cases hp
    · omega)
  have r2' : ∀ x, hasM (madeM (PM m m n) m.l) x = (hasM m x || x == n) := by
    intro x
    rw [r2]
    by_cases g : x ≤ m.l
    · rw [decide_eq_true g, has_low g]; rfl
    · rw [decide_eq_false g]
      simp only [PM, Bool.false_or]
      cases hasM m x <;> rfl
  by_cases h3 : n ≤ m.l
  · have e : setM m n = (m, 0) := by unfold setM; rw [if_neg (by omega), if_pos h3]
    have hx : ∀ x, hasM m x = (hasM m x || x == n) := by
      intro x
      by_cases g : x = n
      · subst g; rw [has_low h3]; rfl
      · simp [g]
    rw [e, hr]
    exact ⟨rfl, hg, hx, by rw [gd_eq r1 hg (fun x => by rw [r2' x]; exact (hx x).symm)]⟩
  · have e : setM m n = (normM ⟨m.l, m.b ||| 1 <<< (n - m.l - 1)⟩, 0) := by unfold setM; rw [if_neg (by omega), if_neg h3]
    have ho := or_has m n (by omega) h2
    have hp : 1 <<< (n - m.l - 1) < 18446744073709551616 := by
      rw [Nat.one_shiftLeft]; exact Nat.pow_lt_pow_right (a := 2) (n := 64) (by omega) (by omega)
    obtain ⟨n1, n2⟩ := norm_ok ⟨m.l, m.b ||| 1 <<< (n - m.l - 1)⟩ (show m.b ||| 1 <<< (n - m.l - 1) < 2 ^ 64 from Nat.or_lt_two_pow hg.b hp) hg.l (fun x hx => by
      rw [ho] at hx
      simp only [Bool.or_eq_true, beq_iff_eq] at hx
      rcases hx with hx | hx
      · exact hg.t _ hx
      · omega)
    rw [e, hr]
    refine ⟨rfl, n1, fun x => by rw [n2, ho], ?_⟩
    rw [gd_eq r1 n1 (fun x => by rw [r2', n2, ho])]
theorem over_ok {m : Mk} {low : Nat} (hg : Gd m) : Gd (overM m low) ∧ roverM m low = overM m low := by
  by_cases h : low > 4611686018427387840
  · have e1 : overM m low = m := if_pos h
    have e2 : roverM m low = m := if_pos h
    rw [e1, e2]
    exact ⟨hg, rfl⟩
  · have e1 : overM m low = normM (liftM m low) := if_neg h
    have e2 : roverM m low = madeM (PM m m 0) (max m.l low) := if_neg h
    have ll : (liftM m low).l ≤ 4611686018427387840 := by unfold liftM; split <;> (try simp only []) <;> (have := hg.l; omega)
    obtain ⟨n1, n2⟩ := norm_ok (liftM m low) (lift_lt m low hg.b) ll (fun x hx => by
      rw [lift_has m low x hg.b] at hx
      simp only [Bool.or_eq_true, decide_eq_true_eq] at hx
      rcases hx with hx | hx
      · omega
      · exact hg.t _ hx)
    obtain ⟨r1, r2⟩ := made_ok (PM m m 0) (max m.l low) (by have := hg.l; omega) (fun x hx hp => by
      simp only [PM, Bool.or_eq_true, beq_iff_eq] at hp
      rcases hp with hp | hp | hp
      · exact hg.t _ hp
      · exact hg.t _ hp
      · omega) (fun x hp => by
      simp only [PM, Bool.or_eq_true, beq_iff_eq] at hp
      rcases hp with hp | hp | hp
      · apply Decidable.byContradiction; intro h; rw [has_far (by omega)] at hp; cases hp
      · apply Decidable.byContradiction; intro h; rw [has_far (by omega)] at hp; cases hp
      · omega)
    rw [e1, e2]
    refine ⟨n1, gd_eq r1 n1 fun x => ?_⟩
    rw [r2, n2, lift_has m low x hg.b]
    by_cases g : x ≤ m.l
    · rw [has_low g, decide_eq_true (by omega)]; simp
    · by_cases g2 : x ≤ low
      · rw [decide_eq_true (by omega), decide_eq_true g2]; rfl
      · rw [decide_eq_false (by omega), decide_eq_false g2]
        have : (x == 0) = false := by simp; omega
        simp only [PM, Bool.false_or, this, Bool.or_false]
        cases hasM m x <;> rfl
theorem join_ok {a b : Mk} (ha : Gd a) (hb : Gd b) : Gd (joinM a b) ∧ rjoinM a b = joinM a b := by
  have hl : max a.l b.l ≤ 4611686018427387840 := by have := ha.l; have := hb.l; omega
  obtain ⟨r1, r2⟩ := made_ok (PM a b 0) (max a.l b.l) hl (fun x hx hp => by
      simp only [PM, Bool.or_eq_true, beq_iff_eq] at hp
      rcases hp with hp | hp | hp
      · exact ha.t _ hp
      · exact hb.t _ hp
      · omega) (fun x hp => by
      simp only [PM, Bool.or_eq_true, beq_iff_eq] at hp
      rcases hp with hp | hp | hp
      · apply Decidable.byContradiction; intro h; rw [has_far (by omega)] at hp; cases hp
      · apply Decidable.byContradiction; intro h; rw [has_far (by omega)] at hp; cases hp
      · omega)
  have hA : ∀ x, hasM (liftM a (max a.l b.l)) x = (decide (x ≤ max a.l b.l) || hasM a x) := fun x => lift_has a _ x ha.b
  have hB : ∀ x, hasM (liftM b (max a.l b.l)) x = (decide (x ≤ max a.l b.l) || hasM b x) := fun x => lift_has b _ x hb.b
  have lA := lift_lt a (max a.l b.l) ha.b
  have lB := lift_lt b (max a.l b.l) hb.b
  have llA : (liftM a (max a.l b.l)).l = max a.l b.l := by unfold liftM; split <;> (try simp only []) <;> omega
  have llB : (liftM b (max a.l b.l)).l = max a.l b.l := by unfold liftM; split <;> (try simp only []) <;> omega
  have want : ∀ x, hasM (rjoinM a b) x = (decide (x ≤ max a.l b.l) || (hasM a x || hasM b x)) := by
    intro x
    unfold rjoinM
    rw [r2]
    by_cases g : x ≤ max a.l b.l
    · rw [decide_eq_true g]; rfl
    · have : (x == 0) = false := by simp; omega
      simp only [PM, this, Bool.or_false]
  have ej : joinM a b = if liftM a (max a.l b.l) = liftM b (max a.l b.l) then normM (liftM a (max a.l b.l)) else normM ⟨max a.l b.l, (liftM a (max a.l b.l)).b ||| (liftM b (max a.l b.l)).b⟩ := rfl
  have fin : ∀ m : Mk, m.b < 18446744073709551616 → m.l ≤ 4611686018427387840 → (∀ x, hasM m x = (decide (x ≤ max a.l b.l) || (hasM a x || hasM b x))) → Gd (normM m) ∧ rjoinM a b = normM m := by
    intro m h1 h2 h3
    obtain ⟨n1, n2⟩ := norm_ok m h1 h2 (fun x hx => by
      rw [h3] at hx
      simp only [Bool.or_eq_true, decide_eq_true_eq] at hx
      rcases hx with hx | hx | hx
      · omega
      · exact ha.t _ hx
      · exact hb.t _ hx)
    exact ⟨n1, gd_eq r1 n1 fun x => by rw [n2, h3]; exact want x⟩
  rw [ej]
  split
  · rename_i h
    refine fin _ lA (by rw [llA]; exact hl) fun x => ?_
    have e1 := hA x
    have e2 := hB x
    rw [← h, e1] at e2
    rw [e1]
    cases hax : hasM a x <;> cases hbx : hasM b x <;> rw [hax, hbx] at e2 <;> simp_all
  · refine fin _ (show _ < 2 ^ 64 from Nat.or_lt_two_pow lA lB) hl fun x => ?_
    by_cases g : x ≤ max a.l b.l
    · rw [has_low (m := ⟨max a.l b.l, (liftM a (max a.l b.l)).b ||| (liftM b (max a.l b.l)).b⟩) g, decide_eq_true g]; rfl
    · rw [decide_eq_false g, Bool.false_or]
      have e1 := hA x
      have e2 := hB x
      rw [decide_eq_false g, Bool.false_or] at e1 e2
      rw [← e1, ← e2]
      by_cases g2 : x ≤ max a.l b.l + 64
      · have q0 := has_bit ⟨max a.l b.l, (liftM a (max a.l b.l)).b ||| (liftM b (max a.l b.l)).b⟩ (x - max a.l b.l - 1) (by omega)
        have q1 := has_bit (liftM a (max a.l b.l)) (x - max a.l b.l - 1) (by omega)
        have q2 := has_bit (liftM b (max a.l b.l)) (x - max a.l b.l - 1) (by omega)
        simp only at q0
        rw [llA] at q1; rw [llB] at q2
        rw [show max a.l b.l + 1 + (x - max a.l b.l - 1) = x by omega] at q0 q1 q2
        rw [q0, q1, q2, Nat.testBit_or]
      · rw [has_far (m := ⟨max a.l b.l, (liftM a (max a.l b.l)).b ||| (liftM b (max a.l b.l)).b⟩) (by show x > max a.l b.l + 64; omega), has_far (m := liftM a (max a.l b.l)) (by rw [llA]; omega), has_far (m := liftM b (max a.l b.l)) (by rw [llB]; omega)]
        rfl
end Go.Proofs.YtapfediapkklnaaDoor.S
