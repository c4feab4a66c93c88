/- Ballots: plain laws. -/
import Derived.Test.YtjkmnmpjcdanhaaBa4
namespace Go.Proofs.Ytjkmnmpjcdanhaa.S
set_option linter.all false
set_option maxRecDepth 100000
set_option maxHeartbeats 2000000
theorem bit2 (a b : Nat) : (a &&& b) % 2 = (a % 2) &&& (b % 2) ∧ (a ||| b) % 2 = (a % 2) ||| (b % 2) ∧ (a &&& b) / 2 = (a / 2) &&& (b / 2) ∧ (a ||| b) / 2 = (a / 2) ||| (b / 2) := by
  have h1 := Nat.and_mod_two_pow (a := a) (b := b) (n := 1)
  have h2 := Nat.or_mod_two_pow (a := a) (b := b) (n := 1)
  have h3 := Nat.and_div_two_pow (a := a) (b := b) (n := 1)
  have h4 := Nat.or_div_two_pow (a := a) (b := b) (n := 1)
  simp only [Nat.pow_one] at h1 h2 h3 h4
  exact ⟨h1, h2, h3, h4⟩
theorem cnt_or : ∀ f a b, cnt f (a ||| b) + cnt f (a &&& b) = cnt f a + cnt f b
  | 0, a, b => rfl
  | f + 1, a, b => by
    have ih := cnt_or f (a / 2) (b / 2)
    obtain ⟨h1, h2, h3, h4⟩ := bit2 a b
    simp only [cnt]
    rw [h1, h2, h3, h4]
    have ha : a % 2 = 0 ∨ a % 2 = 1 := by omega
    have hb : b % 2 = 0 ∨ b % 2 = 1 := by omega
    rcases ha with h | h <;> rcases hb with g | g <;> simp [h, g] <;> omega
theorem cnt_mono : ∀ f a b, cnt f (a &&& b) ≤ cnt f b
  | 0, a, b => Nat.le_refl _
  | f + 1, a, b => by
    have ih := cnt_mono f (a / 2) (b / 2)
    obtain ⟨h1, h2, h3, h4⟩ := bit2 a b
    simp only [cnt]
    rw [h1, h3]
    have ha : a % 2 = 0 ∨ a % 2 = 1 := by omega
    have hb : b % 2 = 0 ∨ b % 2 = 1 := by omega
    rcases ha with h | h <;> rcases hb with g | g <;> simp [h, g] <;> omega
theorem cnt_zero : ∀ f, cnt f 0 = 0 := by
  intro f
  induction f with
  | zero => rfl
  | succ f ih => simp [cnt, ih]
theorem won_meet {N V U : Nat} (h1 : wonB N V = true) (h2 : wonB N U = true) : V &&& U ≠ 0 := by
  unfold wonB at h1 h2
  rw [decide_eq_true_eq] at h1 h2
  generalize 1 <<< N - 1 = m at *
  intro hz
  have c1 := cnt_or 64 (V &&& m) (U &&& m)
  have e1 : (V &&& m) &&& (U &&& m) = 0 := by
    apply Nat.eq_of_testBit_eq
    intro i
    have := congrArg (fun n => n.testBit i) hz
    simp only [Nat.testBit_and, Nat.zero_testBit] at this ⊢
    revert this
    cases V.testBit i <;> cases U.testBit i <;> cases m.testBit i <;> simp
  have e2 : ((V &&& m) ||| (U &&& m)) &&& m = (V &&& m) ||| (U &&& m) := by
    apply Nat.eq_of_testBit_eq
    intro i
    simp only [Nat.testBit_and, Nat.testBit_or]
    cases V.testBit i <;> cases U.testBit i <;> cases m.testBit i <;> simp
  have c4 := cnt_mono 64 ((V &&& m) ||| (U &&& m)) m
  rw [e2] at c4
  rw [e1, cnt_zero] at c1
  omega
def grantH (N V : Nat) (H : Nat → List En) (i : Int) (l : List En) : Nat → List En := if i < 0 ∨ (N : Int) ≤ i then H else if V.testBit i.toNat then H else updH H i.toNat l
theorem BOK.grant {N V : Nat} {T : Mp} {H : Nat → List En} (h : BOK N V T H) (i : Int) (l : List En) : BOK N (grantV N V i) (grantT N V T i l) (grantH N V H i l) := by
  unfold grantV grantT grantH
  by_cases h1 : i < 0 ∨ (N : Int) ≤ i
  · simp only [if_pos h1]; exact h
  · simp only [if_neg h1]
    obtain ⟨n, rfl⟩ : ∃ n : Nat, i = n := ⟨i.toNat, by omega⟩
    rw [Int.toNat_natCast]
    by_cases h2 : V.testBit n = true
    · simp only [if_pos h2]; exact h
    · simp only [if_neg h2]; exact h.put (by omega) l
theorem BOK.grant0 {N V : Nat} {T : Mp} (h : BOK N V T (fun _ => [])) (i : Int) : BOK N (grantV N V i) (grantT N V T i []) (fun _ => []) := by
  have h1 := h.grant i []
  have : grantH N V (fun _ => []) i [] = fun _ => [] := by
    unfold grantH updH
    funext k
    split
    · rfl
    · split
      · rfl
      · simp
  rw [this] at h1
  exact h1
theorem BOK.new {N : Nat} {s : Nat} (hs : s < N) (l : List En) : BOK N (1 <<< s) (Mp.emp.put s (.ro 10 (l.map enR))) (updH (fun _ => []) s l) := by
  have := (BOK.emp (N := N) (fun _ => [])).put hs l
  rw [Nat.zero_or] at this
  exact this
theorem BOK.new0 {N : Nat} {s : Nat} (hs : s < N) : BOK N (1 <<< s) (Mp.emp.put s (.ro 10 [])) (fun _ => []) := by
  have h := BOK.new hs []
  have : updH (fun _ => []) s [] = fun _ => [] := by unfold updH; funext k; simp
  rw [this] at h
  exact h
def intR (n : Int) : List AV := [.int .i64 n]
end Go.Proofs.Ytjkmnmpjcdanhaa.S
