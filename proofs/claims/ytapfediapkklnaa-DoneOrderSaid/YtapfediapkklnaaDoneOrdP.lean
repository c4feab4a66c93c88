/- Requests done in any order: the table tells the set of them. Plain arithmetic. -/
import Derived.Test.YtapfediapkklnaaDonePure
import Derived.Test.YtapfediapkklnaaDoneLives
namespace Go.Proofs.Ytapfediapkklnaa
open Go.RowKit K
set_option linter.unusedSimpArgs false
set_option linter.unusedVariables false

/-- A client that has just the requests R. -/
structure CInv (x : Int × Int) (R : Int → Prop) : Prop where
  top : U64 x.1
  bits : ∃ b : Nat, x.2 = b ∧ b < 65536 ∧ ∀ i : Nat, i < 16 → (b.testBit i = true ↔ R (x.1 - i))
  rng : ∀ r, R r → 1 ≤ r ∧ r ≤ x.1
  has : x.1 = 0 ∨ R x.1
theorem CInv.congr {x : Int × Int} {R R' : Int → Prop} (h : CInv x R) (e : ∀ r, R r ↔ R' r) : CInv x R' := by
  have : R = R' := funext fun r => propext (e r)
  exact this ▸ h
theorem CInv.zero : CInv (0, 0) (fun _ => False) := ⟨by simp [U64], ⟨0, rfl, by decide, fun i _ => by simp⟩, fun _ h => h.elim, .inl rfl⟩
theorem CInv.one {x y : Int × Int} {R : Int → Prop} (h : CInv x R) (k : CInv y R) : x = y := by
  have e1 : x.1 = y.1 := by
    have a1 := h.has
    have a2 := k.has
    have a3 := h.top.1
    have a4 := k.top.1
    rcases a1 with a1 | a1
    · rcases a2 with a2 | a2
      · omega
      · have := h.rng _ a2; omega
    · have := k.rng _ a1
      rcases a2 with a2 | a2
      · omega
      · have := h.rng _ a2; omega
  obtain ⟨b, hb, hbl, hbi⟩ := h.bits
  obtain ⟨c, hc, hcl, hci⟩ := k.bits
  have e2 : b = c := by
    apply Nat.eq_of_testBit_eq
    intro i
    by_cases hi : i < 16
    · rw [Bool.eq_iff_iff, hbi i hi, hci i hi, e1]
    · have f : ∀ z : Nat, z < 65536 → z.testBit i = false := fun z hz => Nat.testBit_lt_two_pow (Nat.lt_of_lt_of_le hz (show 2 ^ 16 ≤ 2 ^ i from Nat.pow_le_pow_right (by decide) (by omega)))
      rw [f b hbl, f c hcl]
  exact Prod.ext e1 (by rw [hb, hc, e2])
theorem CInv.tells {x : Int × Int} {R : Int → Prop} (h : CInv x R) {r : Int} (hr : R r) : hasB x.1 x.2 r = true ∨ oldB x.1 r = true := by
  obtain ⟨b, hb, hbl, hbi⟩ := h.bits
  have h1 := h.rng r hr
  by_cases h2 : x.1 - r < 16
  · left
    rw [← has_eq (by rw [hb]; exact ⟨by omega, by omega⟩), hb]
    obtain ⟨d, hd⟩ : ∃ d : Nat, x.1 - r = d := Int.eq_ofNat_of_zero_le (by omega)
    unfold rhasB
    rw [hd, bitB_test]
    have h3 := (hbi d (by omega)).2 (by rw [show x.1 - d = r by omega]; exact hr)
    rw [h3]
    simp
    omega
  · right
    simp only [oldB, Bool.or_eq_true, Bool.and_eq_true, decide_eq_true_eq]
    omega
theorem CInv.add {x : Int × Int} {R : Int → Prop} (h : CInv x R) {r : Int} (hr : U64 r) (ho : oldB x.1 r = false) : CInv (withC x.1 x.2 r) (fun s => R s ∨ s = r) := by
  obtain ⟨b, hb, hbl, hbi⟩ := h.bits
  have hu : U16 x.2 := by rw [hb]; exact ⟨by omega, by omega⟩
  rw [← add_eq h.top hr hu ho]
  have ht := h.top
  have ho' : r ≠ 0 ∧ (x.1 < r ∨ x.1 - r < 16) := by
    simp only [oldB, Bool.or_eq_false_iff, Bool.and_eq_false_iff, decide_eq_false_iff_not] at ho
    omega
  obtain ⟨t0, t1⟩ := ht
  obtain ⟨r0, r1⟩ := hr
  unfold raddC
  refine ⟨⟨?_, ?_⟩, ⟨_, accR_N _ _ _ _ _, accN_lt _ 16, fun i hi => ?_⟩, fun s hs => ?_, ?_⟩
  · show 0 ≤ max x.1 r; omega
  · show max x.1 r ≤ _; omega
  · rw [accN_bit]
    show _ ↔ (R (max x.1 r - i) ∨ max x.1 r - i = r)
    generalize hm : max x.1 r = m
    have hm2 : x.1 ≤ m ∧ r ≤ m ∧ (m = x.1 ∨ m = r) := by omega
    unfold condR
    simp only [hi, decide_true, Bool.true_and, Bool.or_eq_true, Bool.and_eq_true, decide_eq_true_eq]
    constructor
    · rintro (h1 | ⟨h1, h2⟩)
      · right; omega
      · left
        obtain ⟨d, hd⟩ : ∃ d : Nat, (i : Int) - (m - x.1) = d := Int.eq_ofNat_of_zero_le (by omega)
        rw [hd, hb, bitB_test] at h2
        have h3 := (hbi d (by omega)).1 h2
        have e : x.1 - d = m - i := by omega
        rwa [e] at h3
    · rintro (h1 | h1)
      · right
        have h2 := h.rng _ h1
        refine ⟨by omega, ?_⟩
        obtain ⟨d, hd⟩ : ∃ d : Nat, (i : Int) - (m - x.1) = d := Int.eq_ofNat_of_zero_le (by omega)
        rw [hd, hb, bitB_test]
        refine (hbi d (by omega)).2 ?_
        have e : x.1 - d = m - i := by omega
        rwa [e]
      · left; omega
  · show 1 ≤ s ∧ s ≤ max x.1 r
    rcases hs with hs | rfl
    · have := h.rng s hs; omega
    · omega
  · show max x.1 r = 0 ∨ R (max x.1 r) ∨ max x.1 r = r
    by_cases hx : x.1 < r
    · right; right; omega
    · have e : max x.1 r = x.1 := by omega
      rw [e]
      rcases h.has with h1 | h1
      · left; exact h1
      · right; left; exact h1

/-- A table that has just the requests of a list. -/
structure TInv (t : List (Int × Int)) (M : Int × Int → Prop) : Prop where
  ok : TOk t
  cl : ∀ c, 1 ≤ c → c ≤ 8 → CInv (gt t c) (fun r => M (c, r))
theorem TInv.zero : TInv tz (fun _ => False) := ⟨tz_ok, fun c h1 h2 => by
  have : gt tz c = (0, 0) := by
    unfold gt tz
    rw [List.getD_eq_getElem?_getD, List.getElem?_replicate]
    split <;> rfl
  rw [this]
  exact CInv.zero⟩
theorem gt_other {t : List (Int × Int)} {c d : Int} (h1 : 1 ≤ c) (h2 : c ≤ 8) (h3 : 1 ≤ d) (hne : d ≠ c) (x : Int × Int) : gt (setC t c x) d = gt t d := by
  have : c.toNat - 1 ≠ d.toNat - 1 := by omega
  simp [gt, setC, List.getD_eq_getElem?_getD, List.getElem?_set_ne this]
theorem TInv.add {t : List (Int × Int)} {M : Int × Int → Prop} (h : TInv t M) {c r : Int} (h1 : 1 ≤ c) (h2 : c ≤ 8) (hr : U64 r) (ho : oldT t c r = false) : TInv (addT t c r).1 (fun x => M x ∨ x = (c, r)) := by
  have hw : withinB c = true := within_iff.2 ⟨h1, h2⟩
  have ho' : oldB (gt t c).1 r = false := by simpa [oldT, hw] using ho
  have e : (addT t c r).1 = setC t c (withC (gt t c).1 (gt t c).2 r) := by simp [addT, hw, ho']
  refine ⟨addT_ok h.ok hr, fun d g1 g2 => ?_⟩
  rw [e]
  by_cases hdc : d = c
  · subst hdc
    rw [gt_set h.ok.len h1 h2]
    refine ((h.cl d g1 g2).add hr ho').congr fun s => ?_
    simp
  · rw [gt_other h1 h2 g1 hdc]
    refine (h.cl d g1 g2).congr fun s => ?_
    simp [hdc]
theorem TInv.one {t u : List (Int × Int)} {M : Int × Int → Prop} (h : TInv t M) (k : TInv u M) : t = u := by
  apply List.ext_getElem?
  intro i
  by_cases hi : i < 8
  · have e := (h.cl (i + 1) (by omega) (by omega)).one (k.cl (i + 1) (by omega) (by omega))
    have h3 := h.ok.len
    have h4 := k.ok.len
    have e1 : ((i : Int) + 1).toNat - 1 = i := by omega
    unfold gt at e
    rw [e1, List.getD_eq_getElem?_getD, List.getD_eq_getElem?_getD, List.getElem?_eq_getElem (by omega), List.getElem?_eq_getElem (by omega)] at e
    simp at e
    rw [List.getElem?_eq_getElem (by omega), List.getElem?_eq_getElem (by omega), e]
  · rw [List.getElem?_eq_none (by have := h.ok.len; omega), List.getElem?_eq_none (by have := k.ok.len; omega)]
theorem TInv.tells {t : List (Int × Int)} {M : Int × Int → Prop} (h : TInv t M) {c r : Int} (h1 : 1 ≤ c) (h2 : c ≤ 8) (hm : M (c, r)) : hasT t c r = true ∨ oldT t c r = true := by
  have hw : withinB c = true := within_iff.2 ⟨h1, h2⟩
  simpa [hasT, oldT, hw] using (h.cl c h1 h2).tells hm
theorem TInv.congr {t : List (Int × Int)} {M M' : Int × Int → Prop} (h : TInv t M) (e : ∀ x, M x ↔ M' x) : TInv t M' := by
  have : M = M' := funext fun r => propext (e r)
  exact this ▸ h
end Go.Proofs.Ytapfediapkklnaa
