/- Order, plain laws: what is done whenever it may be comes to what is done in order. -/
import Derived.Test.YtlnafekmiidpkaaDoorOp1
namespace Go.Proofs.YtlnafekmiidpkaaDoor
open Go.RowKit K
set_option linter.all false
theorem u16_bits (op : BinOp) (x y : Int) : U16 (bits op .u16 x y) := by
  unfold bits U16
  rw [IntKind.wrap_u16]
  omega
theorem withC_ok {t b r : Int} (ht : U64 t) (hr : U64 r) : U64 (withC t b r).1 ∧ U16 (withC t b r).2 := by
  unfold withC
  split
  · exact ⟨hr, u16_bits .or _ 1⟩
  · exact ⟨ht, u16_bits .or b _⟩
theorem setC_ok {t : List (Int × Int)} (h : TOk t) {c : Int} {x : Int × Int} (hx : U64 x.1 ∧ U16 x.2) : TOk (setC t c x) :=
  ⟨by simp [setC, h.len], fun y hy => by
    rcases List.mem_or_eq_of_mem_set hy with h1 | h1
    · exact h.rng y h1
    · rw [h1]; exact hx⟩
theorem addT_ok {t : List (Int × Int)} (h : TOk t) {c r : Int} (hr : U64 r) : TOk (addT t c r).1 := by
  unfold addT
  split
  · exact setC_ok h (withC_ok (gt_ok h c).1 hr)
  · exact h
def tz : List (Int × Int) := List.replicate 8 (0, 0)
theorem tz_ok : TOk tz := ⟨rfl, fun x hx => by simp [tz] at hx; subst hx; simp [U64, U16]⟩
end Go.Proofs.YtlnafekmiidpkaaDoor
namespace Go.Proofs.YtlnafekmiidpkaaDoor.S
open Go.RowKit
set_option linter.all false
set_option maxRecDepth 100000
set_option maxHeartbeats 1000000
theorem gd_set {m : Mk} (g : Gd m) (x : Nat) : Gd (setM m x).1 := by
  by_cases h : canSet m x
  · exact (set_ok g h).2.1
  · rw [(set_no h).1]; exact g
/-- Any entry leaves an image that may be. -/
theorem doI_ok {m : Mk} {s : ByteArray} {t : List (Int × Int)} (g : Gd m) (hT : TOk t) {e : En} (he : EnOK e) : Gd (doI m s t e).1.1 ∧ (doI m s t e).1.2.1.size = s.size ∧ TOk (doI m s t e).1.2.2 := by
  have hr : K.U64 e.l.r := by have := he.l.2.1; unfold U64 at this; unfold K.U64; omega
  unfold doI
  split
  · exact ⟨g, rfl, hT⟩
  split
  · exact ⟨g, rfl, hT⟩
  split
  · rename_i hk
    split
    · exact ⟨g, rfl, hT⟩
    · refine ⟨gd_set g _, ?_, addT_ok hT hr⟩
      have := apE_size (s := s) e
      unfold apE at this
      rw [if_pos hk] at this
      exact this
  · exact ⟨gd_set g _, rfl, hT⟩
theorem doI_good {m : Mk} {s : ByteArray} {t : List (Int × Int)} {e : En} {x : Nat} (hx : e.i = (x : Nat)) (hn : hasM m x = false) (hs : (setM m x).2 = 0) (ge : GE e) (h64 : s.size = 64) : (doI m s t e).2 = 0 ∧ (doI m s t e).1.1 = (setM m x).1 ∧ (doI m s t e).1.2.1 = apE s e := by
  unfold doI apE
  rw [hx, Int.toNat_natCast, if_neg (by rw [hn]; simp), if_neg (by rw [hs]; simp)]
  by_cases hk : e.k = 1
  · obtain ⟨e1, e2, e3, e4⟩ := ge hk
    have hp : putE s e.d e.l.f.toNat e.l.n.toNat = 0 := by
      unfold putE okP
      rw [if_pos (decide_eq_true (by omega)), if_pos (by omega)]
    rw [if_pos hk, if_pos hk, if_neg (by rw [hp]; simp)]
    exact ⟨rfl, rfl, rfl⟩
  · rw [if_neg hk, if_neg hk]
    exact ⟨rfl, rfl, rfl⟩
structure St (all : List En) (s0 : ByteArray) (m : Mk) (s : ByteArray) : Prop where
  g : Gd m
  u : ∀ y, hasM m y = true → y ≤ all.length
  s : s = sN m all s0 all.length
  p : PW all m
theorem st_step {all : List En} {s0 s : ByteArray} {m : Mk} (h0 : s0.size = 64) (hge : ∀ e ∈ all, GE e) (h : St all s0 m s) {j : Nat} {e : En} (hj : all[j]? = some e) (hn : hasM m (j + 1) = false) (hs : (setM m (j + 1)).2 = 0) (hd : ∀ i f, i < j → all[i]? = some f → hasM m (i + 1) = false → dis f e) : St all s0 (setM m (j + 1)).1 (apE s e) := by
  have hjl := (List.getElem?_eq_some_iff.1 hj).1
  have hc : canSet m (j + 1) := by
    apply Classical.byContradiction
    intro h
    rw [(set_no h).1] at hs
    simp at hs
  obtain ⟨_, g2, g3, _⟩ := set_ok h.g hc
  refine ⟨g2, fun y hy => ?_, ?_, pw_set hj g3 h.p hd⟩
  · rw [g3, Bool.or_eq_true, beq_iff_eq] at hy
    rcases hy with hy | hy
    · exact h.u y hy
    · omega
  · rw [sN_set h0 hge hj hn g3 h.p all.length hjl, ← h.s]
theorem gd_zero : Gd ⟨0, 0⟩ := gd_of ⟨by decide, by decide⟩ (by decide)
theorem st_zero {all : List En} {s0 : ByteArray} : St all s0 ⟨0, 0⟩ s0 := by
  have hz : ∀ y, hasM ⟨0, 0⟩ y = decide (y = 0) := fun y => by
    unfold hasM
    simp
  refine ⟨gd_of ⟨by decide, by decide⟩ (by decide), fun y hy => by rw [hz] at hy; simp at hy; omega, ?_, fun i j e f hij hi hj h1 h2 => by rw [hz] at h1; simp at h1⟩
  have : ∀ k, sN ⟨0, 0⟩ all s0 k = s0 := fun k => by
    induction k with
    | zero => rfl
    | succ k ih =>
      unfold sN
      rw [hz, ih]
      split <;> simp
  exact (this _).symm
/-- What is told to be ready. -/
theorem ready_step {all : List En} {a d : Mk} {x : Nat} {R : List Nat} {f : Nat} (h : readyN all a f d = x :: R) : ∃ f', R = readyN all a f' (setM d x).1 ∧ candB all a d x = true := by
  match f, h with
  | f + 1, h =>
    unfold readyN at h
    split at h
    · cases h
    · rename_i hx
      have hc := (next_cand all a d all.length (Nat.le_refl _) hx).1
      injection h with h1 h2
      subst h1
      exact ⟨f, h2.symm, hc⟩
theorem cand_at {l : List En} {n : Int} (hl : l.length ≤ 40) {a d : Mk} {x : Nat} (h : candB (chN l 1 n l.length) a d x = true) : ∃ j e, x = j + 1 ∧ j < l.length ∧ (chN l 1 n l.length)[j]? = some e ∧ e.i = ((j + 1 : Nat) : Int) ∧ hasM d x = false ∧ (setM d x).2 = 0 ∧ mayB e d = true := by
  unfold candB at h
  rw [Bool.and_eq_true, Bool.and_eq_true, Bool.and_eq_true, Bool.and_eq_true, decide_eq_true_eq, decide_eq_true_eq] at h
  obtain ⟨h1, h2, h3, h4, h5⟩ := h
  split at h5
  · rename_i e he
    unfold firstE at he
    have hm := List.mem_of_find?_eq_some he
    have hi := List.find?_some he
    obtain ⟨j, hj⟩ := List.getElem?_of_mem hm
    have hjl : j < l.length := by have := (List.getElem?_eq_some_iff.1 hj).1; rwa [chN_len l 1 n _ (Nat.le_refl _)] at this
    obtain ⟨y, hy, hy2⟩ := chN_at l 1 n hjl
    rw [hj] at hy2
    have hix : e.i = ((j + 1 : Nat) : Int) := by rw [Option.some.inj hy2]; exact ch_ix (by omega)
    have hi : e.i = (x : Int) := by simpa using hi
    exact ⟨j, e, by omega, hjl, hj, hix, by simpa using h3, h4, h5⟩
  · cases h5
abbrev Tr := Mk × ByteArray × List (Int × Int)
def rpI : List En → Tr → Tr
  | [], x => x
  | e :: L, x => rpI L (doI x.1 x.2.1 x.2.2 e).1
theorem rpI_app : ∀ (L M : List En) (x : Tr), rpI (L ++ M) x = rpI M (rpI L x)
  | [], M, x => rfl
  | e :: L, M, x => rpI_app L M _
theorem rp_done {l : List En} {n : Int} (hl : l.length ≤ 40) (hge : ∀ e ∈ chN l 1 n l.length, GE e) {m : Mk} {s0 : ByteArray} (h0 : s0.size = 64) (t0 : List (Int × Int)) : ∀ k, k ≤ l.length →
    Gd (rpI (((chN l 1 n l.length).take k).filter fun e => hasM m e.i.toNat) (⟨0, 0⟩, s0, t0)).1 ∧ (rpI (((chN l 1 n l.length).take k).filter fun e => hasM m e.i.toNat) (⟨0, 0⟩, s0, t0)).2.1 = sN m (chN l 1 n l.length) s0 k ∧
      ∀ y, hasM (rpI (((chN l 1 n l.length).take k).filter fun e => hasM m e.i.toNat) (⟨0, 0⟩, s0, t0)).1 y = (decide (y = 0) || (decide (y ≤ k) && hasM m y))
  | 0, _ => by
    refine ⟨gd_zero, rfl, fun y => ?_⟩
    show hasM ⟨0, 0⟩ y = _
    unfold hasM
    by_cases hy : y = 0 <;> simp [hy]
  | k + 1, hk => by
    obtain ⟨g, hs, hm⟩ := rp_done hl hge (m := m) h0 t0 k (by omega)
    obtain ⟨y, hy, hy2⟩ := chN_at l 1 n (show k < l.length by omega)
    have hi : (chE 1 n (chN l 1 n k) k y).i = ((k + 1 : Nat) : Int) := ch_ix (by omega)
    have hgE := hge _ (List.mem_of_getElem? hy2)
    generalize chE 1 n (chN l 1 n k) k y = e at *
    have hsz := sN_size m (chN l 1 n l.length) s0 k
    have hS : sN m (chN l 1 n l.length) s0 (k + 1) = if hasM m (k + 1) = true then apE (sN m (chN l 1 n l.length) s0 k) e else sN m (chN l 1 n l.length) s0 k := by
      rw [sN, hy2]
    rw [List.take_add_one, hy2, List.filter_append, rpI_app, hS]
    generalize rpI (((chN l 1 n l.length).take k).filter fun e => hasM m e.i.toNat) (⟨0, 0⟩, s0, t0) = X at *
    obtain ⟨mk, sk, tk⟩ := X
    simp only [] at g hs hm
    simp only [Option.toList_some, List.filter_cons, List.filter_nil]
    rw [hi, Int.toNat_natCast]
    by_cases hd : hasM m (k + 1) = true
    · rw [if_pos hd, if_pos hd]
      have hn : hasM mk (k + 1) = false := by rw [hm, decide_eq_false (show ¬ k + 1 ≤ k by omega)]; simp
      have hlow : mk.l ≤ k := by
        apply Decidable.byContradiction
        intro h
        rw [has_low (show k + 1 ≤ mk.l by omega)] at hn; cases hn
      have hll : k + 1 ≤ mk.l + 64 := by omega
      have hc : canSet mk (k + 1) := ⟨by omega, hll⟩
      obtain ⟨c1, c2, c3, _⟩ := set_ok g hc
      obtain ⟨d1, d2, d3⟩ := doI_good (m := mk) (s := sk) (t := tk) hi hn c1 hgE (by rw [hs, hsz]; exact h0)
      show Gd (doI mk sk tk e).1.1 ∧ (doI mk sk tk e).1.2.1 = _ ∧ ∀ y, hasM (doI mk sk tk e).1.1 y = _
      rw [d2, d3]
      refine ⟨c2, by rw [hs], fun y => ?_⟩
      rw [c3, hm]
      by_cases e1 : y = k + 1
      · subst e1; simp [hd]
      · by_cases e2 : y ≤ k
        · rw [show (y == k + 1) = false by simpa using e1, decide_eq_true e2, decide_eq_true (show y ≤ k + 1 by omega), Bool.or_false]
        · rw [show (y == k + 1) = false by simpa using e1, decide_eq_false e2, decide_eq_false (show ¬ y ≤ k + 1 by omega), Bool.or_false]
    · have hd : hasM m (k + 1) = false := by simpa using hd
      rw [hd]
      refine ⟨g, hs, fun y => ?_⟩
      show hasM mk y = _
      rw [hm]
      by_cases e1 : y = k + 1
      · subst e1; simp [hd]
      · by_cases e2 : y ≤ k
        · rw [decide_eq_true e2, decide_eq_true (show y ≤ k + 1 by omega)]
        · rw [decide_eq_false e2, decide_eq_false (show ¬ y ≤ k + 1 by omega)]
/-- Done in order, it comes to the same. -/
theorem rp_same {l : List En} {n : Int} (hl : l.length ≤ 40) (hge : ∀ e ∈ chN l 1 n l.length, GE e) {m : Mk} {s s0 : ByteArray} (h0 : s0.size = 64) (t0 : List (Int × Int)) (h : St (chN l 1 n l.length) s0 m s) : (rpI ((chN l 1 n l.length).filter fun e => hasM m e.i.toNat) (⟨0, 0⟩, s0, t0)).1 = m ∧ (rpI ((chN l 1 n l.length).filter fun e => hasM m e.i.toNat) (⟨0, 0⟩, s0, t0)).2.1 = s := by
  obtain ⟨g, hs, hm⟩ := rp_done hl hge (m := m) h0 t0 l.length (Nat.le_refl _)
  have hcl := chN_len l 1 n l.length (Nat.le_refl _)
  rw [List.take_of_length_le (by omega)] at g hs hm
  refine ⟨gd_eq g h.g fun y => ?_, by rw [hs, h.s, hcl]⟩
  rw [hm]
  by_cases hy : y = 0
  · subst hy; rw [has_zero]; rfl
  · rw [decide_eq_false hy, Bool.false_or]
    cases hh : hasM m y
    · simp
    · have := h.u y hh
      rw [hcl] at this
      rw [decide_eq_true this]; rfl
end Go.Proofs.YtlnafekmiidpkaaDoor.S
