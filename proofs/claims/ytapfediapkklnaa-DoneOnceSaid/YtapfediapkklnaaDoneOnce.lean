/- The walk of the law DoneOnce. -/
import Derived.Test.YtapfediapkklnaaProg
import Derived.Test.YtapfediapkklnaaK
import Derived.WalkLawsBesides
import Derived.Handy
import Derived.Lib.Hide
import Derived.Test.YtapfediapkklnaaDonePure
import Derived.Test.YtapfediapkklnaaDoneLives
namespace Go.Proofs.Ytapfediapkklnaa
open Go.RowKit K
attribute [local go_sem] kmax2 kmin2 kmax_two kmin_two
set_option linter.unusedSimpArgs false
set_option linter.unusedVariables false
theorem once_no {t : List (Int × Int)} (ht : TOk t) {c r : Int} (hr : U64 r) (h : (addT t c r).2 = false) : (addT t c r).1 = t ∧ (hasT t c r = true ∨ oldT t c r = true ∨ c < 1 ∨ 8 < c) := by
  obtain ⟨h64, h16⟩ := gt_ok ht c
  unfold addT at h ⊢
  by_cases hw : withinB c = true
  · obtain ⟨h1, h2⟩ := within_iff.1 hw
    cases ho : oldB (gt t c).1 r with
    | true => exact ⟨by simp, .inr (.inl (by simp [oldT, hw, ho]))⟩
    | false =>
      have hh := withC_has h64 hr h16 ho
      simp only [hw, ho, Bool.not_false, Bool.and_self, if_true, Bool.not_eq_false', decide_eq_true_eq] at h ⊢
      refine ⟨h, .inl ?_⟩
      have e2 := congrArg (fun x => gt x c) h
      simp only [gt_set ht.len h1 h2] at e2
      have h3 := hh.2
      rw [e2] at h3
      simp [hasT, hw, h3]
  · have hw' : withinB c = false := by simpa using hw
    refine ⟨by simp [hw'], .inr (.inr ?_)⟩
    rw [within_iff] at hw
    omega
theorem once_yes {t : List (Int × Int)} (ht : TOk t) {c r : Int} (hr : U64 r) (h : (addT t c r).2 = true) :
    (addT t c r).1 ≠ t ∧ hasT t c r = false ∧ oldT t c r = false ∧ hasT (addT t c r).1 c r = true ∧ addT (addT t c r).1 c r = ((addT t c r).1, false) := by
  obtain ⟨h64, h16⟩ := gt_ok ht c
  have hu := addT_ok ht hr (c := c)
  by_cases hw : withinB c = true
  · obtain ⟨h1, h2⟩ := within_iff.1 hw
    cases ho : oldB (gt t c).1 r with
    | true => simp [addT, ho] at h
    | false =>
      have hh := withC_has h64 hr h16 ho
      have e : (addT t c r).1 = setC t c (withC (gt t c).1 (gt t c).2 r) := by simp [addT, hw, ho]
      have hne : setC t c (withC (gt t c).1 (gt t c).2 r) ≠ t := by simpa [addT, hw, ho] using h
      have hu' : hasT (addT t c r).1 c r = true := by
        rw [e]
        unfold hasT
        rw [gt_set ht.len h1 h2, hw, hh.2]
        rfl
      refine ⟨by rw [e]; exact hne, ?_, by simp [oldT, ho], hu', ?_⟩
      · cases hb : hasB (gt t c).1 (gt t c).2 r with
        | true =>
          have e2 := hh.1 hb
          have e3 : withC (gt t c).1 (gt t c).2 r = gt t c := e2
          rw [e3, set_same ht.len h1 h2] at hne
          exact absurd rfl hne
        | false => simp [hasT, hb]
      · generalize hU : (addT t c r).1 = u at hu' hu ⊢
        obtain ⟨g64, g16⟩ := gt_ok hu c
        have hb : hasB (gt u c).1 (gt u c).2 r = true := by simpa [hasT, hw] using hu'
        have ho2 : oldB (gt u c).1 r = false := by
          simp only [hasB, Bool.and_eq_true, decide_eq_true_eq] at hb
          simp only [oldB, Bool.or_eq_false_iff, Bool.and_eq_false_iff, decide_eq_false_iff_not]
          omega
        have e2 := (withC_has g64 hr g16 ho2).1 hb
        have e3 : withC (gt u c).1 (gt u c).2 r = gt u c := e2
        unfold addT
        rw [e3, set_same hu.len h1 h2]
        simp
  · have hw' : withinB c = false := by simpa using hw
    simp [addT, hw'] at h

set_option maxRecDepth 100000 in
set_option maxHeartbeats 2000000 in
theorem once_walk_no (t : List (Int × Int)) (ht : TOk t) (c r : Int) (hr : U64 r) (h : (addT t c r).2 = false) (w : World) :
    Calls Try.prog 5 #[.agg (cells t), .int .u64 c, .int .u64 r] w fun e w' => e = .returned (.bool true) ∧ Below w.heap.size w w' := by
  have HA := Hp.start w
  obtain ⟨e1, hor⟩ := once_no ht hr h
  have c1 := fun w => add_any t ht c r hr w
  rw [e1, h] at c1
  have C1 := Lib.hid c1
  have hq := eq_table ht.len ht.len
  clear c1 e1 h
  cases hh : hasT t c r with
  | true =>
    clear hor
    go_enter Try.func5, Try.ntmps5
    go_wp2_with (first | (first | (with_reducible refine kn0 HA ?_; clear HA; intro g0 wn hg HA; (try rw [← hg]); clear hg) | (with_reducible refine kn1 HA ?_; clear HA; intro g1 wn hg HA; (try rw [← hg]); clear hg) | (with_reducible refine kn2 HA ?_; clear HA; intro g2 wn hg HA; (try rw [← hg]); clear hg) | (with_reducible refine kn3 HA ?_; clear HA; intro g3 wn hg HA; (try rw [← hg]); clear hg) | (with_reducible refine kn4 HA ?_; clear HA; intro g4 wn hg HA; (try rw [← hg]); clear hg) | (with_reducible refine kn5 HA ?_; clear HA; intro g5 wn hg HA; (try rw [← hg]); clear hg) | (with_reducible refine kn6 HA ?_; clear HA; intro g6 wn hg HA; (try rw [← hg]); clear hg)) | (refine k_row HA 0 rfl 27 _ rfl rfl rfl _ Try.underlying27 rfl (cells_sz ht.len) ?_) | (refine k_row HA 1 rfl 27 _ rfl rfl rfl _ Try.underlying27 rfl (cells_sz ht.len) ?_) | (go_at_call 11; (with_reducible refine (C1.out _).mono ?_); rintro e wn ⟨rfl, hb⟩; have HA1 := HA.call hb; clear HA hb; have HA := HA1; clear HA1) | (refine k_over HA 1 rfl 27 _ _ rfl rfl rfl rfl _ rfl (cells_sz ht.len) ((cells_size ht.len).trans rfl) (cells_one _) ?_; clear HA; intro wn HA; (try simp only [List.set_cons_zero, List.set_cons_succ] at HA)) | (go_at_call 13; (with_reducible refine (hasT_any t ht c r hr _).mono ?_); rintro e wn ⟨rfl, hb⟩; have HA1 := HA.call hb; clear HA hb; have HA := HA1; clear HA1) | (go_at_call 15; (with_reducible refine (oldT_any t ht c r hr _).mono ?_); rintro e wn ⟨rfl, hb⟩; have HA1 := HA.call hb; clear HA hb; have HA := HA1; clear HA1) | (go_at_call 17; (with_reducible refine (lives_any _).mono ?_); rintro e wn ⟨rfl, hb⟩; have HA1 := HA.call hb; clear HA hb; have HA := HA1; clear HA1))
    go_ret
    exact ⟨rfl, HA.below⟩
  | false =>
    cases ho : oldT t c r with
    | true =>
      clear hor
      go_enter Try.func5, Try.ntmps5
      go_wp2_with (first | (first | (with_reducible refine kn0 HA ?_; clear HA; intro g0 wn hg HA; (try rw [← hg]); clear hg) | (with_reducible refine kn1 HA ?_; clear HA; intro g1 wn hg HA; (try rw [← hg]); clear hg) | (with_reducible refine kn2 HA ?_; clear HA; intro g2 wn hg HA; (try rw [← hg]); clear hg) | (with_reducible refine kn3 HA ?_; clear HA; intro g3 wn hg HA; (try rw [← hg]); clear hg) | (with_reducible refine kn4 HA ?_; clear HA; intro g4 wn hg HA; (try rw [← hg]); clear hg) | (with_reducible refine kn5 HA ?_; clear HA; intro g5 wn hg HA; (try rw [← hg]); clear hg) | (with_reducible refine kn6 HA ?_; clear HA; intro g6 wn hg HA; (try rw [← hg]); clear hg)) | (refine k_row HA 0 rfl 27 _ rfl rfl rfl _ Try.underlying27 rfl (cells_sz ht.len) ?_) | (refine k_row HA 1 rfl 27 _ rfl rfl rfl _ Try.underlying27 rfl (cells_sz ht.len) ?_) | (go_at_call 11; (with_reducible refine (C1.out _).mono ?_); rintro e wn ⟨rfl, hb⟩; have HA1 := HA.call hb; clear HA hb; have HA := HA1; clear HA1) | (refine k_over HA 1 rfl 27 _ _ rfl rfl rfl rfl _ rfl (cells_sz ht.len) ((cells_size ht.len).trans rfl) (cells_one _) ?_; clear HA; intro wn HA; (try simp only [List.set_cons_zero, List.set_cons_succ] at HA)) | (go_at_call 13; (with_reducible refine (hasT_any t ht c r hr _).mono ?_); rintro e wn ⟨rfl, hb⟩; have HA1 := HA.call hb; clear HA hb; have HA := HA1; clear HA1) | (go_at_call 15; (with_reducible refine (oldT_any t ht c r hr _).mono ?_); rintro e wn ⟨rfl, hb⟩; have HA1 := HA.call hb; clear HA hb; have HA := HA1; clear HA1) | (go_at_call 17; (with_reducible refine (lives_any _).mono ?_); rintro e wn ⟨rfl, hb⟩; have HA1 := HA.call hb; clear HA hb; have HA := HA1; clear HA1))
      go_ret
      exact ⟨rfl, HA.below⟩
    | false =>
      have hc : c < 1 ∨ 8 < c := by
        rcases hor with h | h | h
        · rw [hh] at h; cases h
        · rw [ho] at h; cases h
        · exact h
      clear hor
      by_cases h1 : c < 1
      · clear hc
        have hd : decide (c < 1) = true := by simpa using h1
        go_enter Try.func5, Try.ntmps5
        go_wp2_with (first | (first | (with_reducible refine kn0 HA ?_; clear HA; intro g0 wn hg HA; (try rw [← hg]); clear hg) | (with_reducible refine kn1 HA ?_; clear HA; intro g1 wn hg HA; (try rw [← hg]); clear hg) | (with_reducible refine kn2 HA ?_; clear HA; intro g2 wn hg HA; (try rw [← hg]); clear hg) | (with_reducible refine kn3 HA ?_; clear HA; intro g3 wn hg HA; (try rw [← hg]); clear hg) | (with_reducible refine kn4 HA ?_; clear HA; intro g4 wn hg HA; (try rw [← hg]); clear hg) | (with_reducible refine kn5 HA ?_; clear HA; intro g5 wn hg HA; (try rw [← hg]); clear hg) | (with_reducible refine kn6 HA ?_; clear HA; intro g6 wn hg HA; (try rw [← hg]); clear hg)) | (refine k_row HA 0 rfl 27 _ rfl rfl rfl _ Try.underlying27 rfl (cells_sz ht.len) ?_) | (refine k_row HA 1 rfl 27 _ rfl rfl rfl _ Try.underlying27 rfl (cells_sz ht.len) ?_) | (go_at_call 11; (with_reducible refine (C1.out _).mono ?_); rintro e wn ⟨rfl, hb⟩; have HA1 := HA.call hb; clear HA hb; have HA := HA1; clear HA1) | (refine k_over HA 1 rfl 27 _ _ rfl rfl rfl rfl _ rfl (cells_sz ht.len) ((cells_size ht.len).trans rfl) (cells_one _) ?_; clear HA; intro wn HA; (try simp only [List.set_cons_zero, List.set_cons_succ] at HA)) | (go_at_call 13; (with_reducible refine (hasT_any t ht c r hr _).mono ?_); rintro e wn ⟨rfl, hb⟩; have HA1 := HA.call hb; clear HA hb; have HA := HA1; clear HA1) | (go_at_call 15; (with_reducible refine (oldT_any t ht c r hr _).mono ?_); rintro e wn ⟨rfl, hb⟩; have HA1 := HA.call hb; clear HA hb; have HA := HA1; clear HA1) | (go_at_call 17; (with_reducible refine (lives_any _).mono ?_); rintro e wn ⟨rfl, hb⟩; have HA1 := HA.call hb; clear HA hb; have HA := HA1; clear HA1))
        go_ret
        exact ⟨rfl, HA.below⟩
      · have h8 : 8 < c := by omega
        have hd : decide (c < 1) = false := by simp; omega
        have hd8 : decide (8 < c) = true := by simpa using h8
        clear hc
        go_enter Try.func5, Try.ntmps5
        go_wp2_with (first | (first | (with_reducible refine kn0 HA ?_; clear HA; intro g0 wn hg HA; (try rw [← hg]); clear hg) | (with_reducible refine kn1 HA ?_; clear HA; intro g1 wn hg HA; (try rw [← hg]); clear hg) | (with_reducible refine kn2 HA ?_; clear HA; intro g2 wn hg HA; (try rw [← hg]); clear hg) | (with_reducible refine kn3 HA ?_; clear HA; intro g3 wn hg HA; (try rw [← hg]); clear hg) | (with_reducible refine kn4 HA ?_; clear HA; intro g4 wn hg HA; (try rw [← hg]); clear hg) | (with_reducible refine kn5 HA ?_; clear HA; intro g5 wn hg HA; (try rw [← hg]); clear hg) | (with_reducible refine kn6 HA ?_; clear HA; intro g6 wn hg HA; (try rw [← hg]); clear hg)) | (refine k_row HA 0 rfl 27 _ rfl rfl rfl _ Try.underlying27 rfl (cells_sz ht.len) ?_) | (refine k_row HA 1 rfl 27 _ rfl rfl rfl _ Try.underlying27 rfl (cells_sz ht.len) ?_) | (go_at_call 11; (with_reducible refine (C1.out _).mono ?_); rintro e wn ⟨rfl, hb⟩; have HA1 := HA.call hb; clear HA hb; have HA := HA1; clear HA1) | (refine k_over HA 1 rfl 27 _ _ rfl rfl rfl rfl _ rfl (cells_sz ht.len) ((cells_size ht.len).trans rfl) (cells_one _) ?_; clear HA; intro wn HA; (try simp only [List.set_cons_zero, List.set_cons_succ] at HA)) | (go_at_call 13; (with_reducible refine (hasT_any t ht c r hr _).mono ?_); rintro e wn ⟨rfl, hb⟩; have HA1 := HA.call hb; clear HA hb; have HA := HA1; clear HA1) | (go_at_call 15; (with_reducible refine (oldT_any t ht c r hr _).mono ?_); rintro e wn ⟨rfl, hb⟩; have HA1 := HA.call hb; clear HA hb; have HA := HA1; clear HA1) | (go_at_call 17; (with_reducible refine (lives_any _).mono ?_); rintro e wn ⟨rfl, hb⟩; have HA1 := HA.call hb; clear HA hb; have HA := HA1; clear HA1))
        go_ret
        exact ⟨rfl, HA.below⟩

set_option maxRecDepth 100000 in
set_option maxHeartbeats 2000000 in
theorem once_walk_yes (t : List (Int × Int)) (ht : TOk t) (c r : Int) (hr : U64 r) (h : (addT t c r).2 = true) (w : World) :
    Calls Try.prog 5 #[.agg (cells t), .int .u64 c, .int .u64 r] w fun e w' => e = .returned (.bool true) ∧ Below w.heap.size w w' := by
  have HA := Hp.start w
  obtain ⟨hne, hh, ho, hhu, hadd⟩ := once_yes ht hr h
  have hu := addT_ok ht hr (c := c)
  have c1 := fun w => add_any t ht c r hr w
  have c2 := fun w => add_any (addT t c r).1 hu c r hr w
  rw [h] at c1
  rw [hadd] at c2
  generalize (addT t c r).1 = u at hne hhu hu c1 c2
  have C1 := Lib.hid c1
  have C2 := Lib.hid c2
  have hq := eq_table hu.len ht.len
  have hd : decide (u = t) = false := by simpa using hne
  rw [hd] at hq
  clear c1 c2 hadd h hne hd
  go_enter Try.func5, Try.ntmps5
  go_wp2_with (first | (first | (with_reducible refine kn0 HA ?_; clear HA; intro g0 wn hg HA; (try rw [← hg]); clear hg) | (with_reducible refine kn1 HA ?_; clear HA; intro g1 wn hg HA; (try rw [← hg]); clear hg) | (with_reducible refine kn2 HA ?_; clear HA; intro g2 wn hg HA; (try rw [← hg]); clear hg) | (with_reducible refine kn3 HA ?_; clear HA; intro g3 wn hg HA; (try rw [← hg]); clear hg) | (with_reducible refine kn4 HA ?_; clear HA; intro g4 wn hg HA; (try rw [← hg]); clear hg) | (with_reducible refine kn5 HA ?_; clear HA; intro g5 wn hg HA; (try rw [← hg]); clear hg) | (with_reducible refine kn6 HA ?_; clear HA; intro g6 wn hg HA; (try rw [← hg]); clear hg)) | (refine k_row HA 0 rfl 27 _ rfl rfl rfl _ Try.underlying27 rfl (cells_sz ht.len) ?_) | (refine k_row HA 1 rfl 27 _ rfl rfl rfl _ Try.underlying27 rfl (cells_sz hu.len) ?_) | (go_at_call 11; (with_reducible refine (C1.out _).mono ?_); rintro e wn ⟨rfl, hb⟩; have HA1 := HA.call hb; clear HA hb; have HA := HA1; clear HA1) | (go_at_call 11; (with_reducible refine (C2.out _).mono ?_); rintro e wn ⟨rfl, hb⟩; have HA1 := HA.call hb; clear HA hb; have HA := HA1; clear HA1) | (refine k_over HA 1 rfl 27 _ _ rfl rfl rfl rfl _ rfl (cells_sz hu.len) ((cells_size hu.len).trans rfl) (cells_one _) ?_; clear HA; intro wn HA; (try simp only [List.set_cons_zero, List.set_cons_succ] at HA)) | (refine k_over HA 2 rfl 27 _ _ rfl rfl rfl rfl _ rfl (cells_sz hu.len) ((cells_size hu.len).trans rfl) (cells_one _) ?_; clear HA; intro wn HA; (try simp only [List.set_cons_zero, List.set_cons_succ] at HA)) | (go_at_call 13; (with_reducible refine (hasT_any t ht c r hr _).mono ?_); rintro e wn ⟨rfl, hb⟩; have HA1 := HA.call hb; clear HA hb; have HA := HA1; clear HA1) | (go_at_call 15; (with_reducible refine (oldT_any t ht c r hr _).mono ?_); rintro e wn ⟨rfl, hb⟩; have HA1 := HA.call hb; clear HA hb; have HA := HA1; clear HA1) | (go_at_call 13; (with_reducible refine (hasT_any u hu c r hr _).mono ?_); rintro e wn ⟨rfl, hb⟩; have HA1 := HA.call hb; clear HA hb; have HA := HA1; clear HA1) | (go_at_call 17; (with_reducible refine (lives_any _).mono ?_); rintro e wn ⟨rfl, hb⟩; have HA1 := HA.call hb; clear HA hb; have HA := HA1; clear HA1))
  go_ret
  exact ⟨rfl, HA.below⟩
theorem once_walk (t : List (Int × Int)) (ht : TOk t) (c r : Int) (hr : U64 r) (w : World) :
    Calls Try.prog 5 #[.agg (cells t), .int .u64 c, .int .u64 r] w fun e w' => e = .returned (.bool true) ∧ Below w.heap.size w w' := by
  cases h : (addT t c r).2 with
  | true => exact once_walk_yes t ht c r hr h w
  | false => exact once_walk_no t ht c r hr h w
end Go.Proofs.Ytapfediapkklnaa
