/- The chapter's example on tables of done requests. -/
import Derived.Test.YtapfediapkklnaaProg
import Derived.Test.YtapfediapkklnaaK
import Derived.WalkLawsBesides
import Derived.Handy
import Derived.Lib.Hide
import Derived.Test.YtapfediapkklnaaDone
namespace Go.Proofs.Ytapfediapkklnaa
open Go.RowKit K
attribute [local go_sem] kmax2 kmin2 kmax_two kmin_two
set_option linter.unusedSimpArgs false
set_option linter.unusedVariables false
theorem u16_bits (op : BinOp) (x y : Int) : U16 (bits op .u16 x y) := by
  unfold bits U16
  rw [IntKind.wrap_u16]
  omega
theorem withC_ok {t b r : Int} (ht : U64 t) (hr : U64 r) : U64 (withC t b r).1 ∧ U16 (withC t b r).2 := by
  unfold withC
  split
  · exact ⟨hr, u16_bits .or _ 1⟩
  · exact ⟨ht, u16_bits .or b _⟩
theorem setC_ok {t : List (Int × Int)} (h : TOk t) {c : Int} {x : Int × Int} (hx : U64 x.1 ∧ U16 x.2) : TOk (setC t c x) :=
  ⟨by simp [setC, h.len], fun y hy => by
    rcases List.mem_or_eq_of_mem_set hy with h1 | h1
    · exact h.rng y h1
    · rw [h1]; exact hx⟩
theorem addT_ok {t : List (Int × Int)} (h : TOk t) {c r : Int} (hr : U64 r) : TOk (addT t c r).1 := by
  unfold addT
  split
  · exact setC_ok h (withC_ok (gt_ok h c).1 hr)
  · exact h
def tz : List (Int × Int) := List.replicate 8 (0, 0)
theorem tz_ok : TOk tz := ⟨rfl, fun x hx => by simp [tz] at hx; subst hx; simp [U64, U16]⟩
def t1 : List (Int × Int) := (addT tz 2 5).1
def t2 : List (Int × Int) := (addT t1 2 3).1
def t3 : List (Int × Int) := (addT t2 2 30).1
theorem t1_ok : TOk t1 := addT_ok tz_ok (by simp [U64])
theorem t2_ok : TOk t2 := addT_ok t1_ok (by simp [U64])
theorem t3_ok : TOk t3 := addT_ok t2_ok (by simp [U64])
theorem u64_3 : U64 3 := by simp [U64]
theorem u64_4 : U64 4 := by simp [U64]
theorem u64_5 : U64 5 := by simp [U64]
theorem u64_30 : U64 30 := by simp [U64]
def zlit : Array Value := #[Value.int IntKind.u64 0, Value.int IntKind.u16 0, Value.int IntKind.u64 0, Value.int IntKind.u16 0, Value.int IntKind.u64 0, Value.int IntKind.u16 0, Value.int IntKind.u64 0, Value.int IntKind.u16 0, Value.int IntKind.u64 0, Value.int IntKind.u16 0, Value.int IntKind.u64 0, Value.int IntKind.u16 0, Value.int IntKind.u64 0, Value.int IntKind.u16 0, Value.int IntKind.u64 0, Value.int IntKind.u16 0]
theorem cells_tz : cells tz = zlit := rfl
set_option maxHeartbeats 1000000 in
theorem lives_walk (T1 T2 T3 : List (Int × Int)) (k1 : TOk T1) (k2 : TOk T2) (k3 : TOk T3) (f1 : hasT T2 2 3 = true) (f2 : hasT T2 2 5 = true) (f3 : hasT T2 2 4 = false) (f4 : oldT T3 2 3 = true) (f5 : oldT T3 2 5 = true) (f6 : hasT T3 2 30 = true)
    (C1 : Hid (∀ w, Calls Try.prog 11 #[.agg zlit, .int .u64 2, .int .u64 5] w fun e w' => e = .returned (.tuple #[.agg (cells T1), .bool true]) ∧ Below w.heap.size w w'))
    (C2 : Hid (∀ w, Calls Try.prog 11 #[.agg (cells T1), .int .u64 2, .int .u64 3] w fun e w' => e = .returned (.tuple #[.agg (cells T2), .bool true]) ∧ Below w.heap.size w w'))
    (C3 : Hid (∀ w, Calls Try.prog 11 #[.agg (cells T2), .int .u64 2, .int .u64 30] w fun e w' => e = .returned (.tuple #[.agg (cells T3), .bool true]) ∧ Below w.heap.size w w'))
    (w : World) : Calls Try.prog 17 #[] w fun e w' => e = .returned (.bool true) ∧ Below w.heap.size w w' := by
  have HA := Hp.start w
  unfold zlit at C1
  go_enter Try.func17, Try.ntmps17
  go_wp2_with (first | ((with_reducible refine g_go ?_ ?_); exact rfl) | (first | (with_reducible refine kn0 HA ?_; clear HA; intro g0 wn hg HA; (try rw [← hg]); clear hg) | (with_reducible refine kn1 HA ?_; clear HA; intro g1 wn hg HA; (try rw [← hg]); clear hg) | (with_reducible refine kn2 HA ?_; clear HA; intro g2 wn hg HA; (try rw [← hg]); clear hg) | (with_reducible refine kn3 HA ?_; clear HA; intro g3 wn hg HA; (try rw [← hg]); clear hg) | (with_reducible refine kn4 HA ?_; clear HA; intro g4 wn hg HA; (try rw [← hg]); clear hg) | (with_reducible refine kn5 HA ?_; clear HA; intro g5 wn hg HA; (try rw [← hg]); clear hg) | (with_reducible refine kn6 HA ?_; clear HA; intro g6 wn hg HA; (try rw [← hg]); clear hg)) | (go_at_call 11; (with_reducible refine (C1.out _).mono ?_); rintro e wn ⟨rfl, hb⟩; have HA1 := HA.call hb; clear HA hb; have HA := HA1; clear HA1) | (go_at_call 11; (with_reducible refine (C2.out _).mono ?_); rintro e wn ⟨rfl, hb⟩; have HA1 := HA.call hb; clear HA hb; have HA := HA1; clear HA1) | (go_at_call 11; (with_reducible refine (C3.out _).mono ?_); rintro e wn ⟨rfl, hb⟩; have HA1 := HA.call hb; clear HA hb; have HA := HA1; clear HA1) | ((first | (with_reducible refine is_store 27 _ _ ?_) | (with_reducible refine is_one ?_)); refine k_over HA 0 rfl 27 _ _ rfl rfl rfl rfl _ rfl (cells_sz k1.len) ((cells_size k1.len).trans rfl) (cells_one _) ?_; clear HA; intro wn HA; (try simp only [List.set_cons_zero, List.set_cons_succ] at HA)) | ((first | (with_reducible refine is_store 27 _ _ ?_) | (with_reducible refine is_one ?_)); refine k_over HA 0 rfl 27 _ _ rfl rfl rfl rfl _ rfl (cells_sz k2.len) ((cells_size k2.len).trans (cells_size k1.len).symm) (cells_one _) ?_; clear HA; intro wn HA; (try simp only [List.set_cons_zero, List.set_cons_succ] at HA)) | ((first | (with_reducible refine is_store 27 _ _ ?_) | (with_reducible refine is_one ?_)); refine k_over HA 1 rfl 27 _ _ rfl rfl rfl rfl _ rfl (cells_sz k3.len) ((cells_size k3.len).trans rfl) (cells_one _) ?_; clear HA; intro wn HA; (try simp only [List.set_cons_zero, List.set_cons_succ] at HA)) | ((first | (with_reducible refine is_load 27 _ ?_) | (with_reducible refine is_one ?_)); refine k_row HA 0 rfl 27 _ rfl rfl rfl _ Try.underlying27 rfl (cells_sz k1.len) ?_) | ((first | (with_reducible refine is_load 27 _ ?_) | (with_reducible refine is_one ?_)); refine k_row HA 0 rfl 27 _ rfl rfl rfl _ Try.underlying27 rfl (cells_sz k2.len) ?_) | ((first | (with_reducible refine is_load 27 _ ?_) | (with_reducible refine is_one ?_)); refine k_row HA 1 rfl 27 _ rfl rfl rfl _ Try.underlying27 rfl (cells_sz k3.len) ?_) | (go_at_call 13; (with_reducible refine (hasT_any T2 k2 2 3 u64_3 _).mono ?_); rintro e wn ⟨rfl, hb⟩; have HA1 := HA.call hb; clear HA hb; have HA := HA1; clear HA1) | (go_at_call 13; (with_reducible refine (hasT_any T2 k2 2 5 u64_5 _).mono ?_); rintro e wn ⟨rfl, hb⟩; have HA1 := HA.call hb; clear HA hb; have HA := HA1; clear HA1) | (go_at_call 13; (with_reducible refine (hasT_any T2 k2 2 4 u64_4 _).mono ?_); rintro e wn ⟨rfl, hb⟩; have HA1 := HA.call hb; clear HA hb; have HA := HA1; clear HA1) | (go_at_call 15; (with_reducible refine (oldT_any T3 k3 2 3 u64_3 _).mono ?_); rintro e wn ⟨rfl, hb⟩; have HA1 := HA.call hb; clear HA hb; have HA := HA1; clear HA1) | (go_at_call 15; (with_reducible refine (oldT_any T3 k3 2 5 u64_5 _).mono ?_); rintro e wn ⟨rfl, hb⟩; have HA1 := HA.call hb; clear HA hb; have HA := HA1; clear HA1) | (go_at_call 13; (with_reducible refine (hasT_any T3 k3 2 30 u64_30 _).mono ?_); rintro e wn ⟨rfl, hb⟩; have HA1 := HA.call hb; clear HA hb; have HA := HA1; clear HA1))
  go_ret
  exact ⟨rfl, HA.below⟩
theorem lives_any (w : World) : Calls Try.prog 17 #[] w fun e w' => e = .returned (.bool true) ∧ Below w.heap.size w w' := by
  have e1 : (addT tz 2 5).2 = true := by decide +kernel
  have e2 : (addT t1 2 3).2 = true := by decide +kernel
  have e3 : (addT t2 2 30).2 = true := by decide +kernel
  have c1 := fun w => add_any tz tz_ok 2 5 u64_5 w
  have c2 := fun w => add_any t1 t1_ok 2 3 u64_3 w
  have c3 := fun w => add_any t2 t2_ok 2 30 u64_30 w
  rw [e1, cells_tz] at c1
  rw [e2] at c2
  rw [e3] at c3
  exact lives_walk t1 t2 t3 t1_ok t2_ok t3_ok (by decide +kernel) (by decide +kernel) (by decide +kernel) (by decide +kernel) (by decide +kernel) (by decide +kernel) (Lib.hid c1) (Lib.hid c2) (Lib.hid c3) w
end Go.Proofs.Ytapfediapkklnaa
