/- The walk of the law DoneTells. -/
import Derived.Test.YtapfediapkklnaaProg
import Derived.Test.YtapfediapkklnaaK
import Derived.WalkLawsBesides
import Derived.Handy
import Derived.Lib.Hide
import Derived.Test.YtapfediapkklnaaDonePure
import Derived.Test.YtapfediapkklnaaDoneLives
namespace Go.Proofs.Ytapfediapkklnaa
open Go.RowKit K
attribute [local go_sem] kmax2 kmin2 kmax_two kmin_two
set_option linter.unusedSimpArgs false
set_option linter.unusedVariables false
theorem rhasT_is (t : List (Int × Int)) (ht : TOk t) (c r : Int) (hr : U64 r) (w : World) :
    Calls Try.prog 14 #[.agg (cells t), .int .u64 c, .int .u64 r] w fun e w' => e = .returned (.bool (hasT t c r)) ∧ Below w.heap.size w w' := by
  rw [← hasT_eq ht]; exact rhasT_any t ht c r hr w
theorem radd_is (t : List (Int × Int)) (ht : TOk t) (c r : Int) (hr : U64 r) (w : World) :
    Calls Try.prog 12 #[.agg (cells t), .int .u64 c, .int .u64 r] w fun e w' => e = .returned (.tuple #[.agg (cells (addT t c r).1), .bool (addT t c r).2]) ∧ Below w.heap.size w w' := by
  rw [← addT_eq ht hr]; exact radd_any t ht c r hr w
theorem eq_rclient (x y : Int × Int) (w : World) : (Op.equalIn 9999 28 (.agg #[.int .u64 x.1, .int .u16 x.2]) (.agg #[.int .u64 y.1, .int .u16 y.2])).run Try.prog w = .ok (decide (x = y)) w := by
  have e : decide (x = y) = (x.1 == y.1 && x.2 == y.2) := by
    rw [Bool.eq_iff_iff]
    simp [Prod.ext_iff]
  rw [e]
  simp [go_sem]
  by_cases h1 : x.1 = y.1 <;> by_cases h2 : x.2 = y.2 <;> simp [h1, h2]
theorem eq_rtable {t u : List (Int × Int)} (ht : t.length = 8) (hu : u.length = 8) (w : World) : (Op.equalIn 10000 30 (.agg (cells t)) (.agg (cells u))).run Try.prog w = .ok (decide (t = u)) w := by
  rw [← tcs_ext ht hu]
  refine eqIn_array w 9999 30 _ _ 8 28 2 Try.underlying30 sz28 (fun i => .agg #[.int .u64 (t.getD i (0, 0)).1, .int .u16 (t.getD i (0, 0)).2]) (fun i => .agg #[.int .u64 (u.getD i (0, 0)).1, .int .u16 (u.getD i (0, 0)).2]) _ (fun i hi => ?_) (fun i hi => ?_) (fun i _ => eq_rclient _ _ w)
  · rw [run_part_agg w _ _ Try.underlying28 rfl 2 sz28, cells_part ht i hi]
  · rw [run_part_agg w _ _ Try.underlying28 rfl 2 sz28, cells_part hu i hi]

set_option maxRecDepth 100000 in
set_option maxHeartbeats 4000000 in
theorem tells_walk (t : List (Int × Int)) (ht : TOk t) (c r : Int) (hr : U64 r) (w : World) :
    Calls Try.prog 3 #[.agg (cells t), .int .u64 c, .int .u64 r] w fun e w' => e = .returned (.bool true) ∧ Below w.heap.size w w' := by
  have HA := Hp.start w
  have hu := addT_ok ht hr (c := c)
  have c1 := fun w => add_any t ht c r hr w
  have c2 := fun w => radd_is t ht c r hr w
  obtain ⟨u, hue⟩ : ∃ u, u = (addT t c r).1 := ⟨_, rfl⟩
  obtain ⟨a, hae⟩ : ∃ a, a = (addT t c r).2 := ⟨_, rfl⟩
  rw [← hue] at hu
  rw [← hue, ← hae] at c1 c2
  have C1 := Lib.hid c1
  have C2 := Lib.hid c2
  have hq := eq_rtable hu.len hu.len
  clear c1 c2 hue hae
  go_enter Try.func3, Try.ntmps3
  go_wp2_with (first | (first | (with_reducible refine kn0 HA ?_; clear HA; intro g0 wn hg HA; (try rw [← hg]); clear hg) | (with_reducible refine kn1 HA ?_; clear HA; intro g1 wn hg HA; (try rw [← hg]); clear hg) | (with_reducible refine kn2 HA ?_; clear HA; intro g2 wn hg HA; (try rw [← hg]); clear hg) | (with_reducible refine kn3 HA ?_; clear HA; intro g3 wn hg HA; (try rw [← hg]); clear hg) | (with_reducible refine kn4 HA ?_; clear HA; intro g4 wn hg HA; (try rw [← hg]); clear hg) | (with_reducible refine kn5 HA ?_; clear HA; intro g5 wn hg HA; (try rw [← hg]); clear hg) | (with_reducible refine kn6 HA ?_; clear HA; intro g6 wn hg HA; (try rw [← hg]); clear hg)) | (refine k_row HA 0 rfl 27 _ rfl rfl rfl _ Try.underlying27 rfl (cells_sz ht.len) ?_) | (refine k_row HA 1 rfl 30 _ rfl rfl rfl _ Try.underlying30 rfl (cells_szR ht.len) ?_) | (go_at_call 10; (with_reducible refine (plain_any t ht _).mono ?_); rintro e wn ⟨rfl, hb⟩; have HA1 := HA.call hb; clear HA hb; have HA := HA1; clear HA1) | (go_at_call 11; (with_reducible refine (C1.out _).mono ?_); rintro e wn ⟨rfl, hb⟩; have HA1 := HA.call hb; clear HA hb; have HA := HA1; clear HA1) | (go_at_call 12; (with_reducible refine (C2.out _).mono ?_); rintro e wn ⟨rfl, hb⟩; have HA1 := HA.call hb; clear HA hb; have HA := HA1; clear HA1) | (refine k_over HA 1 rfl 30 _ _ rfl rfl rfl rfl _ rfl (cells_szR ht.len) ((cells_size ht.len).trans rfl) (cells_one _) ?_; clear HA; intro wn HA; (try simp only [List.set_cons_zero, List.set_cons_succ] at HA)) | (refine k_over HA 2 rfl 27 _ _ rfl rfl rfl rfl _ rfl (cells_sz hu.len) ((cells_size hu.len).trans rfl) (cells_one _) ?_; clear HA; intro wn HA; (try simp only [List.set_cons_zero, List.set_cons_succ] at HA)) | (refine k_over HA 3 rfl 30 _ _ rfl rfl rfl rfl _ rfl (cells_szR hu.len) ((cells_size hu.len).trans rfl) (cells_one _) ?_; clear HA; intro wn HA; (try simp only [List.set_cons_zero, List.set_cons_succ] at HA)))
  refine k_reg0 HA _ [(28, .agg (cells t)), (29, .int .u64 c), (30, .int .u64 r), (31, .bool (hasT t c r)), (32, .agg (cells t)), (33, .int .u64 c), (34, .int .u64 r), (35, .bool (hasT t c r)), (36, .bool true), (37, .bool true), (38, .agg (cells t)), (39, .int .u64 c), (40, .int .u64 r), (41, .bool (oldT t c r)), (42, .agg (cells t)), (43, .int .u64 c), (44, .int .u64 r), (45, .bool (oldT t c r)), (46, .bool true), (47, .bool true), (48, .bool true), (49, .agg (cells u)), (50, .agg (cells u)), (51, .agg (cells u)), (52, .bool true), (53, .bool true), (54, .bool true), (55, .bool a), (56, .bool a), (57, .bool true), (58, .bool true), (59, .bool true), (60, .bool true), (61, .bool true), (6, .bool true)] mixed (by kernel_rfl) rfl rfl ?good ?rest
  case good =>
    intro i hi wn HA
    obtain ⟨j, hj⟩ : ∃ j, j = i := ⟨_, rfl⟩
    have hi' : i < 35 := hi
    have hd := (show i ∈ List.range 35 from List.mem_range.2 hi')
    simp only [List.range, List.range.loop, List.mem_cons, List.not_mem_nil, or_false] at hd
    clear hj hi hi'
    rcases hd with rfl | rfl | rfl | rfl | rfl | rfl | rfl | rfl | rfl | rfl | rfl | rfl | rfl | rfl | rfl | rfl | rfl | rfl | rfl | rfl | rfl | rfl | rfl | rfl | rfl | rfl | rfl | rfl | rfl | rfl | rfl | rfl | rfl | rfl | rfl
    all_goals (refine ⟨_, rfl, fun K hK => ?_⟩; simp only [fillL, Act.put, List.setIfInBounds_toArray, List.set_cons_zero, List.set_cons_succ] at hK ⊢)
    all_goals go_wp2_with (first | (refine k_row HA 0 rfl 27 _ rfl rfl rfl _ Try.underlying27 rfl (cells_sz ht.len) ?_) | (refine k_row HA 1 rfl 30 _ rfl rfl rfl _ Try.underlying30 rfl (cells_szR ht.len) ?_) | (refine k_row HA 2 rfl 27 _ rfl rfl rfl _ Try.underlying27 rfl (cells_sz hu.len) ?_) | (refine k_row HA 3 rfl 30 _ rfl rfl rfl _ Try.underlying30 rfl (cells_szR hu.len) ?_) | (go_at_call 13; (with_reducible refine (hasT_any t ht c r hr _).mono ?_); rintro e wn ⟨rfl, hb⟩; have HA1 := HA.call hb; clear HA hb; have HA := HA1; clear HA1) | (go_at_call 14; (with_reducible refine (rhasT_is t ht c r hr _).mono ?_); rintro e wn ⟨rfl, hb⟩; have HA1 := HA.call hb; clear HA hb; have HA := HA1; clear HA1) | (go_at_call 15; (with_reducible refine (oldT_any t ht c r hr _).mono ?_); rintro e wn ⟨rfl, hb⟩; have HA1 := HA.call hb; clear HA hb; have HA := HA1; clear HA1) | (go_at_call 16; (with_reducible refine (roldT_any t ht c r hr _).mono ?_); rintro e wn ⟨rfl, hb⟩; have HA1 := HA.call hb; clear HA hb; have HA := HA1; clear HA1) | (go_at_call 10; (with_reducible refine (plain_any u hu _).mono ?_); rintro e wn ⟨rfl, hb⟩; have HA1 := HA.call hb; clear HA hb; have HA := HA1; clear HA1) | (go_at_call 17; (with_reducible refine (lives_any _).mono ?_); rintro e wn ⟨rfl, hb⟩; have HA1 := HA.call hb; clear HA hb; have HA := HA1; clear HA1))
    all_goals (with_reducible exact hK _ _ rfl HA)
  case rest =>
    intro wn HA
    simp only [fillL, Act.put, List.setIfInBounds_toArray, List.set_cons_zero, List.set_cons_succ]
    go_wp2
    go_ret
    exact ⟨rfl, HA.below⟩
end Go.Proofs.Ytapfediapkklnaa
