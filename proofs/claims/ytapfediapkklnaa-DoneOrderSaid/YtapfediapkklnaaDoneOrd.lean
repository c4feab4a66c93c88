/- The walk of the law DoneOrder. -/
import Derived.Test.YtapfediapkklnaaProg
import Derived.Test.YtapfediapkklnaaK
import Derived.WalkLawsBesides
import Derived.Handy
import Derived.Lib.Hide
import Derived.Test.YtapfediapkklnaaDoneOrdP
namespace Go.Proofs.Ytapfediapkklnaa
open Go.RowKit K
attribute [local go_sem] kmax2 kmin2 kmax_two kmin_two
set_option linter.unusedSimpArgs false
set_option linter.unusedVariables false
theorem sz40 : (Try.prog.info? 40).map (·.size) = some 2 := by kernel_rfl
/-- The requests as they lie in the caller's memory. -/
structure Lies (w : World) (a : Option Addr) (n : Nat) (X : Nat → Int × Int) : Prop where
  rng : ∀ i, i < n → U64 (X i).1 ∧ U64 (X i).2
  at_ : ∀ i, i < n → ∃ ad, a = some ad ∧ ∀ (j : Nat) v, ([Value.int .u64 (X i).1, Value.int .u64 (X i).2] : List Value)[j]? = some v → w.cell? ((ad.add (i * 2)).add j) = some v
set_option maxRecDepth 100000 in
set_option maxHeartbeats 40000000 in
theorem order_walk (a : Option Addr) (n cap : Nat) (X : Nat → Int × Int) (w : World) (hl : Lies w a n X) :
    Calls Try.prog 4 #[.slice a n cap] w fun e w' => e = .returned (.bool true) ∧ Below w.heap.size w w' := by
  have HA := Hp.start w
  go_enter Try.func4, Try.ntmps4
  by_cases h60 : 60 < n
  · have hd : decide (60 < (n : Int)) = true := by simp; omega
    go_wp2_with (first | ((with_reducible refine g_go ?_ ?_); exact rfl) | (first | (with_reducible refine kn0 HA ?_; clear HA; intro g0 wn hg HA; (try rw [← hg]); clear hg) | (with_reducible refine kn1 HA ?_; clear HA; intro g1 wn hg HA; (try rw [← hg]); clear hg) | (with_reducible refine kn2 HA ?_; clear HA; intro g2 wn hg HA; (try rw [← hg]); clear hg) | (with_reducible refine kn3 HA ?_; clear HA; intro g3 wn hg HA; (try rw [← hg]); clear hg) | (with_reducible refine kn4 HA ?_; clear HA; intro g4 wn hg HA; (try rw [← hg]); clear hg) | (with_reducible refine kn5 HA ?_; clear HA; intro g5 wn hg HA; (try rw [← hg]); clear hg) | (with_reducible refine kn6 HA ?_; clear HA; intro g6 wn hg HA; (try rw [← hg]); clear hg)) | (go_at_call 17; (with_reducible refine (lives_any _).mono ?_); rintro e wn ⟨rfl, hb⟩; have HA1 := HA.call hb; clear HA hb; have HA := HA1; clear HA1))
    go_ret
    exact ⟨rfl, HA.below⟩
  · have hd : decide (60 < (n : Int)) = false := by simp; omega
    go_wp2_with (first | ((with_reducible refine g_go ?_ ?_); exact rfl) | (first | (with_reducible refine kn0 HA ?_; clear HA; intro g0 wn hg HA; (try rw [← hg]); clear hg) | (with_reducible refine kn1 HA ?_; clear HA; intro g1 wn hg HA; (try rw [← hg]); clear hg) | (with_reducible refine kn2 HA ?_; clear HA; intro g2 wn hg HA; (try rw [← hg]); clear hg) | (with_reducible refine kn3 HA ?_; clear HA; intro g3 wn hg HA; (try rw [← hg]); clear hg) | (with_reducible refine kn4 HA ?_; clear HA; intro g4 wn hg HA; (try rw [← hg]); clear hg) | (with_reducible refine kn5 HA ?_; clear HA; intro g5 wn hg HA; (try rw [← hg]); clear hg) | (with_reducible refine kn6 HA ?_; clear HA; intro g6 wn hg HA; (try rw [← hg]); clear hg)) | (go_at_call 17; (with_reducible refine (lives_any _).mono ?_); rintro e wn ⟨rfl, hb⟩; have HA1 := HA.call hb; clear HA hb; have HA := HA1; clear HA1))
    rw [show (#[Value.int IntKind.u64 0, Value.int IntKind.u16 0, Value.int IntKind.u64 0, Value.int IntKind.u16 0, Value.int IntKind.u64 0, Value.int IntKind.u16 0, Value.int IntKind.u64 0, Value.int IntKind.u16 0, Value.int IntKind.u64 0, Value.int IntKind.u16 0, Value.int IntKind.u64 0, Value.int IntKind.u16 0, Value.int IntKind.u64 0, Value.int IntKind.u16 0, Value.int IntKind.u64 0, Value.int IntKind.u16 0] : Array Value) = cells tz from rfl] at HA
    clear hd
    go_loopw [16] (fun v16 wr => ∃ (k : Nat) (A B : List (Int × Int)), k ≤ n ∧ v16 = .int .i64 k ∧ TInv A (fun x => ∃ i, i < k ∧ x = X i) ∧ TInv B (fun x => ∃ i, i < k ∧ x = X (n - 1 - i)) ∧ (∀ i, i < k → 1 ≤ (X i).1 ∧ (X i).1 ≤ 8) ∧
      Hp w.heap.size (fun _ => False) w wr [⟨g0, cells A, 27⟩, ⟨g1, cells B, 27⟩]) (fun v16 _ => n - (intOf v16).toNat)
    case atStart => exact ⟨0, tz, tz, by omega, rfl, TInv.zero.congr (by simp), TInv.zero.congr (by simp), by simp, HA⟩
    case round =>
      clear HA
      obtain ⟨k, A, B, hk, rfl, hA, hB, hb, HA⟩ := hrel
      by_cases hlt : k < n
      · obtain ⟨ad, rfl, hx⟩ := hl.at_ k hlt
        obtain ⟨ad', e', hy⟩ := hl.at_ (n - 1 - k) (by omega)
        injection e' with e'
        subst e'
        have ux := hl.rng k hlt
        have uy := hl.rng (n - 1 - k) (by omega)
        have e1 : decide ((k : Int) < n) = true := by simp; omega
        obtain ⟨x, hxe⟩ : ∃ x, x = X k := ⟨_, rfl⟩
        obtain ⟨y, hye⟩ : ∃ y, y = X (n - 1 - k) := ⟨_, rfl⟩
        rw [← hxe] at hx ux
        rw [← hye] at hy uy
        have HX := Lib.hid hxe
        have HY := Lib.hid hye
        clear hxe hye
        go_wp2
        refine k_regA2 HA 12 13 14 15 40 40 #[.int .u64 0, .int .u64 0] #[.int .u64 0, .int .u64 0] #[.int .u64 x.1, .int .u64 x.2] #[.int .u64 y.1, .int .u64 y.2] (fun p q => [(19, .slice (some ad) n cap), (20, .int .i64 k), (21, .pointer (some (ad.add (k * 2)))), (22, .agg #[.int .u64 x.1, .int .u64 x.2]), (23, .slice (some ad) n cap), (24, .slice (some ad) n cap), (25, .int .i64 n), (26, .int .i64 ((n : Int) - 1)), (27, .int .i64 k), (28, .int .i64 ((n : Int) - 1 - k)), (29, .pointer (some (ad.add ((n - 1 - k) * 2)))), (30, .agg #[.int .u64 y.1, .int .u64 y.2]), (6, p), (7, q)]) mixed (by kernel_rfl) (fun _ _ => rfl) (by decide) (by decide) ⟨_, rfl, by kernel_rfl, by kernel_rfl⟩ ⟨_, rfl, by kernel_rfl, by kernel_rfl⟩ ?other ?first ?second ?store1 ?store2 ?rest
        case other =>
          intro i hi hne v1 v2 wn HA
          have hi' : i < 16 := hi
          clear hi
          rcases (show i = 0 ∨ i = 1 ∨ i = 2 ∨ i = 3 ∨ i = 4 ∨ i = 5 ∨ i = 6 ∨ i = 7 ∨ i = 8 ∨ i = 9 ∨ i = 10 ∨ i = 11 by omega) with rfl | rfl | rfl | rfl | rfl | rfl | rfl | rfl | rfl | rfl | rfl | rfl
          all_goals refine ⟨_, rfl, fun K hK => ?_⟩
          all_goals simp only [fillL, Act.put, List.setIfInBounds_toArray, List.set_cons_zero, List.set_cons_succ] at hK ⊢
          all_goals go_wp2_with (first | ((with_reducible refine g_go ?_ ?_); exact rfl) | ((first | (with_reducible refine is_load 40 _ ?_) | (with_reducible refine is_one ?_)); refine k_segw 40 _ rfl rfl rfl _ Try.underlying40 rfl 2 sz40 [.int .u64 x.1, .int .u64 x.2] rfl (fun j v h => HA.was (hx j v h)) ?_) | ((first | (with_reducible refine is_load 40 _ ?_) | (with_reducible refine is_one ?_)); refine k_segw 40 _ rfl rfl rfl _ Try.underlying40 rfl 2 sz40 [.int .u64 y.1, .int .u64 y.2] rfl (fun j v h => HA.was (hy j v h)) ?_))
          all_goals first | (with_reducible exact hK) | exact hK
        case first =>
          refine ⟨_, rfl, fun K v1 v2 wn M HM hK => ?_⟩
          simp only [fillL, Act.put, List.setIfInBounds_toArray, List.set_cons_zero, List.set_cons_succ] at hK ⊢
          go_wp2
          exact HM.alloc _ _
        case second =>
          refine ⟨_, rfl, fun K v1 v2 wn M HM hK => ?_⟩
          simp only [fillL, Act.put, List.setIfInBounds_toArray, List.set_cons_zero, List.set_cons_succ] at hK ⊢
          go_wp2
          exact HM.alloc _ _
        case store1 =>
          clear HA
          refine ⟨_, rfl, fun K g2 g3 wn Y HA hK => ?_⟩
          simp only [fillL, Act.put, List.setIfInBounds_toArray, List.set_cons_zero, List.set_cons_succ, pt, List.cons_append, List.nil_append] at HA hK ⊢
          go_wp2_with (((first | (with_reducible refine is_store 40 _ _ ?_) | (with_reducible refine is_one ?_)); refine k_over HA 2 rfl 40 _ _ rfl rfl rfl rfl _ rfl sz40 rfl (one_ii _ _ _ _) ?_; clear HA; intro wn HA; (try simp only [List.set_cons_zero, List.set_cons_succ] at HA)))
          exact HA
        case store2 =>
          clear HA
          refine ⟨_, rfl, fun K g2 g3 wn Y HA hK => ?_⟩
          simp only [fillL, Act.put, List.setIfInBounds_toArray, List.set_cons_zero, List.set_cons_succ, pt, List.cons_append, List.nil_append] at HA hK ⊢
          go_wp2_with (((first | (with_reducible refine is_store 40 _ _ ?_) | (with_reducible refine is_one ?_)); refine k_over HA 3 rfl 40 _ _ rfl rfl rfl rfl _ rfl sz40 rfl (one_ii _ _ _ _) ?_; clear HA; intro wn HA; (try simp only [List.set_cons_zero, List.set_cons_succ] at HA)))
          exact HA
        case rest =>
          clear HA
          intro g2 g3 wn HA
          simp only [fillL, Act.put, List.setIfInBounds_toArray, List.set_cons_zero, List.set_cons_succ]
          simp only [pt, List.cons_append, List.nil_append] at HA ⊢
          by_cases b1 : x.1 < 1
          · have d1 : decide (x.1 < 1) = true := by simpa using b1
            go_wp2_with (first | ((with_reducible refine g_go ?_ ?_); exact rfl) | ((first | (with_reducible refine is_load 22 _ ?_) | (with_reducible refine is_one ?_)); refine k_load HA 2 rfl 22 _ rfl rfl _ rfl _ Try.underlying22 rfl _ rfl ?_) | ((first | (with_reducible refine is_load 22 _ ?_) | (with_reducible refine is_one ?_)); refine k_load HA 3 rfl 22 _ rfl rfl _ rfl _ Try.underlying22 rfl _ rfl ?_) | ((first | (with_reducible refine is_load 27 _ ?_) | (with_reducible refine is_one ?_)); refine k_row HA 0 rfl 27 _ rfl rfl rfl _ Try.underlying27 rfl (cells_sz hA.ok.len) ?_) | ((first | (with_reducible refine is_load 27 _ ?_) | (with_reducible refine is_one ?_)); refine k_row HA 1 rfl 27 _ rfl rfl rfl _ Try.underlying27 rfl (cells_sz hB.ok.len) ?_) | (go_at_call 15; (with_reducible refine (oldT_any A hA.ok x.1 x.2 ux.2 _).mono ?_); rintro e wn ⟨rfl, hb⟩; have HA1 := HA.call hb; clear HA hb; have HA := HA1; clear HA1) | (go_at_call 15; (with_reducible refine (oldT_any B hB.ok y.1 y.2 uy.2 _).mono ?_); rintro e wn ⟨rfl, hb⟩; have HA1 := HA.call hb; clear HA hb; have HA := HA1; clear HA1) | (go_at_call 17; (with_reducible refine (lives_any _).mono ?_); rintro e wn ⟨rfl, hb⟩; have HA1 := HA.call hb; clear HA hb; have HA := HA1; clear HA1))
            go_ret
            exact ⟨rfl, HA.below⟩
          have d1 : decide (x.1 < 1) = false := by simpa using b1
          by_cases b2 : 8 < x.1
          · have d2 : decide (8 < x.1) = true := by simpa using b2
            go_wp2_with (first | ((with_reducible refine g_go ?_ ?_); exact rfl) | ((first | (with_reducible refine is_load 22 _ ?_) | (with_reducible refine is_one ?_)); refine k_load HA 2 rfl 22 _ rfl rfl _ rfl _ Try.underlying22 rfl _ rfl ?_) | ((first | (with_reducible refine is_load 22 _ ?_) | (with_reducible refine is_one ?_)); refine k_load HA 3 rfl 22 _ rfl rfl _ rfl _ Try.underlying22 rfl _ rfl ?_) | ((first | (with_reducible refine is_load 27 _ ?_) | (with_reducible refine is_one ?_)); refine k_row HA 0 rfl 27 _ rfl rfl rfl _ Try.underlying27 rfl (cells_sz hA.ok.len) ?_) | ((first | (with_reducible refine is_load 27 _ ?_) | (with_reducible refine is_one ?_)); refine k_row HA 1 rfl 27 _ rfl rfl rfl _ Try.underlying27 rfl (cells_sz hB.ok.len) ?_) | (go_at_call 15; (with_reducible refine (oldT_any A hA.ok x.1 x.2 ux.2 _).mono ?_); rintro e wn ⟨rfl, hb⟩; have HA1 := HA.call hb; clear HA hb; have HA := HA1; clear HA1) | (go_at_call 15; (with_reducible refine (oldT_any B hB.ok y.1 y.2 uy.2 _).mono ?_); rintro e wn ⟨rfl, hb⟩; have HA1 := HA.call hb; clear HA hb; have HA := HA1; clear HA1) | (go_at_call 17; (with_reducible refine (lives_any _).mono ?_); rintro e wn ⟨rfl, hb⟩; have HA1 := HA.call hb; clear HA hb; have HA := HA1; clear HA1))
            go_ret
            exact ⟨rfl, HA.below⟩
          have d2 : decide (8 < x.1) = false := by simpa using b2
          by_cases b3 : y.1 < 1
          · have d3 : decide (y.1 < 1) = true := by simpa using b3
            go_wp2_with (first | ((with_reducible refine g_go ?_ ?_); exact rfl) | ((first | (with_reducible refine is_load 22 _ ?_) | (with_reducible refine is_one ?_)); refine k_load HA 2 rfl 22 _ rfl rfl _ rfl _ Try.underlying22 rfl _ rfl ?_) | ((first | (with_reducible refine is_load 22 _ ?_) | (with_reducible refine is_one ?_)); refine k_load HA 3 rfl 22 _ rfl rfl _ rfl _ Try.underlying22 rfl _ rfl ?_) | ((first | (with_reducible refine is_load 27 _ ?_) | (with_reducible refine is_one ?_)); refine k_row HA 0 rfl 27 _ rfl rfl rfl _ Try.underlying27 rfl (cells_sz hA.ok.len) ?_) | ((first | (with_reducible refine is_load 27 _ ?_) | (with_reducible refine is_one ?_)); refine k_row HA 1 rfl 27 _ rfl rfl rfl _ Try.underlying27 rfl (cells_sz hB.ok.len) ?_) | (go_at_call 15; (with_reducible refine (oldT_any A hA.ok x.1 x.2 ux.2 _).mono ?_); rintro e wn ⟨rfl, hb⟩; have HA1 := HA.call hb; clear HA hb; have HA := HA1; clear HA1) | (go_at_call 15; (with_reducible refine (oldT_any B hB.ok y.1 y.2 uy.2 _).mono ?_); rintro e wn ⟨rfl, hb⟩; have HA1 := HA.call hb; clear HA hb; have HA := HA1; clear HA1) | (go_at_call 17; (with_reducible refine (lives_any _).mono ?_); rintro e wn ⟨rfl, hb⟩; have HA1 := HA.call hb; clear HA hb; have HA := HA1; clear HA1))
            go_ret
            exact ⟨rfl, HA.below⟩
          have d3 : decide (y.1 < 1) = false := by simpa using b3
          by_cases b4 : 8 < y.1
          · have d4 : decide (8 < y.1) = true := by simpa using b4
            go_wp2_with (first | ((with_reducible refine g_go ?_ ?_); exact rfl) | ((first | (with_reducible refine is_load 22 _ ?_) | (with_reducible refine is_one ?_)); refine k_load HA 2 rfl 22 _ rfl rfl _ rfl _ Try.underlying22 rfl _ rfl ?_) | ((first | (with_reducible refine is_load 22 _ ?_) | (with_reducible refine is_one ?_)); refine k_load HA 3 rfl 22 _ rfl rfl _ rfl _ Try.underlying22 rfl _ rfl ?_) | ((first | (with_reducible refine is_load 27 _ ?_) | (with_reducible refine is_one ?_)); refine k_row HA 0 rfl 27 _ rfl rfl rfl _ Try.underlying27 rfl (cells_sz hA.ok.len) ?_) | ((first | (with_reducible refine is_load 27 _ ?_) | (with_reducible refine is_one ?_)); refine k_row HA 1 rfl 27 _ rfl rfl rfl _ Try.underlying27 rfl (cells_sz hB.ok.len) ?_) | (go_at_call 15; (with_reducible refine (oldT_any A hA.ok x.1 x.2 ux.2 _).mono ?_); rintro e wn ⟨rfl, hb⟩; have HA1 := HA.call hb; clear HA hb; have HA := HA1; clear HA1) | (go_at_call 15; (with_reducible refine (oldT_any B hB.ok y.1 y.2 uy.2 _).mono ?_); rintro e wn ⟨rfl, hb⟩; have HA1 := HA.call hb; clear HA hb; have HA := HA1; clear HA1) | (go_at_call 17; (with_reducible refine (lives_any _).mono ?_); rintro e wn ⟨rfl, hb⟩; have HA1 := HA.call hb; clear HA hb; have HA := HA1; clear HA1))
            go_ret
            exact ⟨rfl, HA.below⟩
          have d4 : decide (8 < y.1) = false := by simpa using b4
          cases ho1 : oldT A x.1 x.2 with
          | true =>
            go_wp2_with (first | ((with_reducible refine g_go ?_ ?_); exact rfl) | ((first | (with_reducible refine is_load 22 _ ?_) | (with_reducible refine is_one ?_)); refine k_load HA 2 rfl 22 _ rfl rfl _ rfl _ Try.underlying22 rfl _ rfl ?_) | ((first | (with_reducible refine is_load 22 _ ?_) | (with_reducible refine is_one ?_)); refine k_load HA 3 rfl 22 _ rfl rfl _ rfl _ Try.underlying22 rfl _ rfl ?_) | ((first | (with_reducible refine is_load 27 _ ?_) | (with_reducible refine is_one ?_)); refine k_row HA 0 rfl 27 _ rfl rfl rfl _ Try.underlying27 rfl (cells_sz hA.ok.len) ?_) | ((first | (with_reducible refine is_load 27 _ ?_) | (with_reducible refine is_one ?_)); refine k_row HA 1 rfl 27 _ rfl rfl rfl _ Try.underlying27 rfl (cells_sz hB.ok.len) ?_) | (go_at_call 15; (with_reducible refine (oldT_any A hA.ok x.1 x.2 ux.2 _).mono ?_); rintro e wn ⟨rfl, hb⟩; have HA1 := HA.call hb; clear HA hb; have HA := HA1; clear HA1) | (go_at_call 15; (with_reducible refine (oldT_any B hB.ok y.1 y.2 uy.2 _).mono ?_); rintro e wn ⟨rfl, hb⟩; have HA1 := HA.call hb; clear HA hb; have HA := HA1; clear HA1) | (go_at_call 17; (with_reducible refine (lives_any _).mono ?_); rintro e wn ⟨rfl, hb⟩; have HA1 := HA.call hb; clear HA hb; have HA := HA1; clear HA1))
            go_ret
            exact ⟨rfl, HA.below⟩
          | false =>
            cases ho2 : oldT B y.1 y.2 with
            | true =>
              go_wp2_with (first | ((with_reducible refine g_go ?_ ?_); exact rfl) | ((first | (with_reducible refine is_load 22 _ ?_) | (with_reducible refine is_one ?_)); refine k_load HA 2 rfl 22 _ rfl rfl _ rfl _ Try.underlying22 rfl _ rfl ?_) | ((first | (with_reducible refine is_load 22 _ ?_) | (with_reducible refine is_one ?_)); refine k_load HA 3 rfl 22 _ rfl rfl _ rfl _ Try.underlying22 rfl _ rfl ?_) | ((first | (with_reducible refine is_load 27 _ ?_) | (with_reducible refine is_one ?_)); refine k_row HA 0 rfl 27 _ rfl rfl rfl _ Try.underlying27 rfl (cells_sz hA.ok.len) ?_) | ((first | (with_reducible refine is_load 27 _ ?_) | (with_reducible refine is_one ?_)); refine k_row HA 1 rfl 27 _ rfl rfl rfl _ Try.underlying27 rfl (cells_sz hB.ok.len) ?_) | (go_at_call 15; (with_reducible refine (oldT_any A hA.ok x.1 x.2 ux.2 _).mono ?_); rintro e wn ⟨rfl, hb⟩; have HA1 := HA.call hb; clear HA hb; have HA := HA1; clear HA1) | (go_at_call 15; (with_reducible refine (oldT_any B hB.ok y.1 y.2 uy.2 _).mono ?_); rintro e wn ⟨rfl, hb⟩; have HA1 := HA.call hb; clear HA hb; have HA := HA1; clear HA1) | (go_at_call 17; (with_reducible refine (lives_any _).mono ?_); rintro e wn ⟨rfl, hb⟩; have HA1 := HA.call hb; clear HA hb; have HA := HA1; clear HA1))
              go_ret
              exact ⟨rfl, HA.below⟩
            | false =>
              have hA2 := hA.add (by omega) (by omega) ux.2 ho1
              have hB2 := hB.add (by omega) (by omega) uy.2 ho2
              have c1 := fun w => add_any A hA.ok x.1 x.2 ux.2 w
              have c2 := fun w => add_any B hB.ok y.1 y.2 uy.2 w
              generalize addT A x.1 x.2 = U at hA2 c1
              generalize addT B y.1 y.2 = V at hB2 c2
              obtain ⟨U, ua⟩ := U
              obtain ⟨V, va⟩ := V
              have C1 := Lib.hid c1
              have C2 := Lib.hid c2
              clear c1 c2
              go_wp2_with (first | ((with_reducible refine g_go ?_ ?_); exact rfl) | ((first | (with_reducible refine is_load 22 _ ?_) | (with_reducible refine is_one ?_)); refine k_load HA 2 rfl 22 _ rfl rfl _ rfl _ Try.underlying22 rfl _ rfl ?_) | ((first | (with_reducible refine is_load 22 _ ?_) | (with_reducible refine is_one ?_)); refine k_load HA 3 rfl 22 _ rfl rfl _ rfl _ Try.underlying22 rfl _ rfl ?_) | ((first | (with_reducible refine is_load 27 _ ?_) | (with_reducible refine is_one ?_)); refine k_row HA 0 rfl 27 _ rfl rfl rfl _ Try.underlying27 rfl (cells_sz hA.ok.len) ?_) | ((first | (with_reducible refine is_load 27 _ ?_) | (with_reducible refine is_one ?_)); refine k_row HA 1 rfl 27 _ rfl rfl rfl _ Try.underlying27 rfl (cells_sz hB.ok.len) ?_) | (go_at_call 15; (with_reducible refine (oldT_any A hA.ok x.1 x.2 ux.2 _).mono ?_); rintro e wn ⟨rfl, hb⟩; have HA1 := HA.call hb; clear HA hb; have HA := HA1; clear HA1) | (go_at_call 15; (with_reducible refine (oldT_any B hB.ok y.1 y.2 uy.2 _).mono ?_); rintro e wn ⟨rfl, hb⟩; have HA1 := HA.call hb; clear HA hb; have HA := HA1; clear HA1) | (go_at_call 17; (with_reducible refine (lives_any _).mono ?_); rintro e wn ⟨rfl, hb⟩; have HA1 := HA.call hb; clear HA hb; have HA := HA1; clear HA1) | (go_at_call 11; (with_reducible refine (C1.out _).mono ?_); rintro e wn ⟨rfl, hb⟩; have HA1 := HA.call hb; clear HA hb; have HA := HA1; clear HA1) | (go_at_call 11; (with_reducible refine (C2.out _).mono ?_); rintro e wn ⟨rfl, hb⟩; have HA1 := HA.call hb; clear HA hb; have HA := HA1; clear HA1) | ((first | (with_reducible refine is_store 27 _ _ ?_) | (with_reducible refine is_one ?_)); refine k_over HA 0 rfl 27 _ _ rfl rfl rfl rfl _ rfl (cells_sz hA2.ok.len) ((cells_size hA2.ok.len).trans (cells_size hA.ok.len).symm) (cells_one _) ?_; clear HA; intro wn HA; (try simp only [List.set_cons_zero, List.set_cons_succ] at HA)) | ((first | (with_reducible refine is_store 27 _ _ ?_) | (with_reducible refine is_one ?_)); refine k_over HA 1 rfl 27 _ _ rfl rfl rfl rfl _ rfl (cells_sz hB2.ok.len) ((cells_size hB2.ok.len).trans (cells_size hB.ok.len).symm) (cells_one _) ?_; clear HA; intro wn HA; (try simp only [List.set_cons_zero, List.set_cons_succ] at HA)))
              go_roundw
              case rel =>
                have ex := HX.out
                have ey := HY.out
                refine ⟨k + 1, U, V, by omega, by go_num, hA2.congr fun z => ?_, hB2.congr fun z => ?_, fun i hi => ?_, Hp.take (L := [⟨g0, cells U, 27⟩, ⟨g1, cells V, 27⟩]) (M := [_, _]) HA⟩
                · constructor
                  · rintro (⟨i, hi, rfl⟩ | rfl)
                    · exact ⟨i, by omega, rfl⟩
                    · exact ⟨k, by omega, ex⟩
                  · rintro ⟨i, hi, rfl⟩
                    by_cases hik : i = k
                    · right; rw [hik, ← ex]
                    · left; exact ⟨i, by omega, rfl⟩
                · constructor
                  · rintro (⟨i, hi, rfl⟩ | rfl)
                    · exact ⟨i, by omega, rfl⟩
                    · exact ⟨k, by omega, ey⟩
                  · rintro ⟨i, hi, rfl⟩
                    by_cases hik : i = k
                    · right; rw [hik, ← ey]
                    · left; exact ⟨i, by omega, rfl⟩
                · by_cases hik : i = k
                  · rw [hik, ← ex]; omega
                  · exact hb i (by omega)
              case measure => simp [intOf]; omega
      · obtain rfl : k = n := by omega
        have hB' : TInv B (fun x => ∃ i, i < k ∧ x = X i) := hB.congr fun z => by
          constructor
          · rintro ⟨i, hi, rfl⟩; exact ⟨k - 1 - i, by omega, rfl⟩
          · rintro ⟨i, hi, rfl⟩; exact ⟨k - 1 - i, by omega, by rw [show k - 1 - (k - 1 - i) = i by omega]⟩
        obtain rfl := hA.one hB'
        clear hB hB'
        have e1 : decide ((k : Int) < k) = false := by simp
        have hq : decide (A = A) = true := by simp
        have hqt := eq_table hA.ok.len hA.ok.len
        rw [hq] at hqt
        go_wp2
        clear e1
        go_loopw [87] (fun v87 wr => ∃ (j : Nat), j ≤ k ∧ v87 = .int .i64 j ∧ Hp w.heap.size (fun _ => False) w wr [⟨g0, cells A, 27⟩, ⟨g1, cells A, 27⟩]) (fun v87 _ => k - (intOf v87).toNat)
        case atStart => exact ⟨0, by omega, rfl, HA⟩
        case round =>
          clear HA
          obtain ⟨j, hj, rfl, HA⟩ := hrel
          by_cases hlt2 : j < k
          · obtain ⟨ad, rfl, hx⟩ := hl.at_ j hlt2
            have ux := hl.rng j hlt2
            have e1 : decide ((j : Int) < k) = true := by simp; omega
            have h12 := hb j hlt2
            have ht := hA.tells (c := (X j).1) (r := (X j).2) h12.1 h12.2 ⟨j, hlt2, rfl⟩
            generalize X j = x at hx ux ht
            cases hh : hasT A x.1 x.2 with
            | true =>
              go_wp2_with (first | ((with_reducible refine g_go ?_ ?_); exact rfl) | (first | (with_reducible refine kn0 HA ?_; clear HA; intro g0 wn hg HA; (try rw [← hg]); clear hg) | (with_reducible refine kn1 HA ?_; clear HA; intro g1 wn hg HA; (try rw [← hg]); clear hg) | (with_reducible refine kn2 HA ?_; clear HA; intro g2 wn hg HA; (try rw [← hg]); clear hg) | (with_reducible refine kn3 HA ?_; clear HA; intro g3 wn hg HA; (try rw [← hg]); clear hg) | (with_reducible refine kn4 HA ?_; clear HA; intro g4 wn hg HA; (try rw [← hg]); clear hg) | (with_reducible refine kn5 HA ?_; clear HA; intro g5 wn hg HA; (try rw [← hg]); clear hg) | (with_reducible refine kn6 HA ?_; clear HA; intro g6 wn hg HA; (try rw [← hg]); clear hg)) | ((first | (with_reducible refine is_load 40 _ ?_) | (with_reducible refine is_one ?_)); refine k_segw 40 _ rfl rfl rfl _ Try.underlying40 rfl 2 sz40 [.int .u64 x.1, .int .u64 x.2] rfl (fun j v h => HA.was (hx j v h)) ?_) | ((first | (with_reducible refine is_store 40 _ _ ?_) | (with_reducible refine is_one ?_)); refine k_over HA 2 rfl 40 _ _ rfl rfl rfl rfl _ rfl sz40 rfl (one_ii _ _ _ _) ?_; clear HA; intro wn HA; (try simp only [List.set_cons_zero, List.set_cons_succ] at HA)) | ((first | (with_reducible refine is_load 22 _ ?_) | (with_reducible refine is_one ?_)); refine k_load HA 2 rfl 22 _ rfl rfl _ rfl _ Try.underlying22 rfl _ rfl ?_) | ((first | (with_reducible refine is_load 27 _ ?_) | (with_reducible refine is_one ?_)); refine k_row HA 0 rfl 27 _ rfl rfl rfl _ Try.underlying27 rfl (cells_sz hA.ok.len) ?_) | (go_at_call 13; (with_reducible refine (hasT_any A hA.ok x.1 x.2 ux.2 _).mono ?_); rintro e wn ⟨rfl, hb⟩; have HA1 := HA.call hb; clear HA hb; have HA := HA1; clear HA1))
              go_roundw
              case rel => exact ⟨j + 1, by omega, by go_num, Hp.take (L := [⟨g0, cells A, 27⟩, ⟨g1, cells A, 27⟩]) (M := [_]) HA⟩
              case measure => simp [intOf]; omega
            | false =>
              have ho : oldT A x.1 x.2 = true := by simpa [hh] using ht
              go_wp2_with (first | ((with_reducible refine g_go ?_ ?_); exact rfl) | (first | (with_reducible refine kn0 HA ?_; clear HA; intro g0 wn hg HA; (try rw [← hg]); clear hg) | (with_reducible refine kn1 HA ?_; clear HA; intro g1 wn hg HA; (try rw [← hg]); clear hg) | (with_reducible refine kn2 HA ?_; clear HA; intro g2 wn hg HA; (try rw [← hg]); clear hg) | (with_reducible refine kn3 HA ?_; clear HA; intro g3 wn hg HA; (try rw [← hg]); clear hg) | (with_reducible refine kn4 HA ?_; clear HA; intro g4 wn hg HA; (try rw [← hg]); clear hg) | (with_reducible refine kn5 HA ?_; clear HA; intro g5 wn hg HA; (try rw [← hg]); clear hg) | (with_reducible refine kn6 HA ?_; clear HA; intro g6 wn hg HA; (try rw [← hg]); clear hg)) | ((first | (with_reducible refine is_load 40 _ ?_) | (with_reducible refine is_one ?_)); refine k_segw 40 _ rfl rfl rfl _ Try.underlying40 rfl 2 sz40 [.int .u64 x.1, .int .u64 x.2] rfl (fun j v h => HA.was (hx j v h)) ?_) | ((first | (with_reducible refine is_store 40 _ _ ?_) | (with_reducible refine is_one ?_)); refine k_over HA 2 rfl 40 _ _ rfl rfl rfl rfl _ rfl sz40 rfl (one_ii _ _ _ _) ?_; clear HA; intro wn HA; (try simp only [List.set_cons_zero, List.set_cons_succ] at HA)) | ((first | (with_reducible refine is_load 22 _ ?_) | (with_reducible refine is_one ?_)); refine k_load HA 2 rfl 22 _ rfl rfl _ rfl _ Try.underlying22 rfl _ rfl ?_) | ((first | (with_reducible refine is_load 27 _ ?_) | (with_reducible refine is_one ?_)); refine k_row HA 0 rfl 27 _ rfl rfl rfl _ Try.underlying27 rfl (cells_sz hA.ok.len) ?_) | (go_at_call 13; (with_reducible refine (hasT_any A hA.ok x.1 x.2 ux.2 _).mono ?_); rintro e wn ⟨rfl, hb⟩; have HA1 := HA.call hb; clear HA hb; have HA := HA1; clear HA1) | (go_at_call 15; (with_reducible refine (oldT_any A hA.ok x.1 x.2 ux.2 _).mono ?_); rintro e wn ⟨rfl, hb⟩; have HA1 := HA.call hb; clear HA hb; have HA := HA1; clear HA1))
              go_roundw
              case rel => exact ⟨j + 1, by omega, by go_num, Hp.take (L := [⟨g0, cells A, 27⟩, ⟨g1, cells A, 27⟩]) (M := [_]) HA⟩
              case measure => simp [intOf]; omega
          · obtain rfl : j = k := by omega
            have e1 : decide ((j : Int) < j) = false := by simp
            go_wp2_with (first | ((with_reducible refine g_go ?_ ?_); exact rfl) | ((first | (with_reducible refine is_load 27 _ ?_) | (with_reducible refine is_one ?_)); refine k_row HA 0 rfl 27 _ rfl rfl rfl _ Try.underlying27 rfl (cells_sz hA.ok.len) ?_) | ((first | (with_reducible refine is_load 27 _ ?_) | (with_reducible refine is_one ?_)); refine k_row HA 1 rfl 27 _ rfl rfl rfl _ Try.underlying27 rfl (cells_sz hA.ok.len) ?_) | (go_at_call 17; (with_reducible refine (lives_any _).mono ?_); rintro e wn ⟨rfl, hb⟩; have HA1 := HA.call hb; clear HA hb; have HA := HA1; clear HA1))
            go_ret
            exact ⟨rfl, HA.below⟩
end Go.Proofs.Ytapfediapkklnaa
