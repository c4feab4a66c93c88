/- The walks of the document's functions on tables of done requests. -/
import Derived.Test.YtapfediapkklnaaProg
import Derived.Test.YtapfediapkklnaaK
import Derived.WalkLawsBesides
import Derived.Handy
import Derived.Lib.Hide
import Derived.Test.YtapfediapkklnaaDone
namespace Go.Proofs.Ytapfediapkklnaa
open Go.RowKit K
attribute [local go_sem] kmax2 kmin2 kmax_two kmin_two
set_option linter.unusedSimpArgs false
set_option linter.unusedVariables false
def bitB (b k : Int) : Bool := decide (b / 2 ^ k.toNat % 2 = 1)
set_option maxHeartbeats 400000 in
theorem bit_any (t b k : Int) (hb : U16 b) (hk : 0 ≤ k) (hk2 : k ≤ 1000) (w : World) :
    Calls Try.prog 42 #[.agg #[.int .u64 t, .int .u16 b], .int .u64 k] w fun e w' => e = .returned (.bool (bitB b k)) ∧ Below w.heap.size w w' := by
  obtain ⟨hb, hb2⟩ := hb
  obtain ⟨k, rfl⟩ := Int.eq_ofNat_of_zero_le hk
  have HA := Hp.start w
  go_enter Try.func42, Try.ntmps42
  go_wp2_with (first | ((with_reducible refine g_go ?_ ?_); exact rfl) | (first | (with_reducible refine kn0 HA ?_; clear HA; intro g0 wn hg HA; (try rw [← hg]); clear hg) | (with_reducible refine kn1 HA ?_; clear HA; intro g1 wn hg HA; (try rw [← hg]); clear hg) | (with_reducible refine kn2 HA ?_; clear HA; intro g2 wn hg HA; (try rw [← hg]); clear hg) | (with_reducible refine kn3 HA ?_; clear HA; intro g3 wn hg HA; (try rw [← hg]); clear hg) | (with_reducible refine kn4 HA ?_; clear HA; intro g4 wn hg HA; (try rw [← hg]); clear hg) | (with_reducible refine kn5 HA ?_; clear HA; intro g5 wn hg HA; (try rw [← hg]); clear hg) | (with_reducible refine kn6 HA ?_; clear HA; intro g6 wn hg HA; (try rw [← hg]); clear hg)) | ((first | (with_reducible refine is_load 23 _ ?_) | (with_reducible refine is_one ?_)); refine k_load HA 0 rfl 23 _ rfl rfl _ rfl _ Try.underlying23 rfl _ rfl ?_))
  go_loopw [5, 6] (fun v5 v6 wr => ∃ j : Nat, j ≤ k ∧ v6 = .int .u64 j ∧ v5 = .int .u64 (b / 2 ^ j) ∧ Hp w.heap.size (fun _ => False) w wr [⟨g0, #[.int .u64 t, .int .u16 b], 28⟩]) (fun _ v6 _ => k - (intOf v6).toNat)
  case atStart => exact ⟨0, by omega, rfl, by simp, HA⟩
  case round =>
    clear HA
    obtain ⟨j, hj, rfl, rfl, HA⟩ := hrel
    have h0 : 0 ≤ b / 2 ^ j := Int.ediv_nonneg hb (Int.le_of_lt (p2 j))
    have h1 : b / 2 ^ j ≤ 65535 := Int.le_trans (Int.ediv_le_self _ hb) hb2
    have HN := Lib.hid (show b / 2 ^ j / 2 = b / 2 ^ (j + 1) by rw [Int.ediv_ediv_of_nonneg (Int.le_of_lt (p2 j)), Int.pow_succ])
    by_cases h : j < k
    · go_wp2
      go_roundw
      case rel => exact ⟨j + 1, by omega, by go_num, by rw [HN.out], HA⟩
      case measure => simp [intOf]; omega
    · obtain rfl : j = k := by omega
      go_wp2
      go_ret
      refine ⟨ret_b ?_, HA.below⟩
      simp [bitB]
def rhasB (t b r : Int) : Bool := decide (0 < r) && decide (r ≤ t) && decide (t - r < 16) && bitB b (t - r)
set_option maxHeartbeats 400000 in
theorem rhas_any (t b r : Int) (ht : U64 t) (hr : U64 r) (hb : U16 b) (w : World) :
    Calls Try.prog 46 #[.agg #[.int .u64 t, .int .u16 b], .int .u64 r] w fun e w' => e = .returned (.bool (rhasB t b r)) ∧ Below w.heap.size w w' := by
  obtain ⟨ht, ht2⟩ := ht
  obtain ⟨hr, hr2⟩ := hr
  have HA := Hp.start w
  by_cases h : 0 < r ∧ r ≤ t ∧ t - r < 16
  · obtain ⟨h1, h2, h3⟩ := h
    go_enter Try.func46, Try.ntmps46
    go_wp2_with (first | ((with_reducible refine g_go ?_ ?_); exact rfl) | (first | (with_reducible refine kn0 HA ?_; clear HA; intro g0 wn hg HA; (try rw [← hg]); clear hg) | (with_reducible refine kn1 HA ?_; clear HA; intro g1 wn hg HA; (try rw [← hg]); clear hg) | (with_reducible refine kn2 HA ?_; clear HA; intro g2 wn hg HA; (try rw [← hg]); clear hg) | (with_reducible refine kn3 HA ?_; clear HA; intro g3 wn hg HA; (try rw [← hg]); clear hg) | (with_reducible refine kn4 HA ?_; clear HA; intro g4 wn hg HA; (try rw [← hg]); clear hg) | (with_reducible refine kn5 HA ?_; clear HA; intro g5 wn hg HA; (try rw [← hg]); clear hg) | (with_reducible refine kn6 HA ?_; clear HA; intro g6 wn hg HA; (try rw [← hg]); clear hg)) | ((first | (with_reducible refine is_load 22 _ ?_) | (with_reducible refine is_one ?_)); refine k_load HA 0 rfl 22 _ rfl rfl _ rfl _ Try.underlying22 rfl _ rfl ?_) | ((first | (with_reducible refine is_load 28 _ ?_) | (with_reducible refine is_one ?_)); refine k_row HA 0 rfl 28 _ rfl rfl rfl _ Try.underlying28 rfl sz28 ?_) | (go_at_call 42; refine (bit_any t b (t - r) hb (by omega) (by omega) _).mono ?_; rintro e wn ⟨rfl, hb⟩; have HA1 := HA.call hb; clear HA hb; have HA := HA1; clear HA1))
    go_ret
    refine ⟨ret_b ?_, HA.below⟩
    simp [rhasB, h1, h2, h3]
  · go_enter Try.func46, Try.ntmps46
    go_wp2_with (first | ((with_reducible refine g_go ?_ ?_); exact rfl) | (first | (with_reducible refine kn0 HA ?_; clear HA; intro g0 wn hg HA; (try rw [← hg]); clear hg) | (with_reducible refine kn1 HA ?_; clear HA; intro g1 wn hg HA; (try rw [← hg]); clear hg) | (with_reducible refine kn2 HA ?_; clear HA; intro g2 wn hg HA; (try rw [← hg]); clear hg) | (with_reducible refine kn3 HA ?_; clear HA; intro g3 wn hg HA; (try rw [← hg]); clear hg) | (with_reducible refine kn4 HA ?_; clear HA; intro g4 wn hg HA; (try rw [← hg]); clear hg) | (with_reducible refine kn5 HA ?_; clear HA; intro g5 wn hg HA; (try rw [← hg]); clear hg) | (with_reducible refine kn6 HA ?_; clear HA; intro g6 wn hg HA; (try rw [← hg]); clear hg)) | ((first | (with_reducible refine is_load 22 _ ?_) | (with_reducible refine is_one ?_)); refine k_load HA 0 rfl 22 _ rfl rfl _ rfl _ Try.underlying22 rfl _ rfl ?_))
    all_goals (go_ret; refine ⟨ret_b ?_, HA.below⟩; simp [rhasB]; omega)
theorem cells_one1 {t : List (Int × Int)} (h : TOk t) {c : Int} (h1 : 1 ≤ c) (h2 : c ≤ 8) : (cells t)[(c.toNat - 1) * 2]? = some (.int .u64 (gt t c).1) := by
  have := cells_seg h h1 h2 0 _ rfl
  simpa using this
def rhasT (t : List (Int × Int)) (c r : Int) : Bool := withinB c && rhasB (gt t c).1 (gt t c).2 r
set_option maxHeartbeats 400000 in
theorem rhasT_any (t : List (Int × Int)) (ht : TOk t) (c r : Int) (hr : U64 r) (w : World) :
    Calls Try.prog 14 #[.agg (cells t), .int .u64 c, .int .u64 r] w fun e w' => e = .returned (.bool (rhasT t c r)) ∧ Below w.heap.size w w' := by
  have HA := Hp.start w
  obtain ⟨h64, h16⟩ := gt_ok ht c
  by_cases h : 1 ≤ c ∧ c ≤ 8
  · obtain ⟨h1, h2⟩ := h
    go_enter Try.func14, Try.ntmps14
    go_wp2_with (first | ((with_reducible refine g_go ?_ ?_); exact rfl) | (first | (with_reducible refine kn0 HA ?_; clear HA; intro g0 wn hg HA; (try rw [← hg]); clear hg) | (with_reducible refine kn1 HA ?_; clear HA; intro g1 wn hg HA; (try rw [← hg]); clear hg) | (with_reducible refine kn2 HA ?_; clear HA; intro g2 wn hg HA; (try rw [← hg]); clear hg) | (with_reducible refine kn3 HA ?_; clear HA; intro g3 wn hg HA; (try rw [← hg]); clear hg) | (with_reducible refine kn4 HA ?_; clear HA; intro g4 wn hg HA; (try rw [← hg]); clear hg) | (with_reducible refine kn5 HA ?_; clear HA; intro g5 wn hg HA; (try rw [← hg]); clear hg) | (with_reducible refine kn6 HA ?_; clear HA; intro g6 wn hg HA; (try rw [← hg]); clear hg)) | ((first | (with_reducible refine is_load 28 _ ?_) | (with_reducible refine is_one ?_)); refine k_seg HA 0 rfl 28 _ rfl rfl _ rfl _ Try.underlying28 rfl 2 sz28 [.int .u64 (gt t c).1, .int .u16 (gt t c).2] rfl (cells_seg ht h1 h2) ?_) | (go_at_call 46; refine (rhas_any (gt t c).1 (gt t c).2 r h64 hr h16 _).mono ?_; rintro e wn ⟨rfl, hb⟩; have HA1 := HA.call hb; clear HA hb; have HA := HA1; clear HA1))
    go_ret
    refine ⟨ret_b ?_, HA.below⟩
    simp [rhasT, withinB, h1, h2]
  · go_enter Try.func14, Try.ntmps14
    go_wp2_with (first | ((with_reducible refine g_go ?_ ?_); exact rfl) | (first | (with_reducible refine kn0 HA ?_; clear HA; intro g0 wn hg HA; (try rw [← hg]); clear hg) | (with_reducible refine kn1 HA ?_; clear HA; intro g1 wn hg HA; (try rw [← hg]); clear hg) | (with_reducible refine kn2 HA ?_; clear HA; intro g2 wn hg HA; (try rw [← hg]); clear hg) | (with_reducible refine kn3 HA ?_; clear HA; intro g3 wn hg HA; (try rw [← hg]); clear hg) | (with_reducible refine kn4 HA ?_; clear HA; intro g4 wn hg HA; (try rw [← hg]); clear hg) | (with_reducible refine kn5 HA ?_; clear HA; intro g5 wn hg HA; (try rw [← hg]); clear hg) | (with_reducible refine kn6 HA ?_; clear HA; intro g6 wn hg HA; (try rw [← hg]); clear hg)))
    all_goals (go_ret; refine ⟨ret_b ?_, HA.below⟩; simp [rhasT, withinB]; omega)
set_option maxHeartbeats 400000 in
theorem roldT_any (t : List (Int × Int)) (ht : TOk t) (c r : Int) (hr : U64 r) (w : World) :
    Calls Try.prog 16 #[.agg (cells t), .int .u64 c, .int .u64 r] w fun e w' => e = .returned (.bool (oldT t c r)) ∧ Below w.heap.size w w' := by
  have HA := Hp.start w
  obtain ⟨⟨h64, h64'⟩, h16⟩ := gt_ok ht c
  obtain ⟨hr, hr2⟩ := hr
  by_cases h : 1 ≤ c ∧ c ≤ 8
  · obtain ⟨h1, h2⟩ := h
    go_enter Try.func16, Try.ntmps16
    go_wp2_with (first | ((with_reducible refine g_go ?_ ?_); exact rfl) | (first | (with_reducible refine kn0 HA ?_; clear HA; intro g0 wn hg HA; (try rw [← hg]); clear hg) | (with_reducible refine kn1 HA ?_; clear HA; intro g1 wn hg HA; (try rw [← hg]); clear hg) | (with_reducible refine kn2 HA ?_; clear HA; intro g2 wn hg HA; (try rw [← hg]); clear hg) | (with_reducible refine kn3 HA ?_; clear HA; intro g3 wn hg HA; (try rw [← hg]); clear hg) | (with_reducible refine kn4 HA ?_; clear HA; intro g4 wn hg HA; (try rw [← hg]); clear hg) | (with_reducible refine kn5 HA ?_; clear HA; intro g5 wn hg HA; (try rw [← hg]); clear hg) | (with_reducible refine kn6 HA ?_; clear HA; intro g6 wn hg HA; (try rw [← hg]); clear hg)) | ((first | (with_reducible refine is_load 22 _ ?_) | (with_reducible refine is_one ?_)); refine k_load HA 0 rfl 22 _ rfl rfl _ rfl _ Try.underlying22 rfl _ (cells_one1 ht h1 h2) ?_))
    all_goals (go_ret; refine ⟨ret_b ?_, HA.below⟩; simp [oldT, oldB, withinB, h1, h2]; (try omega))
  · go_enter Try.func16, Try.ntmps16
    go_wp2_with (first | ((with_reducible refine g_go ?_ ?_); exact rfl) | (first | (with_reducible refine kn0 HA ?_; clear HA; intro g0 wn hg HA; (try rw [← hg]); clear hg) | (with_reducible refine kn1 HA ?_; clear HA; intro g1 wn hg HA; (try rw [← hg]); clear hg) | (with_reducible refine kn2 HA ?_; clear HA; intro g2 wn hg HA; (try rw [← hg]); clear hg) | (with_reducible refine kn3 HA ?_; clear HA; intro g3 wn hg HA; (try rw [← hg]); clear hg) | (with_reducible refine kn4 HA ?_; clear HA; intro g4 wn hg HA; (try rw [← hg]); clear hg) | (with_reducible refine kn5 HA ?_; clear HA; intro g5 wn hg HA; (try rw [← hg]); clear hg) | (with_reducible refine kn6 HA ?_; clear HA; intro g6 wn hg HA; (try rw [← hg]); clear hg)))
    all_goals (go_ret; refine ⟨ret_b ?_, HA.below⟩; simp [oldT, withinB]; omega)

/-- Is bit k of the new client set? -/
def condR (told b r top : Int) (k : Int) : Bool := decide (k = top - r) || (decide (top - told ≤ k) && bitB b (k - (top - told)))
def accR (told b r top : Int) : Nat → Int
  | 0 => 0
  | k + 1 => accR told b r top k + if condR told b r top k = true then 2 ^ k else 0
theorem accR_rng (told b r top : Int) : ∀ k : Nat, 0 ≤ accR told b r top k ∧ accR told b r top k < 2 ^ k := by
  intro k
  induction k with
  | zero => simp [accR]
  | succ k ih =>
    have := p2 k
    have e : (2 : Int) ^ (k + 1) = 2 * 2 ^ k := by rw [Int.pow_succ]; omega
    unfold accR
    split <;> omega
def raddC (told b r : Int) : Int × Int := (max told r, accR told b r (max told r) 16)
def raddT (t : List (Int × Int)) (c r : Int) : List (Int × Int) × Bool :=
  if (withinB c && !oldB (gt t c).1 r && !rhasB (gt t c).1 (gt t c).2 r) = true then (setC t c (raddC (gt t c).1 (gt t c).2 r), true) else (t, false)
set_option maxHeartbeats 2000000 in
theorem radd_any (t : List (Int × Int)) (ht : TOk t) (c r : Int) (hr : U64 r) (w : World) :
    Calls Try.prog 12 #[.agg (cells t), .int .u64 c, .int .u64 r] w fun e w' => e = .returned (.tuple #[.agg (cells (raddT t c r).1), .bool (raddT t c r).2]) ∧ Below w.heap.size w w' := by
  have HA := Hp.start w
  obtain ⟨h64, h16⟩ := gt_ok ht c
  by_cases hbad : ¬ (1 ≤ c ∧ c ≤ 8) ∨ oldT t c r = true ∨ rhasT t c r = true
  · have hres : raddT t c r = (t, false) := by
      rcases hbad with h | h | h
      · have : withinB c = false := by simp [withinB]; omega
        simp [raddT, this]
      · have : oldB (gt t c).1 r = true := by simp [oldT] at h; exact h.2
        simp [raddT, this]
      · have : rhasB (gt t c).1 (gt t c).2 r = true := by simp [rhasT] at h; exact h.2
        simp [raddT, this]
    rw [hres]
    clear hres
    by_cases hc : c < 1
    · go_enter Try.func12, Try.ntmps12
      go_wp2_with (first | ((with_reducible refine g_go ?_ ?_); exact rfl) | (first | (with_reducible refine kn0 HA ?_; clear HA; intro g0 wn hg HA; (try rw [← hg]); clear hg) | (with_reducible refine kn1 HA ?_; clear HA; intro g1 wn hg HA; (try rw [← hg]); clear hg) | (with_reducible refine kn2 HA ?_; clear HA; intro g2 wn hg HA; (try rw [← hg]); clear hg) | (with_reducible refine kn3 HA ?_; clear HA; intro g3 wn hg HA; (try rw [← hg]); clear hg) | (with_reducible refine kn4 HA ?_; clear HA; intro g4 wn hg HA; (try rw [← hg]); clear hg) | (with_reducible refine kn5 HA ?_; clear HA; intro g5 wn hg HA; (try rw [← hg]); clear hg) | (with_reducible refine kn6 HA ?_; clear HA; intro g6 wn hg HA; (try rw [← hg]); clear hg)) | (refine k_row HA 0 rfl 30 _ rfl rfl rfl _ Try.underlying30 rfl (cells_szR ht.len) ?_) | (refine k_over HA 1 rfl 30 _ _ rfl rfl rfl rfl _ rfl (cells_szR ht.len) (cells_size ht.len) (cells_one t) ?_; clear HA; intro wn HA; (try simp only [List.set_cons_zero, List.set_cons_succ] at HA)))
      exact bodyPost_ret (res2 rfl (rv_row HA 1 rfl rfl Try.underlying30 rfl (cells_szR ht.len)) (rv_tmp _)) rfl ⟨rfl, HA.below⟩
    · by_cases hc8 : 8 < c
      · go_enter Try.func12, Try.ntmps12
        go_wp2_with (first | ((with_reducible refine g_go ?_ ?_); exact rfl) | (first | (with_reducible refine kn0 HA ?_; clear HA; intro g0 wn hg HA; (try rw [← hg]); clear hg) | (with_reducible refine kn1 HA ?_; clear HA; intro g1 wn hg HA; (try rw [← hg]); clear hg) | (with_reducible refine kn2 HA ?_; clear HA; intro g2 wn hg HA; (try rw [← hg]); clear hg) | (with_reducible refine kn3 HA ?_; clear HA; intro g3 wn hg HA; (try rw [← hg]); clear hg) | (with_reducible refine kn4 HA ?_; clear HA; intro g4 wn hg HA; (try rw [← hg]); clear hg) | (with_reducible refine kn5 HA ?_; clear HA; intro g5 wn hg HA; (try rw [← hg]); clear hg) | (with_reducible refine kn6 HA ?_; clear HA; intro g6 wn hg HA; (try rw [← hg]); clear hg)) | (refine k_row HA 0 rfl 30 _ rfl rfl rfl _ Try.underlying30 rfl (cells_szR ht.len) ?_) | (refine k_over HA 1 rfl 30 _ _ rfl rfl rfl rfl _ rfl (cells_szR ht.len) (cells_size ht.len) (cells_one t) ?_; clear HA; intro wn HA; (try simp only [List.set_cons_zero, List.set_cons_succ] at HA)))
        exact bodyPost_ret (res2 rfl (rv_row HA 1 rfl rfl Try.underlying30 rfl (cells_szR ht.len)) (rv_tmp _)) rfl ⟨rfl, HA.below⟩
      · cases ho : oldT t c r with
        | true =>
          clear hbad
          go_enter Try.func12, Try.ntmps12
          go_wp2_with (first | ((with_reducible refine g_go ?_ ?_); exact rfl) | (first | (with_reducible refine kn0 HA ?_; clear HA; intro g0 wn hg HA; (try rw [← hg]); clear hg) | (with_reducible refine kn1 HA ?_; clear HA; intro g1 wn hg HA; (try rw [← hg]); clear hg) | (with_reducible refine kn2 HA ?_; clear HA; intro g2 wn hg HA; (try rw [← hg]); clear hg) | (with_reducible refine kn3 HA ?_; clear HA; intro g3 wn hg HA; (try rw [← hg]); clear hg) | (with_reducible refine kn4 HA ?_; clear HA; intro g4 wn hg HA; (try rw [← hg]); clear hg) | (with_reducible refine kn5 HA ?_; clear HA; intro g5 wn hg HA; (try rw [← hg]); clear hg) | (with_reducible refine kn6 HA ?_; clear HA; intro g6 wn hg HA; (try rw [← hg]); clear hg)) | (refine k_row HA 0 rfl 30 _ rfl rfl rfl _ Try.underlying30 rfl (cells_szR ht.len) ?_) | (go_at_call 16; refine (roldT_any t ht c r hr _).mono ?_; rintro e wn ⟨rfl, hb⟩; have HA1 := HA.call hb; clear HA hb; have HA := HA1; clear HA1) | (refine k_over HA 1 rfl 30 _ _ rfl rfl rfl rfl _ rfl (cells_szR ht.len) (cells_size ht.len) (cells_one t) ?_; clear HA; intro wn HA; (try simp only [List.set_cons_zero, List.set_cons_succ] at HA)))
          exact bodyPost_ret (res2 rfl (rv_row HA 1 rfl rfl Try.underlying30 rfl (cells_szR ht.len)) (rv_tmp _)) rfl ⟨rfl, HA.below⟩
        | false =>
          have hh : rhasT t c r = true := by
            rcases hbad with h | h | h
            · omega
            · rw [ho] at h; cases h
            · exact h
          clear hbad
          go_enter Try.func12, Try.ntmps12
          go_wp2_with (first | ((with_reducible refine g_go ?_ ?_); exact rfl) | (first | (with_reducible refine kn0 HA ?_; clear HA; intro g0 wn hg HA; (try rw [← hg]); clear hg) | (with_reducible refine kn1 HA ?_; clear HA; intro g1 wn hg HA; (try rw [← hg]); clear hg) | (with_reducible refine kn2 HA ?_; clear HA; intro g2 wn hg HA; (try rw [← hg]); clear hg) | (with_reducible refine kn3 HA ?_; clear HA; intro g3 wn hg HA; (try rw [← hg]); clear hg) | (with_reducible refine kn4 HA ?_; clear HA; intro g4 wn hg HA; (try rw [← hg]); clear hg) | (with_reducible refine kn5 HA ?_; clear HA; intro g5 wn hg HA; (try rw [← hg]); clear hg) | (with_reducible refine kn6 HA ?_; clear HA; intro g6 wn hg HA; (try rw [← hg]); clear hg)) | (refine k_row HA 0 rfl 30 _ rfl rfl rfl _ Try.underlying30 rfl (cells_szR ht.len) ?_) | (go_at_call 16; refine (roldT_any t ht c r hr _).mono ?_; rintro e wn ⟨rfl, hb⟩; have HA1 := HA.call hb; clear HA hb; have HA := HA1; clear HA1) | (go_at_call 14; refine (rhasT_any t ht c r hr _).mono ?_; rintro e wn ⟨rfl, hb⟩; have HA1 := HA.call hb; clear HA hb; have HA := HA1; clear HA1) | (refine k_over HA 1 rfl 30 _ _ rfl rfl rfl rfl _ rfl (cells_szR ht.len) (cells_size ht.len) (cells_one t) ?_; clear HA; intro wn HA; (try simp only [List.set_cons_zero, List.set_cons_succ] at HA)))
          exact bodyPost_ret (res2 rfl (rv_row HA 1 rfl rfl Try.underlying30 rfl (cells_szR ht.len)) (rv_tmp _)) rfl ⟨rfl, HA.below⟩
  · have h1 : 1 ≤ c := by
      by_cases h : 1 ≤ c
      · exact h
      · exact absurd (.inl (by omega)) hbad
    have h2 : c ≤ 8 := by
      by_cases h : c ≤ 8
      · exact h
      · exact absurd (.inl (by omega)) hbad
    have ho : oldT t c r = false := by
      cases h : oldT t c r with
      | false => rfl
      | true => exact absurd (.inr (.inl h)) hbad
    have hh : rhasT t c r = false := by
      cases h : rhasT t c r with
      | false => rfl
      | true => exact absurd (.inr (.inr h)) hbad
    have hw : withinB c = true := by simp [withinB, h1, h2]
    have hres : raddT t c r = (setC t c (raddC (gt t c).1 (gt t c).2 r), true) := by
      have e1 : oldB (gt t c).1 r = false := by simpa [oldT, hw] using ho
      have e2 : rhasB (gt t c).1 (gt t c).2 r = false := by simpa [rhasT, hw] using hh
      simp [raddT, hw, e1, e2]
    rw [hres]
    clear hres hbad hw
    obtain ⟨top, htop⟩ : ∃ x, x = max (gt t c).1 r := ⟨_, rfl⟩
    have hm1 : (gt t c).1 ≤ top := by omega
    have hm2 : r ≤ top := by omega
    obtain ⟨h64a, h64b⟩ := h64
    obtain ⟨hra, hrb⟩ := hr
    have htb : top ≤ 18446744073709551615 := by omega
    have hite : (if (gt t c).1 < r then r else (gt t c).1) = top := by split <;> omega
    have hd1 : decide (c < 1) = false := by simp; omega
    have hd8 : decide (8 < c) = false := by simp; omega
    have HTOP := Lib.hid htop
    clear htop
    go_enter Try.func12, Try.ntmps12
    go_wp2_with (first | ((with_reducible refine g_go ?_ ?_); exact rfl) | (first | (with_reducible refine kn0 HA ?_; clear HA; intro g0 wn hg HA; (try rw [← hg]); clear hg) | (with_reducible refine kn1 HA ?_; clear HA; intro g1 wn hg HA; (try rw [← hg]); clear hg) | (with_reducible refine kn2 HA ?_; clear HA; intro g2 wn hg HA; (try rw [← hg]); clear hg) | (with_reducible refine kn3 HA ?_; clear HA; intro g3 wn hg HA; (try rw [← hg]); clear hg) | (with_reducible refine kn4 HA ?_; clear HA; intro g4 wn hg HA; (try rw [← hg]); clear hg) | (with_reducible refine kn5 HA ?_; clear HA; intro g5 wn hg HA; (try rw [← hg]); clear hg) | (with_reducible refine kn6 HA ?_; clear HA; intro g6 wn hg HA; (try rw [← hg]); clear hg)) | (refine k_row HA 0 rfl 30 _ rfl rfl rfl _ Try.underlying30 rfl (cells_szR ht.len) ?_) | (go_at_call 16; refine (roldT_any t ht c r ⟨hra, hrb⟩ _).mono ?_; rintro e wn ⟨rfl, hb⟩; have HA1 := HA.call hb; clear HA hb; have HA := HA1; clear HA1) | (go_at_call 14; refine (rhasT_any t ht c r ⟨hra, hrb⟩ _).mono ?_; rintro e wn ⟨rfl, hb⟩; have HA1 := HA.call hb; clear HA hb; have HA := HA1; clear HA1) | ((first | (with_reducible refine is_load 28 _ ?_) | (with_reducible refine is_one ?_)); refine k_seg HA 0 rfl 28 _ rfl rfl _ rfl _ Try.underlying28 rfl 2 sz28 [.int .u64 (gt t c).1, .int .u16 (gt t c).2] rfl (cells_seg ht h1 h2) ?_) | ((first | (with_reducible refine is_load 22 _ ?_) | (with_reducible refine is_one ?_)); refine k_load HA 2 rfl 22 _ rfl rfl _ rfl _ Try.underlying22 rfl _ rfl ?_) | ((first | (with_reducible refine is_store 28 _ _ ?_) | (with_reducible refine is_one ?_)); refine k_over HA 2 rfl 28 _ _ rfl rfl rfl rfl _ rfl sz28 rfl (one_ii _ _ _ _) ?_; clear HA; intro wn HA; (try simp only [List.set_cons_zero, List.set_cons_succ] at HA)) | ((first | (with_reducible refine is_store 28 _ _ ?_) | (with_reducible refine is_one ?_)); refine k_over HA 3 rfl 28 _ _ rfl rfl rfl rfl _ rfl sz28 rfl (one_ii _ _ _ _) ?_; clear HA; intro wn HA; (try simp only [List.set_cons_zero, List.set_cons_succ] at HA)))
    rw [show (#[Value.int IntKind.u64 0, Value.int IntKind.u16 0, Value.int IntKind.u64 0, Value.int IntKind.u16 0, Value.int IntKind.u64 0, Value.int IntKind.u16 0, Value.int IntKind.u64 0, Value.int IntKind.u16 0, Value.int IntKind.u64 0, Value.int IntKind.u16 0, Value.int IntKind.u64 0, Value.int IntKind.u16 0, Value.int IntKind.u64 0, Value.int IntKind.u16 0, Value.int IntKind.u64 0, Value.int IntKind.u16 0] : Array Value) = cells (upto t 0) from rfl] at HA
    clear hd1 hd8 hite ho hh
    go_loopw [10, 11] (fun v10 v11 wr => ∃ j : Nat, j ≤ 16 ∧ v11 = .int .u64 j ∧ v10 = .int .u16 (2 ^ j % 65536) ∧ Hp w.heap.size (fun _ => False) w wr [⟨g0, cells t, 30⟩, ⟨g1, cells (upto t 0), 30⟩, ⟨g2, #[.int .u64 (gt t c).1, .int .u16 (gt t c).2], 28⟩, ⟨g3, #[.int .u64 top, .int .u16 (accR (gt t c).1 (gt t c).2 r top j)], 28⟩]) (fun _ v11 _ => 16 - (intOf v11).toNat)
    case atStart => exact ⟨0, by omega, rfl, rfl, HA⟩
    case round =>
      clear HA
      obtain ⟨j, hj, rfl, rfl, HA⟩ := hrel
      by_cases hlt : j < 16
      · have hU : ∀ j, j < 16 → (2 : Int) ^ j ≤ 32768 := by decide
        have hU1 := hU j hlt
        have hU0 := p2 j
        clear hU
        have hac := accR_rng (gt t c).1 (gt t c).2 r top j
        have hsu : accR (gt t c).1 (gt t c).2 r top (j + 1) = accR (gt t c).1 (gt t c).2 r top j + if condR (gt t c).1 (gt t c).2 r top j = true then 2 ^ j else 0 := rfl
        have hpw : (2 : Int) ^ (j + 1) = 2 * 2 ^ j := by rw [Int.pow_succ]; omega
        have hmod : (2 : Int) ^ j % 65536 = 2 ^ j := by omega
        rw [hmod]
        obtain ⟨U, hUe⟩ : ∃ U : Int, U = 2 ^ j := ⟨_, rfl⟩
        obtain ⟨A, hAe⟩ : ∃ A : Int, A = accR (gt t c).1 (gt t c).2 r top j := ⟨_, rfl⟩
        rw [← hUe] at hU1 hU0 hac hsu hpw ⊢
        rw [← hAe] at hac hsu HA
        obtain ⟨ha0, ha1⟩ := hac
        have HSU := Lib.hid hsu
        have HPW := Lib.hid hpw
        clear hsu hpw hmod hUe hAe
        have ha2 : A + U ≤ 65535 := by omega
        by_cases hk1 : (j : Int) = top - r
        · have hcnd : condR (gt t c).1 (gt t c).2 r top j = true := by simp [condR, hk1]
          have hk1b : ((j : Int) == top - r) = true := by simpa using hk1
          have HC := Lib.hid hcnd
          clear hcnd hk1
          go_wp2_with (first | ((with_reducible refine g_go ?_ ?_); exact rfl) | ((first | (with_reducible refine is_load 22 _ ?_) | (with_reducible refine is_one ?_)); refine k_load HA 2 rfl 22 _ rfl rfl _ rfl _ Try.underlying22 rfl _ rfl ?_) | ((first | (with_reducible refine is_load 22 _ ?_) | (with_reducible refine is_one ?_)); refine k_load HA 3 rfl 22 _ rfl rfl _ rfl _ Try.underlying22 rfl _ rfl ?_) | ((first | (with_reducible refine is_load 23 _ ?_) | (with_reducible refine is_one ?_)); refine k_load HA 3 rfl 23 _ rfl rfl _ rfl _ Try.underlying23 rfl _ rfl ?_) | ((first | (with_reducible refine is_store 23 _ _ ?_) | (with_reducible refine is_one ?_)); refine k_store HA 3 rfl 23 _ _ rfl rfl rfl _ rfl _ rfl sz23 (Nat.le_of_ble_eq_true rfl) (one_i _ _) #[.int .u64 top, .int .u16 (A + U)] rfl ?_; clear HA; intro wn HA; (try simp only [List.set_cons_zero, List.set_cons_succ] at HA)))
          go_roundw
          case rel => exact ⟨j + 1, by omega, by go_num, by rw [HPW.out, IntKind.wrap_u16], by rw [HSU.out, HC.out]; simp only [if_true]; exact HA⟩
          case measure => simp [intOf]; omega
        · have hk1b : ((j : Int) == top - r) = false := by simpa using hk1
          by_cases hk2 : top - (gt t c).1 ≤ j
          · cases hbit : bitB (gt t c).2 (j - (top - (gt t c).1)) with
            | true =>
              have hcnd : condR (gt t c).1 (gt t c).2 r top j = true := by simp [condR, hbit, hk2]
              have HC := Lib.hid hcnd
              clear hcnd hk1
              go_wp2_with (first | ((with_reducible refine g_go ?_ ?_); exact rfl) | ((first | (with_reducible refine is_load 22 _ ?_) | (with_reducible refine is_one ?_)); refine k_load HA 2 rfl 22 _ rfl rfl _ rfl _ Try.underlying22 rfl _ rfl ?_) | ((first | (with_reducible refine is_load 22 _ ?_) | (with_reducible refine is_one ?_)); refine k_load HA 3 rfl 22 _ rfl rfl _ rfl _ Try.underlying22 rfl _ rfl ?_) | ((first | (with_reducible refine is_load 23 _ ?_) | (with_reducible refine is_one ?_)); refine k_load HA 3 rfl 23 _ rfl rfl _ rfl _ Try.underlying23 rfl _ rfl ?_) | ((first | (with_reducible refine is_store 23 _ _ ?_) | (with_reducible refine is_one ?_)); refine k_store HA 3 rfl 23 _ _ rfl rfl rfl _ rfl _ rfl sz23 (Nat.le_of_ble_eq_true rfl) (one_i _ _) #[.int .u64 top, .int .u16 (A + U)] rfl ?_; clear HA; intro wn HA; (try simp only [List.set_cons_zero, List.set_cons_succ] at HA)) | ((first | (with_reducible refine is_load 28 _ ?_) | (with_reducible refine is_one ?_)); refine k_row HA 2 rfl 28 _ rfl rfl rfl _ Try.underlying28 rfl sz28 ?_) | (go_at_call 42; refine (bit_any (gt t c).1 (gt t c).2 ((j : Int) - (top - (gt t c).1)) h16 (by omega) (by omega) _).mono ?_; rintro e wn ⟨rfl, hb⟩; have HA1 := HA.call hb; clear HA hb; have HA := HA1; clear HA1))
              go_roundw
              case rel => exact ⟨j + 1, by omega, by go_num, by rw [HPW.out, IntKind.wrap_u16], by rw [HSU.out, HC.out]; simp only [if_true]; exact HA⟩
              case measure => simp [intOf]; omega
            | false =>
              have hcnd : condR (gt t c).1 (gt t c).2 r top j = false := by simp [condR, hbit, hk1]
              have HC := Lib.hid hcnd
              clear hcnd hk1
              go_wp2_with (first | ((with_reducible refine g_go ?_ ?_); exact rfl) | ((first | (with_reducible refine is_load 22 _ ?_) | (with_reducible refine is_one ?_)); refine k_load HA 2 rfl 22 _ rfl rfl _ rfl _ Try.underlying22 rfl _ rfl ?_) | ((first | (with_reducible refine is_load 22 _ ?_) | (with_reducible refine is_one ?_)); refine k_load HA 3 rfl 22 _ rfl rfl _ rfl _ Try.underlying22 rfl _ rfl ?_) | ((first | (with_reducible refine is_load 23 _ ?_) | (with_reducible refine is_one ?_)); refine k_load HA 3 rfl 23 _ rfl rfl _ rfl _ Try.underlying23 rfl _ rfl ?_) | ((first | (with_reducible refine is_store 23 _ _ ?_) | (with_reducible refine is_one ?_)); refine k_store HA 3 rfl 23 _ _ rfl rfl rfl _ rfl _ rfl sz23 (Nat.le_of_ble_eq_true rfl) (one_i _ _) #[.int .u64 top, .int .u16 (A + U)] rfl ?_; clear HA; intro wn HA; (try simp only [List.set_cons_zero, List.set_cons_succ] at HA)) | ((first | (with_reducible refine is_load 28 _ ?_) | (with_reducible refine is_one ?_)); refine k_row HA 2 rfl 28 _ rfl rfl rfl _ Try.underlying28 rfl sz28 ?_) | (go_at_call 42; refine (bit_any (gt t c).1 (gt t c).2 ((j : Int) - (top - (gt t c).1)) h16 (by omega) (by omega) _).mono ?_; rintro e wn ⟨rfl, hb⟩; have HA1 := HA.call hb; clear HA hb; have HA := HA1; clear HA1))
              go_roundw
              case rel => exact ⟨j + 1, by omega, by go_num, by rw [HPW.out, IntKind.wrap_u16], by rw [HSU.out, HC.out]; simp only [Bool.false_eq_true, if_false, Int.add_zero]; exact HA⟩
              case measure => simp [intOf]; omega
          · have hcnd : condR (gt t c).1 (gt t c).2 r top j = false := by simp [condR, hk1]; omega
            have HC := Lib.hid hcnd
            clear hcnd hk1
            go_wp2_with (first | ((with_reducible refine g_go ?_ ?_); exact rfl) | ((first | (with_reducible refine is_load 22 _ ?_) | (with_reducible refine is_one ?_)); refine k_load HA 2 rfl 22 _ rfl rfl _ rfl _ Try.underlying22 rfl _ rfl ?_) | ((first | (with_reducible refine is_load 22 _ ?_) | (with_reducible refine is_one ?_)); refine k_load HA 3 rfl 22 _ rfl rfl _ rfl _ Try.underlying22 rfl _ rfl ?_) | ((first | (with_reducible refine is_load 23 _ ?_) | (with_reducible refine is_one ?_)); refine k_load HA 3 rfl 23 _ rfl rfl _ rfl _ Try.underlying23 rfl _ rfl ?_) | ((first | (with_reducible refine is_store 23 _ _ ?_) | (with_reducible refine is_one ?_)); refine k_store HA 3 rfl 23 _ _ rfl rfl rfl _ rfl _ rfl sz23 (Nat.le_of_ble_eq_true rfl) (one_i _ _) #[.int .u64 top, .int .u16 (A + U)] rfl ?_; clear HA; intro wn HA; (try simp only [List.set_cons_zero, List.set_cons_succ] at HA)))
            go_roundw
            case rel => exact ⟨j + 1, by omega, by go_num, by rw [HPW.out, IntKind.wrap_u16], by rw [HSU.out, HC.out]; simp only [Bool.false_eq_true, if_false, Int.add_zero]; exact HA⟩
            case measure => simp [intOf]; omega
      · obtain rfl : j = 16 := by omega
        have hrc : raddC (gt t c).1 (gt t c).2 r = (top, accR (gt t c).1 (gt t c).2 r top 16) := by unfold raddC; rw [← HTOP.out]
        have HRC := Lib.hid hrc
        clear hrc
        have HSP := Lib.hid (spl_cells ht.len (k := c.toNat - 1) (by omega) (top, accR (gt t c).1 (gt t c).2 r top 16))
        have hoff : (c.toNat - 1) * 2 + (Value.agg #[.int .u64 top, .int .u16 (accR (gt t c).1 (gt t c).2 r top 16)]).cells.size ≤ (cells t).size := by
          rw [cells_size ht.len]
          show (c.toNat - 1) * 2 + 2 ≤ 16
          omega
        have hl : (t.set (c.toNat - 1) (top, accR (gt t c).1 (gt t c).2 r top 16)).length = 8 := by simp [ht.len]
        have hz : (cells (t.set (c.toNat - 1) (top, accR (gt t c).1 (gt t c).2 r top 16))).size = (cells (upto t 0)).size := by rw [cells_size hl, cells_size (upto_len ht.len (by omega))]
        go_wp2_with (first | ((with_reducible refine g_go ?_ ?_); exact rfl) | ((first | (with_reducible refine is_load 28 _ ?_) | (with_reducible refine is_one ?_)); refine k_row HA 3 rfl 28 _ rfl rfl rfl _ Try.underlying28 rfl sz28 ?_) | ((first | (with_reducible refine is_store 28 _ _ ?_) | (with_reducible refine is_one ?_)); refine k_store HA 0 rfl 28 _ _ rfl rfl rfl _ rfl _ rfl sz28 hoff (one_ii _ _ _ _) _ HSP.out ?_; clear HA; intro wn HA; (try simp only [List.set_cons_zero, List.set_cons_succ] at HA)) | (refine k_row HA 0 rfl 30 _ rfl rfl rfl _ Try.underlying30 rfl (cells_szR hl) ?_) | (refine k_over HA 1 rfl 30 _ _ rfl rfl rfl rfl _ rfl (cells_szR hl) hz (cells_one _) ?_; clear HA; intro wn HA; (try simp only [List.set_cons_zero, List.set_cons_succ] at HA)))
        exact bodyPost_ret (res2 rfl (rv_row HA 1 rfl rfl Try.underlying30 rfl (cells_szR hl)) (rv_tmp _)) rfl ⟨by rw [HRC.out]; rfl, HA.below⟩
end Go.Proofs.Ytapfediapkklnaa
