/- The walks of the functions of package done. -/
import Derived.Test.YtapfediapkklnaaProg
import Derived.Test.YtapfediapkklnaaK
import Derived.WalkLawsBesides
import Derived.Handy
import Derived.Lib.Hide
namespace Go.Proofs.Ytapfediapkklnaa
open Go.RowKit K
set_option linter.unusedSimpArgs false
set_option linter.unusedVariables false
theorem sz25 : (Try.prog.info? 25).map (·.size) = some 2 := by kernel_rfl
theorem sz27 : (Try.prog.info? 27).map (·.size) = some 16 := by kernel_rfl
theorem sz28 : (Try.prog.info? 28).map (·.size) = some 2 := by kernel_rfl
theorem sz30 : (Try.prog.info? 30).map (·.size) = some 16 := by kernel_rfl
theorem sz23 : (Try.prog.info? 23).map (·.size) = some 1 := by kernel_rfl
theorem sz22 : (Try.prog.info? 22).map (·.size) = some 1 := by kernel_rfl
def withinB (c : Int) : Bool := decide (1 ≤ c) && decide (c ≤ 8)
set_option maxHeartbeats 400000 in
theorem within_any (c : Int) (w : World) :
    Calls Try.prog 40 #[.int .u64 c] w fun e w' => e = .returned (.bool (withinB c)) ∧ w = w' := by
  go_enter Try.func40, Try.ntmps40
  go_wp2
  all_goals go_ret
  all_goals (refine ⟨?_, rfl⟩)
  all_goals simp [withinB, *]
  all_goals omega

def hasB (t b r : Int) : Bool := decide (0 < r) && decide (r ≤ t) && decide (t - r < 16) && (bits BinOp.and IntKind.u16 (b / 2 ^ (t - r).toNat) 1 == 1)
set_option maxHeartbeats 400000 in
theorem has_any (t b r : Int) (ht : U64 t) (hr : U64 r) (hb : U16 b) (w : World) :
    Calls Try.prog 45 #[.agg #[.int .u64 t, .int .u16 b], .int .u64 r] w fun e w' => e = .returned (.bool (hasB t b r)) ∧ Below w.heap.size w w' := by
  obtain ⟨ht, ht2⟩ := ht
  obtain ⟨hr, hr2⟩ := hr
  obtain ⟨hb, hb2⟩ := hb
  go_enter Try.func45, Try.ntmps45
  go_wp2
  all_goals (go_ret; refine ⟨ret_b ?_, by go_grown⟩; simp [hasB])
  all_goals omega

def oldB (t r : Int) : Bool := decide (r = 0) || (decide (r ≤ t) && decide (16 ≤ t - r))
set_option maxHeartbeats 400000 in
theorem old_any (t b r : Int) (ht : U64 t) (hr : U64 r) (hb : U16 b) (w : World) :
    Calls Try.prog 48 #[.agg #[.int .u64 t, .int .u16 b], .int .u64 r] w fun e w' => e = .returned (.bool (oldB t r)) ∧ Below w.heap.size w w' := by
  obtain ⟨ht, ht2⟩ := ht
  obtain ⟨hr, hr2⟩ := hr
  obtain ⟨hb, hb2⟩ := hb
  go_enter Try.func48, Try.ntmps48
  go_wp2
  all_goals (go_ret; refine ⟨ret_b ?_, by go_grown⟩; simp [oldB])
  all_goals omega

def withC (t b r : Int) : Int × Int := if t < r then (r, bits .or .u16 (IntKind.u16.wrap (b * 2 ^ min (r - t).toNat 16)) 1) else (t, bits .or .u16 b (IntKind.u16.wrap (2 ^ min (t - r).toNat 16)))
set_option maxHeartbeats 400000 in
theorem with_any (t b r : Int) (ht : U64 t) (hr : U64 r) (hb : U16 b) (w : World) :
    Calls Try.prog 41 #[.agg #[.int .u64 t, .int .u16 b], .int .u64 r] w fun e w' => e = .returned (.agg #[.int .u64 (withC t b r).1, .int .u16 (withC t b r).2]) ∧ Below w.heap.size w w' := by
  obtain ⟨ht, ht2⟩ := ht
  obtain ⟨hr, hr2⟩ := hr
  obtain ⟨hb, hb2⟩ := hb
  by_cases h : t < r
  · have h1 : 0 ≤ r - t := by omega
    have h2 : t ≤ r := by omega
    go_enter Try.func41, Try.ntmps41
    go_wp2
    refine bodyPost_ret (v := .agg #[.int .u64 r, .int .u16 (bits .or .u16 (IntKind.u16.wrap (b * 2 ^ min (r - t).toNat 16)) 1)]) (by simp [results, Try.results41, go_sem]) rfl ⟨by simp [withC, h], by go_grown⟩
  · go_enter Try.func41, Try.ntmps41
    go_wp2
    refine bodyPost_ret (v := .agg #[.int .u64 t, .int .u16 (bits .or .u16 b (IntKind.u16.wrap (2 ^ min (t - r).toNat 16)))]) (by simp [results, Try.results41, go_sem]) rfl ⟨by simp only [withC, if_neg (show ¬ t < r by omega)], by go_grown⟩

/-- A table's cells. -/
def tcs (t : List (Int × Int)) : List Value := t.flatMap fun x => [.int .u64 x.1, .int .u16 x.2]
def cells (t : List (Int × Int)) : Array Value := (tcs t).toArray
structure TOk (t : List (Int × Int)) : Prop where
  len : t.length = 8
  rng : ∀ x ∈ t, U64 x.1 ∧ U16 x.2
def gt (t : List (Int × Int)) (c : Int) : Int × Int := t.getD (c.toNat - 1) (0, 0)
theorem gt_ok {t : List (Int × Int)} (h : TOk t) (c : Int) : U64 (gt t c).1 ∧ U16 (gt t c).2 := by
  unfold gt
  rw [List.getD_eq_getElem?_getD]
  cases hq : t[c.toNat - 1]? with
  | none => simp [U64, U16]
  | some x => exact h.rng x (List.mem_of_getElem? hq)
theorem tcs_len (t : List (Int × Int)) : (tcs t).length = 2 * t.length := by
  induction t with
  | nil => rfl
  | cons x r ih => simp [tcs] at ih ⊢; omega
theorem tcs_at (t : List (Int × Int)) : ∀ i, i < t.length → (tcs t)[i * 2]? = some (.int .u64 (t.getD i (0, 0)).1) ∧ (tcs t)[i * 2 + 1]? = some (.int .u16 (t.getD i (0, 0)).2) := by
  induction t with
  | nil => intro i h; simp at h
  | cons x r ih =>
    intro i h
    cases i with
    | zero => simp [tcs]
    | succ i =>
      have h1 := ih i (by simp at h; omega)
      have e : (i + 1) * 2 = i * 2 + 2 := by omega
      rw [e]
      simpa [tcs] using h1
theorem cells_seg {t : List (Int × Int)} (h : TOk t) {c : Int} (h1 : 1 ≤ c) (h2 : c ≤ 8) : ∀ (j : Nat) (v : Value), [Value.int .u64 (gt t c).1, .int .u16 (gt t c).2][j]? = some v → (cells t)[(c.toNat - 1) * 2 + j]? = some v := by
  intro j v hj
  obtain ⟨e1, e2⟩ := tcs_at t (c.toNat - 1) (by rw [h.len]; omega)
  match j, hj with
  | 0, hj => simp at hj; subst hj; simpa [cells, gt] using e1
  | 1, hj => simp at hj; subst hj; simpa [cells, gt] using e2
  | (j + 2), hj => simp at hj

set_option maxHeartbeats 400000 in
theorem hasf_any (t b r : Int) (ht : U64 t) (hr : U64 r) (hb : U16 b) (ad : Addr) (w : World) (hc : w.cell? ad = some (.int .u64 r)) :
    Calls Try.prog 44 #[.agg #[.int .u64 t, .int .u16 b], .pointer (some ad)] w fun e w' => e = .returned (.bool (hasB t b r)) ∧ Below w.heap.size w w' := by
  have HA := Hp.start w
  go_enter Try.func44, Try.ntmps44
  go_wp2_with (first | ((with_reducible refine g_go ?_ ?_); exact rfl) | (first | (with_reducible refine kn0 HA ?_; clear HA; intro g0 wn hg HA; (try rw [← hg]); clear hg) | (with_reducible refine kn1 HA ?_; clear HA; intro g1 wn hg HA; (try rw [← hg]); clear hg) | (with_reducible refine kn2 HA ?_; clear HA; intro g2 wn hg HA; (try rw [← hg]); clear hg) | (with_reducible refine kn3 HA ?_; clear HA; intro g3 wn hg HA; (try rw [← hg]); clear hg) | (with_reducible refine kn4 HA ?_; clear HA; intro g4 wn hg HA; (try rw [← hg]); clear hg) | (with_reducible refine kn5 HA ?_; clear HA; intro g5 wn hg HA; (try rw [← hg]); clear hg) | (with_reducible refine kn6 HA ?_; clear HA; intro g6 wn hg HA; (try rw [← hg]); clear hg)) | (go_at_call 45; refine (has_any t b r ht hr hb _).mono ?_; rintro e wn ⟨rfl, hb⟩; have HA1 := HA.call hb; clear HA hb; have HA := HA1; clear HA1) | ((first | (with_reducible refine is_load 25 _ ?_) | (with_reducible refine is_one ?_)); refine k_row HA 0 rfl 25 _ rfl rfl rfl _ Try.underlying25 rfl sz25 ?_) | ((first | (with_reducible refine is_load 22 _ ?_) | (with_reducible refine is_one ?_)); refine k_was HA hc 22 _ rfl rfl rfl _ Try.underlying22 rfl ?_))
  go_ret
  exact ⟨rfl, HA.below⟩

set_option maxHeartbeats 400000 in
theorem oldf_any (t b r : Int) (ht : U64 t) (hr : U64 r) (hb : U16 b) (ad : Addr) (w : World) (hc : w.cell? ad = some (.int .u64 r)) :
    Calls Try.prog 47 #[.agg #[.int .u64 t, .int .u16 b], .pointer (some ad)] w fun e w' => e = .returned (.bool (oldB t r)) ∧ Below w.heap.size w w' := by
  have HA := Hp.start w
  go_enter Try.func47, Try.ntmps47
  go_wp2_with (first | ((with_reducible refine g_go ?_ ?_); exact rfl) | (first | (with_reducible refine kn0 HA ?_; clear HA; intro g0 wn hg HA; (try rw [← hg]); clear hg) | (with_reducible refine kn1 HA ?_; clear HA; intro g1 wn hg HA; (try rw [← hg]); clear hg) | (with_reducible refine kn2 HA ?_; clear HA; intro g2 wn hg HA; (try rw [← hg]); clear hg) | (with_reducible refine kn3 HA ?_; clear HA; intro g3 wn hg HA; (try rw [← hg]); clear hg) | (with_reducible refine kn4 HA ?_; clear HA; intro g4 wn hg HA; (try rw [← hg]); clear hg) | (with_reducible refine kn5 HA ?_; clear HA; intro g5 wn hg HA; (try rw [← hg]); clear hg) | (with_reducible refine kn6 HA ?_; clear HA; intro g6 wn hg HA; (try rw [← hg]); clear hg)) | (go_at_call 48; refine (old_any t b r ht hr hb _).mono ?_; rintro e wn ⟨rfl, hb⟩; have HA1 := HA.call hb; clear HA hb; have HA := HA1; clear HA1) | ((first | (with_reducible refine is_load 25 _ ?_) | (with_reducible refine is_one ?_)); refine k_row HA 0 rfl 25 _ rfl rfl rfl _ Try.underlying25 rfl sz25 ?_) | ((first | (with_reducible refine is_load 22 _ ?_) | (with_reducible refine is_one ?_)); refine k_was HA hc 22 _ rfl rfl rfl _ Try.underlying22 rfl ?_))
  go_ret
  exact ⟨rfl, HA.below⟩

set_option maxHeartbeats 400000 in
theorem of_has (t : List (Int × Int)) (ht : TOk t) (c r : Int) (hr : U64 r) (ad : Addr) (w : World) (hc : w.cell? ad = some (.int .u64 r)) :
    Calls Try.prog 43 #[.agg (cells t), .int .u64 c, .func (.func 44) #[] #[.pointer (some ad)]] w fun e w' => e = .returned (.bool (withinB c && hasB (gt t c).1 (gt t c).2 r)) ∧ Below w.heap.size w w' := by
  have HA := Hp.start w
  obtain ⟨h64, h16⟩ := gt_ok ht c
  by_cases hw : withinB c = true
  · have hw2 := hw
    simp only [withinB, Bool.and_eq_true, decide_eq_true_eq] at hw2
    obtain ⟨h1, h2⟩ := hw2
    go_enter Try.func43, Try.ntmps43
    go_wp2_with (first | ((with_reducible refine g_go ?_ ?_); exact rfl) | (first | (with_reducible refine kn0 HA ?_; clear HA; intro g0 wn hg HA; (try rw [← hg]); clear hg) | (with_reducible refine kn1 HA ?_; clear HA; intro g1 wn hg HA; (try rw [← hg]); clear hg) | (with_reducible refine kn2 HA ?_; clear HA; intro g2 wn hg HA; (try rw [← hg]); clear hg) | (with_reducible refine kn3 HA ?_; clear HA; intro g3 wn hg HA; (try rw [← hg]); clear hg) | (with_reducible refine kn4 HA ?_; clear HA; intro g4 wn hg HA; (try rw [← hg]); clear hg) | (with_reducible refine kn5 HA ?_; clear HA; intro g5 wn hg HA; (try rw [← hg]); clear hg) | (with_reducible refine kn6 HA ?_; clear HA; intro g6 wn hg HA; (try rw [← hg]); clear hg)) | (go_at_call 40; refine (within_any _ _).mono ?_; rintro e wn ⟨rfl, rfl⟩) | (go_at_call 44; refine (hasf_any (gt t c).1 (gt t c).2 r h64 hr h16 ad _ (HA.was hc)).mono ?_; rintro e wn ⟨rfl, hb⟩; have HA1 := HA.call hb; clear HA hb; have HA := HA1; clear HA1) | ((first | (with_reducible refine is_load 25 _ ?_) | (with_reducible refine is_one ?_)); refine k_seg HA 0 rfl 25 _ rfl rfl _ rfl _ Try.underlying25 rfl 2 sz25 [.int .u64 (gt t c).1, .int .u16 (gt t c).2] rfl (cells_seg ht h1 h2) ?_))
    go_ret
    exact ⟨ret_b (by simp [hw]), HA.below⟩
  · have hw' : withinB c = false := by simpa using hw
    go_enter Try.func43, Try.ntmps43
    go_wp2_with (first | ((with_reducible refine g_go ?_ ?_); exact rfl) | (first | (with_reducible refine kn0 HA ?_; clear HA; intro g0 wn hg HA; (try rw [← hg]); clear hg) | (with_reducible refine kn1 HA ?_; clear HA; intro g1 wn hg HA; (try rw [← hg]); clear hg) | (with_reducible refine kn2 HA ?_; clear HA; intro g2 wn hg HA; (try rw [← hg]); clear hg) | (with_reducible refine kn3 HA ?_; clear HA; intro g3 wn hg HA; (try rw [← hg]); clear hg) | (with_reducible refine kn4 HA ?_; clear HA; intro g4 wn hg HA; (try rw [← hg]); clear hg) | (with_reducible refine kn5 HA ?_; clear HA; intro g5 wn hg HA; (try rw [← hg]); clear hg) | (with_reducible refine kn6 HA ?_; clear HA; intro g6 wn hg HA; (try rw [← hg]); clear hg)) | (go_at_call 40; refine (within_any _ _).mono ?_; rintro e wn ⟨rfl, rfl⟩))
    go_ret
    exact ⟨ret_b (by simp [hw']), HA.below⟩

set_option maxHeartbeats 400000 in
theorem of_old (t : List (Int × Int)) (ht : TOk t) (c r : Int) (hr : U64 r) (ad : Addr) (w : World) (hc : w.cell? ad = some (.int .u64 r)) :
    Calls Try.prog 43 #[.agg (cells t), .int .u64 c, .func (.func 47) #[] #[.pointer (some ad)]] w fun e w' => e = .returned (.bool (withinB c && oldB (gt t c).1 r)) ∧ Below w.heap.size w w' := by
  have HA := Hp.start w
  obtain ⟨h64, h16⟩ := gt_ok ht c
  by_cases hw : withinB c = true
  · have hw2 := hw
    simp only [withinB, Bool.and_eq_true, decide_eq_true_eq] at hw2
    obtain ⟨h1, h2⟩ := hw2
    go_enter Try.func43, Try.ntmps43
    go_wp2_with (first | ((with_reducible refine g_go ?_ ?_); exact rfl) | (first | (with_reducible refine kn0 HA ?_; clear HA; intro g0 wn hg HA; (try rw [← hg]); clear hg) | (with_reducible refine kn1 HA ?_; clear HA; intro g1 wn hg HA; (try rw [← hg]); clear hg) | (with_reducible refine kn2 HA ?_; clear HA; intro g2 wn hg HA; (try rw [← hg]); clear hg) | (with_reducible refine kn3 HA ?_; clear HA; intro g3 wn hg HA; (try rw [← hg]); clear hg) | (with_reducible refine kn4 HA ?_; clear HA; intro g4 wn hg HA; (try rw [← hg]); clear hg) | (with_reducible refine kn5 HA ?_; clear HA; intro g5 wn hg HA; (try rw [← hg]); clear hg) | (with_reducible refine kn6 HA ?_; clear HA; intro g6 wn hg HA; (try rw [← hg]); clear hg)) | (go_at_call 40; refine (within_any _ _).mono ?_; rintro e wn ⟨rfl, rfl⟩) | (go_at_call 47; refine (oldf_any (gt t c).1 (gt t c).2 r h64 hr h16 ad _ (HA.was hc)).mono ?_; rintro e wn ⟨rfl, hb⟩; have HA1 := HA.call hb; clear HA hb; have HA := HA1; clear HA1) | ((first | (with_reducible refine is_load 25 _ ?_) | (with_reducible refine is_one ?_)); refine k_seg HA 0 rfl 25 _ rfl rfl _ rfl _ Try.underlying25 rfl 2 sz25 [.int .u64 (gt t c).1, .int .u16 (gt t c).2] rfl (cells_seg ht h1 h2) ?_))
    go_ret
    exact ⟨ret_b (by simp [hw]), HA.below⟩
  · have hw' : withinB c = false := by simpa using hw
    go_enter Try.func43, Try.ntmps43
    go_wp2_with (first | ((with_reducible refine g_go ?_ ?_); exact rfl) | (first | (with_reducible refine kn0 HA ?_; clear HA; intro g0 wn hg HA; (try rw [← hg]); clear hg) | (with_reducible refine kn1 HA ?_; clear HA; intro g1 wn hg HA; (try rw [← hg]); clear hg) | (with_reducible refine kn2 HA ?_; clear HA; intro g2 wn hg HA; (try rw [← hg]); clear hg) | (with_reducible refine kn3 HA ?_; clear HA; intro g3 wn hg HA; (try rw [← hg]); clear hg) | (with_reducible refine kn4 HA ?_; clear HA; intro g4 wn hg HA; (try rw [← hg]); clear hg) | (with_reducible refine kn5 HA ?_; clear HA; intro g5 wn hg HA; (try rw [← hg]); clear hg) | (with_reducible refine kn6 HA ?_; clear HA; intro g6 wn hg HA; (try rw [← hg]); clear hg)) | (go_at_call 40; refine (within_any _ _).mono ?_; rintro e wn ⟨rfl, rfl⟩))
    go_ret
    exact ⟨ret_b (by simp [hw']), HA.below⟩

def hasT (t : List (Int × Int)) (c r : Int) : Bool := withinB c && hasB (gt t c).1 (gt t c).2 r
def oldT (t : List (Int × Int)) (c r : Int) : Bool := withinB c && oldB (gt t c).1 r
theorem cells_size {t : List (Int × Int)} (h : t.length = 8) : (cells t).size = 16 := by simp [cells, tcs_len, h]
theorem cells_sz {t : List (Int × Int)} (h : t.length = 8) : (Try.prog.info? 27).map (·.size) = some (cells t).size := by rw [cells_size h]; exact sz27
theorem cells_szR {t : List (Int × Int)} (h : t.length = 8) : (Try.prog.info? 30).map (·.size) = some (cells t).size := by rw [cells_size h]; exact sz30

set_option maxHeartbeats 400000 in
theorem hasT_any (t : List (Int × Int)) (ht : TOk t) (c r : Int) (hr : U64 r) (w : World) :
    Calls Try.prog 13 #[.agg (cells t), .int .u64 c, .int .u64 r] w fun e w' => e = .returned (.bool (hasT t c r)) ∧ Below w.heap.size w w' := by
  have HA := Hp.start w
  go_enter Try.func13, Try.ntmps13
  go_wp2_with (first | ((with_reducible refine g_go ?_ ?_); exact rfl) | (first | (with_reducible refine kn0 HA ?_; clear HA; intro g0 wn hg HA; (try rw [← hg]); clear hg) | (with_reducible refine kn1 HA ?_; clear HA; intro g1 wn hg HA; (try rw [← hg]); clear hg) | (with_reducible refine kn2 HA ?_; clear HA; intro g2 wn hg HA; (try rw [← hg]); clear hg) | (with_reducible refine kn3 HA ?_; clear HA; intro g3 wn hg HA; (try rw [← hg]); clear hg) | (with_reducible refine kn4 HA ?_; clear HA; intro g4 wn hg HA; (try rw [← hg]); clear hg) | (with_reducible refine kn5 HA ?_; clear HA; intro g5 wn hg HA; (try rw [← hg]); clear hg) | (with_reducible refine kn6 HA ?_; clear HA; intro g6 wn hg HA; (try rw [← hg]); clear hg)) | (refine k_row HA 0 rfl 27 _ rfl rfl rfl _ Try.underlying27 rfl (cells_sz ht.len) ?_) | (go_at_call 43; refine (of_has t ht c r hr _ _ (HA.cell (i := 1) rfl 0)).mono ?_; rintro e wn ⟨rfl, hb⟩; have HA1 := HA.call hb; clear HA hb; have HA := HA1; clear HA1))
  go_ret
  exact ⟨rfl, HA.below⟩
set_option maxHeartbeats 400000 in
theorem oldT_any (t : List (Int × Int)) (ht : TOk t) (c r : Int) (hr : U64 r) (w : World) :
    Calls Try.prog 15 #[.agg (cells t), .int .u64 c, .int .u64 r] w fun e w' => e = .returned (.bool (oldT t c r)) ∧ Below w.heap.size w w' := by
  have HA := Hp.start w
  go_enter Try.func15, Try.ntmps15
  go_wp2_with (first | ((with_reducible refine g_go ?_ ?_); exact rfl) | (first | (with_reducible refine kn0 HA ?_; clear HA; intro g0 wn hg HA; (try rw [← hg]); clear hg) | (with_reducible refine kn1 HA ?_; clear HA; intro g1 wn hg HA; (try rw [← hg]); clear hg) | (with_reducible refine kn2 HA ?_; clear HA; intro g2 wn hg HA; (try rw [← hg]); clear hg) | (with_reducible refine kn3 HA ?_; clear HA; intro g3 wn hg HA; (try rw [← hg]); clear hg) | (with_reducible refine kn4 HA ?_; clear HA; intro g4 wn hg HA; (try rw [← hg]); clear hg) | (with_reducible refine kn5 HA ?_; clear HA; intro g5 wn hg HA; (try rw [← hg]); clear hg) | (with_reducible refine kn6 HA ?_; clear HA; intro g6 wn hg HA; (try rw [← hg]); clear hg)) | (refine k_row HA 0 rfl 27 _ rfl rfl rfl _ Try.underlying27 rfl (cells_sz ht.len) ?_) | (go_at_call 43; refine (of_old t ht c r hr _ _ (HA.cell (i := 1) rfl 0)).mono ?_; rintro e wn ⟨rfl, hb⟩; have HA1 := HA.call hb; clear HA hb; have HA := HA1; clear HA1))
  go_ret
  exact ⟨rfl, HA.below⟩

theorem eq_client (x y : Int × Int) (w : World) : (Op.equalIn 9999 25 (.agg #[.int .u64 x.1, .int .u16 x.2]) (.agg #[.int .u64 y.1, .int .u16 y.2])).run Try.prog w = .ok (decide (x = y)) w := by
  have e : decide (x = y) = (x.1 == y.1 && x.2 == y.2) := by
    rw [Bool.eq_iff_iff]
    simp [Prod.ext_iff]
  rw [e]
  simp [go_sem]
  by_cases h1 : x.1 = y.1 <;> by_cases h2 : x.2 = y.2 <;> simp [h1, h2]

theorem tcs_ext {t u : List (Int × Int)} (ht : t.length = 8) (hu : u.length = 8) : (List.range 8).all (fun i => decide (t.getD i (0, 0) = u.getD i (0, 0))) = decide (t = u) := by
  rw [Bool.eq_iff_iff]
  simp only [List.all_eq_true, List.mem_range, decide_eq_true_eq]
  constructor
  · intro h
    apply List.ext_getElem (by omega)
    intro i h1 h2
    have := h i (by omega)
    simpa [List.getD_eq_getElem?_getD, h1, h2] using this
  · rintro rfl i _
    rfl
theorem cells_part {t : List (Int × Int)} (ht : t.length = 8) (i : Nat) (hi : i < 8) : (cells t).extract (i * 2) (i * 2 + 2) = #[.int .u64 (t.getD i (0, 0)).1, .int .u16 (t.getD i (0, 0)).2] := by
  obtain ⟨e1, e2⟩ := tcs_at t i (by omega)
  have hl := tcs_len t
  apply Array.ext
  · simp [cells, hl]; omega
  · intro j h1 h2
    simp at h2
    match j, h2 with
    | 0, _ => simpa [cells, List.getElem_eq_iff] using e1
    | 1, _ => simpa [cells, List.getElem_eq_iff] using e2
theorem eq_table {t u : List (Int × Int)} (ht : t.length = 8) (hu : u.length = 8) (w : World) : (Op.equalIn 10000 27 (.agg (cells t)) (.agg (cells u))).run Try.prog w = .ok (decide (t = u)) w := by
  rw [← tcs_ext ht hu]
  refine eqIn_array w 9999 27 _ _ 8 25 2 Try.underlying27 sz25 (fun i => .agg #[.int .u64 (t.getD i (0, 0)).1, .int .u16 (t.getD i (0, 0)).2]) (fun i => .agg #[.int .u64 (u.getD i (0, 0)).1, .int .u16 (u.getD i (0, 0)).2]) _ (fun i hi => ?_) (fun i hi => ?_) (fun i _ => eq_client _ _ w)
  · rw [run_part_agg w _ _ Try.underlying25 rfl 2 sz25, cells_part ht i hi]
  · rw [run_part_agg w _ _ Try.underlying25 rfl 2 sz25, cells_part hu i hi]

theorem mixed : Try.prog.follows .mixedOrders = true := by kernel_rfl
theorem cells_one (t : List (Int × Int)) : ∀ u ∈ (cells t).toList, u.oneCell' = true := by
  intro u hu
  simp only [cells, tcs, List.mem_flatMap] at hu
  obtain ⟨x, _, hx⟩ := hu
  simp at hx
  rcases hx with rfl | rfl <;> rfl
theorem spl_cells {t : List (Int × Int)} (ht : t.length = 8) {k : Nat} (hk : k < 8) (x : Int × Int) : spl (cells t) (k * 2) (Value.agg #[.int .u64 x.1, .int .u16 x.2]).cells.toList = cells (t.set k x) := by
  have key : ∀ (t : List (Int × Int)) (k : Nat), k < t.length → (tcs t).take (k * 2) ++ [Value.int .u64 x.1, .int .u16 x.2] ++ (tcs t).drop (k * 2 + 2) = tcs (t.set k x) := by
    intro t
    induction t with
    | nil => intro k h; simp at h
    | cons y r ih =>
      intro k h
      cases k with
      | zero => simp [tcs]
      | succ k =>
        have h1 := ih k (by simp at h; omega)
        have e : (k + 1) * 2 = k * 2 + 2 := by omega
        rw [e]
        have e2 : tcs (y :: r) = [Value.int .u64 y.1, .int .u16 y.2] ++ tcs r := rfl
        have e3 : tcs ((y :: r).set (k + 1) x) = [Value.int .u64 y.1, .int .u16 y.2] ++ tcs (r.set k x) := rfl
        rw [e2, e3, ← h1]
        simp
  have h := key t k (by omega)
  simp only [spl, cells, Value.cells]
  rw [← h]
  rfl
def setC (t : List (Int × Int)) (c : Int) (x : Int × Int) : List (Int × Int) := t.set (c.toNat - 1) x
def addT (t : List (Int × Int)) (c r : Int) : List (Int × Int) × Bool :=
  if (withinB c && !oldB (gt t c).1 r) = true then (setC t c (withC (gt t c).1 (gt t c).2 r), !decide (setC t c (withC (gt t c).1 (gt t c).2 r) = t)) else (t, false)

set_option maxHeartbeats 1000000 in
theorem add_any (t : List (Int × Int)) (ht : TOk t) (c r : Int) (hr : U64 r) (w : World) :
    Calls Try.prog 11 #[.agg (cells t), .int .u64 c, .int .u64 r] w fun e w' => e = .returned (.tuple #[.agg (cells (addT t c r).1), .bool (addT t c r).2]) ∧ Below w.heap.size w w' := by
  have HA := Hp.start w
  obtain ⟨h64, h16⟩ := gt_ok ht c
  by_cases hw : withinB c = true
  · have hw2 := hw
    simp only [withinB, Bool.and_eq_true, decide_eq_true_eq] at hw2
    obtain ⟨h1, h2⟩ := hw2
    cases ho : oldB (gt t c).1 r with
    | true =>
      have hoT : oldT t c r = true := by simp [oldT, hw, ho]
      have hres : addT t c r = (t, false) := by simp [addT, ho]
      rw [hres]
      go_enter Try.func11, Try.ntmps11
      go_wp2_with (first | ((with_reducible refine g_go ?_ ?_); exact rfl) | (first | (with_reducible refine kn0 HA ?_; clear HA; intro g0 wn hg HA; (try rw [← hg]); clear hg) | (with_reducible refine kn1 HA ?_; clear HA; intro g1 wn hg HA; (try rw [← hg]); clear hg) | (with_reducible refine kn2 HA ?_; clear HA; intro g2 wn hg HA; (try rw [← hg]); clear hg) | (with_reducible refine kn3 HA ?_; clear HA; intro g3 wn hg HA; (try rw [← hg]); clear hg) | (with_reducible refine kn4 HA ?_; clear HA; intro g4 wn hg HA; (try rw [← hg]); clear hg) | (with_reducible refine kn5 HA ?_; clear HA; intro g5 wn hg HA; (try rw [← hg]); clear hg) | (with_reducible refine kn6 HA ?_; clear HA; intro g6 wn hg HA; (try rw [← hg]); clear hg)) | (go_at_call 40; refine (within_any _ _).mono ?_; rintro e wn ⟨rfl, rfl⟩) | (refine k_row HA 0 rfl 27 _ rfl rfl rfl _ Try.underlying27 rfl (cells_sz ht.len) ?_) | (go_at_call 15; refine (oldT_any t ht c r hr _).mono ?_; rintro e wn ⟨rfl, hb⟩; have HA1 := HA.call hb; clear HA hb; have HA := HA1; clear HA1) | (refine k_over HA 1 rfl 27 _ _ rfl rfl rfl rfl _ rfl (cells_sz ht.len) (cells_size ht.len) (cells_one t) ?_; clear HA; intro wn HA; (try simp only [List.set_cons_zero, List.set_cons_succ] at HA)))
      exact bodyPost_ret (res2 rfl (rv_row HA 1 rfl rfl Try.underlying27 rfl (cells_sz ht.len)) (rv_tmp _)) rfl ⟨rfl, HA.below⟩
    | false =>
      have hoT : oldT t c r = false := by simp [oldT, ho]
      have hres : addT t c r = (setC t c (withC (gt t c).1 (gt t c).2 r), !decide (setC t c (withC (gt t c).1 (gt t c).2 r) = t)) := by simp [addT, hw, ho]
      rw [hres]
      clear hres
      have hl : (setC t c (withC (gt t c).1 (gt t c).2 r)).length = 8 := by simp [setC, ht.len]
      have hsp := spl_cells ht.len (k := c.toNat - 1) (by omega) (withC (gt t c).1 (gt t c).2 r)
      have HSP := Lib.hid hsp
      clear hsp
      have hq := eq_table hl ht.len
      have hoff : (c.toNat - 1) * 2 + (Value.agg #[.int .u64 (withC (gt t c).1 (gt t c).2 r).1, .int .u16 (withC (gt t c).1 (gt t c).2 r).2]).cells.size ≤ (cells t).size := by
        rw [cells_size ht.len]
        show (c.toNat - 1) * 2 + 2 ≤ 16
        omega
      go_enter Try.func11, Try.ntmps11
      go_wp2_with (first | ((with_reducible refine g_go ?_ ?_); exact rfl) | (first | (with_reducible refine kn0 HA ?_; clear HA; intro g0 wn hg HA; (try rw [← hg]); clear hg) | (with_reducible refine kn1 HA ?_; clear HA; intro g1 wn hg HA; (try rw [← hg]); clear hg) | (with_reducible refine kn2 HA ?_; clear HA; intro g2 wn hg HA; (try rw [← hg]); clear hg) | (with_reducible refine kn3 HA ?_; clear HA; intro g3 wn hg HA; (try rw [← hg]); clear hg) | (with_reducible refine kn4 HA ?_; clear HA; intro g4 wn hg HA; (try rw [← hg]); clear hg) | (with_reducible refine kn5 HA ?_; clear HA; intro g5 wn hg HA; (try rw [← hg]); clear hg) | (with_reducible refine kn6 HA ?_; clear HA; intro g6 wn hg HA; (try rw [← hg]); clear hg)) | (go_at_call 40; refine (within_any _ _).mono ?_; rintro e wn ⟨rfl, rfl⟩) | (refine k_row HA 0 rfl 27 _ rfl rfl rfl _ Try.underlying27 rfl (cells_sz ht.len) ?_) | (go_at_call 15; refine (oldT_any t ht c r hr _).mono ?_; rintro e wn ⟨rfl, hb⟩; have HA1 := HA.call hb; clear HA hb; have HA := HA1; clear HA1) | ((first | (with_reducible refine is_load 25 _ ?_) | (with_reducible refine is_one ?_)); refine k_seg HA 0 rfl 25 _ rfl rfl _ rfl _ Try.underlying25 rfl 2 sz25 [.int .u64 (gt t c).1, .int .u16 (gt t c).2] rfl (cells_seg ht h1 h2) ?_) | (go_at_call 41; refine (with_any (gt t c).1 (gt t c).2 r h64 hr h16 _).mono ?_; rintro e wn ⟨rfl, hb⟩; have HA1 := HA.call hb; clear HA hb; have HA := HA1; clear HA1) | (refine k_over HA 2 rfl 27 _ _ rfl rfl rfl rfl _ rfl (cells_sz ht.len) (cells_size ht.len) (cells_one t) ?_; clear HA; intro wn HA; (try simp only [List.set_cons_zero, List.set_cons_succ] at HA)) | ((first | (with_reducible refine is_store 25 _ _ ?_) | (with_reducible refine is_one ?_)); refine k_store HA 2 rfl 25 _ _ rfl rfl rfl _ rfl _ rfl sz25 hoff (one_ii _ _ _ _) _ HSP.out ?_; clear HA; intro wn HA; (try simp only [List.set_cons_zero, List.set_cons_succ] at HA)))
      rw [show t.set (c.toNat - 1) (withC (gt t c).1 (gt t c).2 r) = setC t c (withC (gt t c).1 (gt t c).2 r) from rfl] at HA
      refine k_reg1 HA 4 1 rfl (cells (setC t c (withC (gt t c).1 (gt t c).2 r))) _ [(29, .agg (cells (setC t c (withC (gt t c).1 (gt t c).2 r)))), (30, .agg (cells (setC t c (withC (gt t c).1 (gt t c).2 r)))), (31, .agg (cells t)), (32, .bool (!decide (setC t c (withC (gt t c).1 (gt t c).2 r) = t))), (7, .bool (!decide (setC t c (withC (gt t c).1 (gt t c).2 r) = t)))] mixed (by kernel_rfl) (by decide) rfl rfl ?good ?store ?rest
      case good =>
        intro i hi his X wn hX HA
        dsimp only [List.set_cons_zero, List.set_cons_succ] at HA
        obtain rfl | rfl | rfl | rfl | rfl : i = 0 ∨ i = 1 ∨ i = 2 ∨ i = 3 ∨ i = 5 := by simp at hi; omega
        all_goals (clear hX hi his; refine ⟨_, rfl, fun K hK => ?_⟩; simp only [fillL, Act.put, List.setIfInBounds_toArray, List.set_cons_zero, List.set_cons_succ])
        all_goals go_wp2_with (first | ((with_reducible refine g_go ?_ ?_); exact rfl) | (refine k_row HA 0 rfl 27 _ rfl rfl rfl _ Try.underlying27 rfl (cells_sz ht.len) ?_) | (refine k_row HA 2 rfl 27 _ rfl rfl rfl _ Try.underlying27 rfl (cells_sz hl) ?_))
        all_goals exact hK _ _ rfl HA
      case store =>
        intro wn HA
        refine ⟨_, rfl, fun K hK => ?_⟩
        simp only [fillL, Act.put, List.setIfInBounds_toArray, List.set_cons_zero, List.set_cons_succ]
        go_wp2_with (refine k_over HA 1 rfl 27 _ _ rfl rfl rfl rfl _ rfl (cells_sz hl) (cells_size hl) (cells_one _) ?_; clear HA; intro wn HA)
        exact hK _ _ rfl HA
      case rest =>
        intro wn HA
        simp only [fillL, Act.put, List.setIfInBounds_toArray, List.set_cons_zero, List.set_cons_succ]
        go_wp2
        exact bodyPost_ret (res2 rfl (rv_row HA 1 rfl rfl Try.underlying27 rfl (cells_sz hl)) (rv_tmp _)) rfl ⟨rfl, HA.below⟩
  · have hw' : withinB c = false := by simpa using hw
    have hres : addT t c r = (t, false) := by simp [addT, hw']
    rw [hres]
    go_enter Try.func11, Try.ntmps11
    go_wp2_with (first | ((with_reducible refine g_go ?_ ?_); exact rfl) | (first | (with_reducible refine kn0 HA ?_; clear HA; intro g0 wn hg HA; (try rw [← hg]); clear hg) | (with_reducible refine kn1 HA ?_; clear HA; intro g1 wn hg HA; (try rw [← hg]); clear hg) | (with_reducible refine kn2 HA ?_; clear HA; intro g2 wn hg HA; (try rw [← hg]); clear hg) | (with_reducible refine kn3 HA ?_; clear HA; intro g3 wn hg HA; (try rw [← hg]); clear hg) | (with_reducible refine kn4 HA ?_; clear HA; intro g4 wn hg HA; (try rw [← hg]); clear hg) | (with_reducible refine kn5 HA ?_; clear HA; intro g5 wn hg HA; (try rw [← hg]); clear hg) | (with_reducible refine kn6 HA ?_; clear HA; intro g6 wn hg HA; (try rw [← hg]); clear hg)) | (go_at_call 40; refine (within_any _ _).mono ?_; rintro e wn ⟨rfl, rfl⟩) | (refine k_row HA 0 rfl 27 _ rfl rfl rfl _ Try.underlying27 rfl (cells_sz ht.len) ?_) | (refine k_over HA 1 rfl 27 _ _ rfl rfl rfl rfl _ rfl (cells_sz ht.len) (cells_size ht.len) (cells_one t) ?_; clear HA; intro wn HA; (try simp only [List.set_cons_zero, List.set_cons_succ] at HA)))
    exact bodyPost_ret (res2 rfl (rv_row HA 1 rfl rfl Try.underlying27 rfl (cells_sz ht.len)) (rv_tmp _)) rfl ⟨rfl, HA.below⟩
/-- The first k of a table, noughts behind. -/
def upto (t : List (Int × Int)) (k : Nat) : List (Int × Int) := t.take k ++ List.replicate (8 - k) (0, 0)
theorem upto_len {t : List (Int × Int)} (ht : t.length = 8) {k : Nat} (hk : k ≤ 8) : (upto t k).length = 8 := by simp [upto, ht]; omega
theorem upto_all {t : List (Int × Int)} (ht : t.length = 8) : upto t 8 = t := by simp [upto, ← ht]
theorem upto_set {t : List (Int × Int)} (ht : t.length = 8) {k : Nat} (hk : k < 8) : (upto t k).set k (t.getD k (0, 0)) = upto t (k + 1) := by
  unfold upto
  have h1 : k < t.length := by omega
  have h2 : 8 - k = (8 - (k + 1)) + 1 := by omega
  rw [h2, List.replicate_succ, List.take_succ_eq_append_getElem h1]
  rw [List.set_append_right _ _ (by simp; omega)]
  simp [List.getD_eq_getElem?_getD, h1, Nat.min_eq_left (Nat.le_of_lt h1)]
  rw [List.take_succ_eq_append_getElem h1, List.append_assoc]
  rfl

set_option maxHeartbeats 1000000 in
theorem plain_any (t : List (Int × Int)) (ht : TOk t) (w : World) :
    Calls Try.prog 10 #[.agg (cells t)] w fun e w' => e = .returned (.agg (cells t)) ∧ Below w.heap.size w w' := by
  have HA := Hp.start w
  go_enter Try.func10, Try.ntmps10
  go_wp2_with (first | ((with_reducible refine g_go ?_ ?_); exact rfl) | (first | (with_reducible refine kn0 HA ?_; clear HA; intro g0 wn hg HA; (try rw [← hg]); clear hg) | (with_reducible refine kn1 HA ?_; clear HA; intro g1 wn hg HA; (try rw [← hg]); clear hg) | (with_reducible refine kn2 HA ?_; clear HA; intro g2 wn hg HA; (try rw [← hg]); clear hg) | (with_reducible refine kn3 HA ?_; clear HA; intro g3 wn hg HA; (try rw [← hg]); clear hg) | (with_reducible refine kn4 HA ?_; clear HA; intro g4 wn hg HA; (try rw [← hg]); clear hg) | (with_reducible refine kn5 HA ?_; clear HA; intro g5 wn hg HA; (try rw [← hg]); clear hg) | (with_reducible refine kn6 HA ?_; clear HA; intro g6 wn hg HA; (try rw [← hg]); clear hg)))
  rw [show (#[Value.int IntKind.u64 0, Value.int IntKind.u16 0, Value.int IntKind.u64 0, Value.int IntKind.u16 0, Value.int IntKind.u64 0, Value.int IntKind.u16 0, Value.int IntKind.u64 0, Value.int IntKind.u16 0, Value.int IntKind.u64 0, Value.int IntKind.u16 0, Value.int IntKind.u64 0, Value.int IntKind.u16 0, Value.int IntKind.u64 0, Value.int IntKind.u16 0, Value.int IntKind.u64 0, Value.int IntKind.u16 0] : Array Value) = cells (upto t 0) from rfl] at HA
  go_loopw [5] (fun v5 wr => ∃ k : Nat, k ≤ 8 ∧ v5 = .int .i64 k ∧ Hp w.heap.size (fun _ => False) w wr [⟨g0, cells t, 27⟩, ⟨g1, cells (upto t 0), 30⟩, ⟨g2, cells (upto t k), 30⟩]) (fun v5 _ => 8 - (intOf v5).toNat)
  case atStart => exact ⟨0, by omega, rfl, HA⟩
  case round =>
    clear HA
    obtain ⟨k, hk, rfl, HA⟩ := hrel
    by_cases h8 : k < 8
    · have hsg : ∀ (j : Nat) (v : Value), [Value.int .u64 (t.getD k (0, 0)).1, .int .u16 (t.getD k (0, 0)).2][j]? = some v → (cells t)[k * 2 + j]? = some v := by
        have := cells_seg ht (c := (k : Int) + 1) (by omega) (by omega)
        have e : ((k : Int) + 1).toNat - 1 = k := by omega
        simpa [gt, e] using this
      have hoff : k * 2 + (Value.agg #[.int .u64 (t.getD k (0, 0)).1, .int .u16 (t.getD k (0, 0)).2]).cells.size ≤ (cells (upto t k)).size := by
        rw [cells_size (upto_len ht.len hk)]
        show k * 2 + 2 ≤ 16
        omega
      have HSP := Lib.hid (spl_cells (upto_len ht.len hk) h8 (t.getD k (0, 0)))
      rw [upto_set ht.len h8] at HSP
      go_wp2_with (first | ((with_reducible refine g_go ?_ ?_); exact rfl) | ((first | (with_reducible refine is_load 25 _ ?_) | (with_reducible refine is_one ?_)); refine k_seg HA 0 rfl 25 _ rfl rfl _ rfl _ Try.underlying25 rfl 2 sz25 [.int .u64 (t.getD k (0, 0)).1, .int .u16 (t.getD k (0, 0)).2] rfl hsg ?_) | ((first | (with_reducible refine is_store 28 _ _ ?_) | (with_reducible refine is_one ?_)); refine k_store HA 2 rfl 28 _ _ rfl rfl rfl _ rfl _ rfl sz28 hoff (one_ii _ _ _ _) _ HSP.out ?_; clear HA; intro wn HA; (try simp only [List.set_cons_zero, List.set_cons_succ] at HA)))
      go_roundw
      case rel => exact ⟨k + 1, by omega, by go_num, HA⟩
      case measure => simp [intOf]; omega
    · obtain rfl : k = 8 := by omega
      rw [upto_all ht.len] at HA
      go_wp2_with (first | ((with_reducible refine g_go ?_ ?_); exact rfl) | (refine k_row HA 2 rfl 30 _ rfl rfl rfl _ Try.underlying30 rfl (cells_szR ht.len) ?_) | (refine k_over HA 1 rfl 30 _ _ rfl rfl rfl rfl _ rfl (cells_szR ht.len) (by rw [cells_size ht.len, cells_size (upto_len ht.len (by omega))]) (cells_one _) ?_; clear HA; intro wn HA; (try simp only [List.set_cons_zero, List.set_cons_succ] at HA)))
      exact bodyPost_ret (res1 rfl (rv_row HA 1 rfl rfl Try.underlying30 rfl (cells_szR ht.len))) rfl ⟨rfl, HA.below⟩
end Go.Proofs.Ytapfediapkklnaa
