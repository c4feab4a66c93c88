/- Tables of done requests: Add, both ways; picked of my other texts. -/
import Derived.Test.YtlnafekmiidpkaaDoorProg
import Derived.Test.YtlnafekmiidpkaaDoorK2
import Derived.WalkLawsBesides
import Derived.Handy
import Derived.Lib.Hide
namespace Go.Proofs.YtlnafekmiidpkaaDoor
open Go.RowKit K
set_option linter.all false
theorem sz28 : (Tryd.prog.info? 28).map (·.size) = some 2 := by kernel_rfl
theorem sz30 : (Tryd.prog.info? 30).map (·.size) = some 16 := by kernel_rfl
theorem sz47 : (Tryd.prog.info? 47).map (·.size) = some 2 := by kernel_rfl
theorem sz49 : (Tryd.prog.info? 49).map (·.size) = some 16 := by kernel_rfl
theorem sz26 : (Tryd.prog.info? 26).map (·.size) = some 1 := by kernel_rfl
theorem sz23 : (Tryd.prog.info? 23).map (·.size) = some 1 := by kernel_rfl
def withinB (c : Int) : Bool := decide (1 ≤ c) && decide (c ≤ 8)
set_option maxHeartbeats 400000 in
theorem within_any (c : Int) (w : World) :
    Calls Tryd.prog 46 #[.int .u64 c] w fun e w' => e = .returned (.bool (withinB c)) ∧ w = w' := by
  go_enter Tryd.func46, Tryd.ntmps46
  go_wp2
  all_goals go_ret
  all_goals (refine ⟨?_, rfl⟩)
  all_goals simp [withinB, *]
  all_goals omega
def oldB (t r : Int) : Bool := decide (r = 0) || (decide (r ≤ t) && decide (16 ≤ t - r))
set_option maxHeartbeats 400000 in
theorem old_any (t b r : Int) (ht : U64 t) (hr : U64 r) (hb : U16 b) (w : World) :
    Calls Tryd.prog 64 #[.agg #[.int .u64 t, .int .u16 b], .int .u64 r] w fun e w' => e = .returned (.bool (oldB t r)) ∧ Below w.heap.size w w' := by
  obtain ⟨ht, ht2⟩ := ht
  obtain ⟨hr, hr2⟩ := hr
  obtain ⟨hb, hb2⟩ := hb
  go_enter Tryd.func64, Tryd.ntmps64
  go_wp2
  all_goals (go_ret; refine ⟨ret_b ?_, by go_grown⟩; simp [oldB])
  all_goals omega
def withC (t b r : Int) : Int × Int := if t < r then (r, bits .or .u16 (IntKind.u16.wrap (b * 2 ^ min (r - t).toNat 16)) 1) else (t, bits .or .u16 b (IntKind.u16.wrap (2 ^ min (t - r).toNat 16)))
set_option maxHeartbeats 400000 in
theorem with_any (t b r : Int) (ht : U64 t) (hr : U64 r) (hb : U16 b) (w : World) :
    Calls Tryd.prog 48 #[.agg #[.int .u64 t, .int .u16 b], .int .u64 r] w fun e w' => e = .returned (.agg #[.int .u64 (withC t b r).1, .int .u16 (withC t b r).2]) ∧ Below w.heap.size w w' := by
  obtain ⟨ht, ht2⟩ := ht
  obtain ⟨hr, hr2⟩ := hr
  obtain ⟨hb, hb2⟩ := hb
  by_cases h : t < r
  · have h1 : 0 ≤ r - t := by omega
    have h2 : t ≤ r := by omega
    go_enter Tryd.func48, Tryd.ntmps48
    go_wp2
    refine bodyPost_ret (v := .agg #[.int .u64 r, .int .u16 (bits .or .u16 (IntKind.u16.wrap (b * 2 ^ min (r - t).toNat 16)) 1)]) (by simp [results, Tryd.results48, go_sem]) rfl ⟨by simp [withC, h], by go_grown⟩
  · go_enter Tryd.func48, Tryd.ntmps48
    go_wp2
    refine bodyPost_ret (v := .agg #[.int .u64 t, .int .u16 (bits .or .u16 b (IntKind.u16.wrap (2 ^ min (t - r).toNat 16)))]) (by simp [results, Tryd.results48, go_sem]) rfl ⟨by simp only [withC, if_neg (show ¬ t < r by omega)], by go_grown⟩
/-- A table's cells. -/
def tcs (t : List (Int × Int)) : List Value := t.flatMap fun x => [.int .u64 x.1, .int .u16 x.2]
def cells (t : List (Int × Int)) : Array Value := (tcs t).toArray
structure TOk (t : List (Int × Int)) : Prop where
  len : t.length = 8
  rng : ∀ x ∈ t, U64 x.1 ∧ U16 x.2
def gt (t : List (Int × Int)) (c : Int) : Int × Int := t.getD (c.toNat - 1) (0, 0)
theorem gt_ok {t : List (Int × Int)} (h : TOk t) (c : Int) : U64 (gt t c).1 ∧ U16 (gt t c).2 := by
  unfold gt
  rw [List.getD_eq_getElem?_getD]
  cases hq : t[c.toNat - 1]? with
  | none => simp [U64, U16]
  | some x => exact h.rng x (List.mem_of_getElem? hq)
theorem tcs_len (t : List (Int × Int)) : (tcs t).length = 2 * t.length := by
  induction t with
  | nil => rfl
  | cons x r ih => simp [tcs] at ih ⊢; omega
theorem tcs_at (t : List (Int × Int)) : ∀ i, i < t.length → (tcs t)[i * 2]? = some (.int .u64 (t.getD i (0, 0)).1) ∧ (tcs t)[i * 2 + 1]? = some (.int .u16 (t.getD i (0, 0)).2) := by
  induction t with
  | nil => intro i h; simp at h
  | cons x r ih =>
    intro i h
    cases i with
    | zero => simp [tcs]
    | succ i =>
      have h1 := ih i (by simp at h; omega)
      have e : (i + 1) * 2 = i * 2 + 2 := by omega
      rw [e]
      simpa [tcs] using h1
theorem cells_seg {t : List (Int × Int)} (h : TOk t) {c : Int} (h1 : 1 ≤ c) (h2 : c ≤ 8) : ∀ (j : Nat) (v : Value), [Value.int .u64 (gt t c).1, .int .u16 (gt t c).2][j]? = some v → (cells t)[(c.toNat - 1) * 2 + j]? = some v := by
  intro j v hj
  obtain ⟨e1, e2⟩ := tcs_at t (c.toNat - 1) (by rw [h.len]; omega)
  match j, hj with
  | 0, hj => simp at hj; subst hj; simpa [cells, gt] using e1
  | 1, hj => simp at hj; subst hj; simpa [cells, gt] using e2
  | (j + 2), hj => simp at hj
set_option maxHeartbeats 400000 in
theorem oldf_any (t b r : Int) (ht : U64 t) (hr : U64 r) (hb : U16 b) (ad : Addr) (w : World) (hc : w.cell? ad = some (.int .u64 r)) :
    Calls Tryd.prog 63 #[.agg #[.int .u64 t, .int .u16 b], .pointer (some ad)] w fun e w' => e = .returned (.bool (oldB t r)) ∧ Below w.heap.size w w' := by
  have HA := Hp.start w
  go_enter Tryd.func63, Tryd.ntmps63
  go_wp2_with (first | ((with_reducible refine g_go ?_ ?_); exact rfl) | (first | (with_reducible refine kn0 HA ?_; clear HA; intro g0 wn hg HA; (try rw [← hg]); clear hg) | (with_reducible refine kn1 HA ?_; clear HA; intro g1 wn hg HA; (try rw [← hg]); clear hg) | (with_reducible refine kn2 HA ?_; clear HA; intro g2 wn hg HA; (try rw [← hg]); clear hg) | (with_reducible refine kn3 HA ?_; clear HA; intro g3 wn hg HA; (try rw [← hg]); clear hg) | (with_reducible refine kn4 HA ?_; clear HA; intro g4 wn hg HA; (try rw [← hg]); clear hg) | (with_reducible refine kn5 HA ?_; clear HA; intro g5 wn hg HA; (try rw [← hg]); clear hg) | (with_reducible refine kn6 HA ?_; clear HA; intro g6 wn hg HA; (try rw [← hg]); clear hg)) | (go_at_call 64; refine (old_any t b r ht hr hb _).mono ?_; rintro e wn ⟨rfl, hb⟩; have HA1 := HA.call hb; clear HA hb; have HA := HA1; clear HA1) | ((first | (with_reducible refine is_load 28 _ ?_) | (with_reducible refine is_one ?_)); refine k_row HA 0 rfl 28 _ rfl rfl rfl _ Tryd.underlying28 rfl sz28 ?_) | ((first | (with_reducible refine is_load 23 _ ?_) | (with_reducible refine is_one ?_)); refine k_was HA hc 23 _ rfl rfl rfl _ Tryd.underlying23 rfl ?_))
  go_ret
  exact ⟨rfl, HA.below⟩
set_option maxHeartbeats 400000 in
theorem of_old (t : List (Int × Int)) (ht : TOk t) (c r : Int) (hr : U64 r) (ad : Addr) (w : World) (hc : w.cell? ad = some (.int .u64 r)) :
    Calls Tryd.prog 62 #[.agg (cells t), .int .u64 c, .func (.func 63) #[] #[.pointer (some ad)]] w fun e w' => e = .returned (.bool (withinB c && oldB (gt t c).1 r)) ∧ Below w.heap.size w w' := by
  have HA := Hp.start w
  obtain ⟨h64, h16⟩ := gt_ok ht c
  by_cases hw : withinB c = true
  · have hw2 := hw
    simp only [withinB, Bool.and_eq_true, decide_eq_true_eq] at hw2
    obtain ⟨h1, h2⟩ := hw2
    go_enter Tryd.func62, Tryd.ntmps62
    go_wp2_with (first | ((with_reducible refine g_go ?_ ?_); exact rfl) | (first | (with_reducible refine kn0 HA ?_; clear HA; intro g0 wn hg HA; (try rw [← hg]); clear hg) | (with_reducible refine kn1 HA ?_; clear HA; intro g1 wn hg HA; (try rw [← hg]); clear hg) | (with_reducible refine kn2 HA ?_; clear HA; intro g2 wn hg HA; (try rw [← hg]); clear hg) | (with_reducible refine kn3 HA ?_; clear HA; intro g3 wn hg HA; (try rw [← hg]); clear hg) | (with_reducible refine kn4 HA ?_; clear HA; intro g4 wn hg HA; (try rw [← hg]); clear hg) | (with_reducible refine kn5 HA ?_; clear HA; intro g5 wn hg HA; (try rw [← hg]); clear hg) | (with_reducible refine kn6 HA ?_; clear HA; intro g6 wn hg HA; (try rw [← hg]); clear hg)) | (go_at_call 46; refine (within_any _ _).mono ?_; rintro e wn ⟨rfl, rfl⟩) | (go_at_call 63; refine (oldf_any (gt t c).1 (gt t c).2 r h64 hr h16 ad _ (HA.was hc)).mono ?_; rintro e wn ⟨rfl, hb⟩; have HA1 := HA.call hb; clear HA hb; have HA := HA1; clear HA1) | ((first | (with_reducible refine is_load 28 _ ?_) | (with_reducible refine is_one ?_)); refine k_seg HA 0 rfl 28 _ rfl rfl _ rfl _ Tryd.underlying28 rfl 2 sz28 [.int .u64 (gt t c).1, .int .u16 (gt t c).2] rfl (cells_seg ht h1 h2) ?_))
    go_ret
    exact ⟨ret_b (by simp [hw]), HA.below⟩
  · have hw' : withinB c = false := by simpa using hw
    go_enter Tryd.func62, Tryd.ntmps62
    go_wp2_with (first | ((with_reducible refine g_go ?_ ?_); exact rfl) | (first | (with_reducible refine kn0 HA ?_; clear HA; intro g0 wn hg HA; (try rw [← hg]); clear hg) | (with_reducible refine kn1 HA ?_; clear HA; intro g1 wn hg HA; (try rw [← hg]); clear hg) | (with_reducible refine kn2 HA ?_; clear HA; intro g2 wn hg HA; (try rw [← hg]); clear hg) | (with_reducible refine kn3 HA ?_; clear HA; intro g3 wn hg HA; (try rw [← hg]); clear hg) | (with_reducible refine kn4 HA ?_; clear HA; intro g4 wn hg HA; (try rw [← hg]); clear hg) | (with_reducible refine kn5 HA ?_; clear HA; intro g5 wn hg HA; (try rw [← hg]); clear hg) | (with_reducible refine kn6 HA ?_; clear HA; intro g6 wn hg HA; (try rw [← hg]); clear hg)) | (go_at_call 46; refine (within_any _ _).mono ?_; rintro e wn ⟨rfl, rfl⟩))
    go_ret
    exact ⟨ret_b (by simp [hw']), HA.below⟩
def oldT (t : List (Int × Int)) (c r : Int) : Bool := withinB c && oldB (gt t c).1 r
theorem cells_size {t : List (Int × Int)} (h : t.length = 8) : (cells t).size = 16 := by simp [cells, tcs_len, h]
theorem cells_sz {t : List (Int × Int)} (h : t.length = 8) : (Tryd.prog.info? 30).map (·.size) = some (cells t).size := by rw [cells_size h]; exact sz30
set_option maxHeartbeats 400000 in
theorem oldT_any (t : List (Int × Int)) (ht : TOk t) (c r : Int) (hr : U64 r) (w : World) :
    Calls Tryd.prog 47 #[.agg (cells t), .int .u64 c, .int .u64 r] w fun e w' => e = .returned (.bool (oldT t c r)) ∧ Below w.heap.size w w' := by
  have HA := Hp.start w
  go_enter Tryd.func47, Tryd.ntmps47
  go_wp2_with (first | ((with_reducible refine g_go ?_ ?_); exact rfl) | (first | (with_reducible refine kn0 HA ?_; clear HA; intro g0 wn hg HA; (try rw [← hg]); clear hg) | (with_reducible refine kn1 HA ?_; clear HA; intro g1 wn hg HA; (try rw [← hg]); clear hg) | (with_reducible refine kn2 HA ?_; clear HA; intro g2 wn hg HA; (try rw [← hg]); clear hg) | (with_reducible refine kn3 HA ?_; clear HA; intro g3 wn hg HA; (try rw [← hg]); clear hg) | (with_reducible refine kn4 HA ?_; clear HA; intro g4 wn hg HA; (try rw [← hg]); clear hg) | (with_reducible refine kn5 HA ?_; clear HA; intro g5 wn hg HA; (try rw [← hg]); clear hg) | (with_reducible refine kn6 HA ?_; clear HA; intro g6 wn hg HA; (try rw [← hg]); clear hg)) | (refine k_row HA 0 rfl 30 _ rfl rfl rfl _ Tryd.underlying30 rfl (cells_sz ht.len) ?_) | (go_at_call 62; refine (of_old t ht c r hr _ _ (HA.cell (i := 1) rfl 0)).mono ?_; rintro e wn ⟨rfl, hb⟩; have HA1 := HA.call hb; clear HA hb; have HA := HA1; clear HA1))
  go_ret
  exact ⟨rfl, HA.below⟩
theorem eq_client (x y : Int × Int) (w : World) : (Op.equalIn 9999 28 (.agg #[.int .u64 x.1, .int .u16 x.2]) (.agg #[.int .u64 y.1, .int .u16 y.2])).run Tryd.prog w = .ok (decide (x = y)) w := by
  have e : decide (x = y) = (x.1 == y.1 && x.2 == y.2) := by
    rw [Bool.eq_iff_iff]
    simp [Prod.ext_iff]
  rw [e]
  simp [go_sem]
  by_cases h1 : x.1 = y.1 <;> by_cases h2 : x.2 = y.2 <;> simp [h1, h2]
theorem tcs_ext {t u : List (Int × Int)} (ht : t.length = 8) (hu : u.length = 8) : (List.range 8).all (fun i => decide (t.getD i (0, 0) = u.getD i (0, 0))) = decide (t = u) := by
  rw [Bool.eq_iff_iff]
  simp only [List.all_eq_true, List.mem_range, decide_eq_true_eq]
  constructor
  · intro h
    apply List.ext_getElem (by omega)
    intro i h1 h2
    have := h i (by omega)
    simpa [List.getD_eq_getElem?_getD, h1, h2] using this
  · rintro rfl i _
    rfl
theorem cells_part {t : List (Int × Int)} (ht : t.length = 8) (i : Nat) (hi : i < 8) : (cells t).extract (i * 2) (i * 2 + 2) = #[.int .u64 (t.getD i (0, 0)).1, .int .u16 (t.getD i (0, 0)).2] := by
  obtain ⟨e1, e2⟩ := tcs_at t i (by omega)
  have hl := tcs_len t
  apply Array.ext
  · simp [cells, hl]; omega
  · intro j h1 h2
    simp at h2
    match j, h2 with
    | 0, _ => simpa [cells, List.getElem_eq_iff] using e1
    | 1, _ => simpa [cells, List.getElem_eq_iff] using e2
theorem eq_table {t u : List (Int × Int)} (ht : t.length = 8) (hu : u.length = 8) (w : World) : (Op.equalIn 10000 30 (.agg (cells t)) (.agg (cells u))).run Tryd.prog w = .ok (decide (t = u)) w := by
  rw [← tcs_ext ht hu]
  refine eqIn_array w 9999 30 _ _ 8 28 2 Tryd.underlying30 sz28 (fun i => .agg #[.int .u64 (t.getD i (0, 0)).1, .int .u16 (t.getD i (0, 0)).2]) (fun i => .agg #[.int .u64 (u.getD i (0, 0)).1, .int .u16 (u.getD i (0, 0)).2]) _ (fun i hi => ?_) (fun i hi => ?_) (fun i _ => eq_client _ _ w)
  · rw [run_part_agg w _ _ Tryd.underlying28 rfl 2 sz28, cells_part ht i hi]
  · rw [run_part_agg w _ _ Tryd.underlying28 rfl 2 sz28, cells_part hu i hi]
theorem mixed : Tryd.prog.follows .mixedOrders = true := by kernel_rfl
theorem cells_one (t : List (Int × Int)) : ∀ u ∈ (cells t).toList, u.oneCell' = true := by
  intro u hu
  simp only [cells, tcs, List.mem_flatMap] at hu
  obtain ⟨x, _, hx⟩ := hu
  simp at hx
  rcases hx with rfl | rfl <;> rfl
theorem spl_cells {t : List (Int × Int)} (ht : t.length = 8) {k : Nat} (hk : k < 8) (x : Int × Int) : spl (cells t) (k * 2) (Value.agg #[.int .u64 x.1, .int .u16 x.2]).cells.toList = cells (t.set k x) := by
  have key : ∀ (t : List (Int × Int)) (k : Nat), k < t.length → (tcs t).take (k * 2) ++ [Value.int .u64 x.1, .int .u16 x.2] ++ (tcs t).drop (k * 2 + 2) = tcs (t.set k x) := by
    intro t
    induction t with
    | nil => intro k h; simp at h
    | cons y r ih =>
      intro k h
      cases k with
      | zero => simp [tcs]
      | succ k =>
        have h1 := ih k (by simp at h; omega)
        have e : (k + 1) * 2 = k * 2 + 2 := by omega
        rw [e]
        have e2 : tcs (y :: r) = [Value.int .u64 y.1, .int .u16 y.2] ++ tcs r := rfl
        have e3 : tcs ((y :: r).set (k + 1) x) = [Value.int .u64 y.1, .int .u16 y.2] ++ tcs (r.set k x) := rfl
        rw [e2, e3, ← h1]
        simp
  have h := key t k (by omega)
  simp only [spl, cells, Value.cells]
  rw [← h]
  rfl
def setC (t : List (Int × Int)) (c : Int) (x : Int × Int) : List (Int × Int) := t.set (c.toNat - 1) x
def addT (t : List (Int × Int)) (c r : Int) : List (Int × Int) × Bool :=
  if (withinB c && !oldB (gt t c).1 r) = true then (setC t c (withC (gt t c).1 (gt t c).2 r), !decide (setC t c (withC (gt t c).1 (gt t c).2 r) = t)) else (t, false)
set_option maxHeartbeats 1000000 in
theorem add_any (t : List (Int × Int)) (ht : TOk t) (c r : Int) (hr : U64 r) (w : World) :
    Calls Tryd.prog 27 #[.agg (cells t), .int .u64 c, .int .u64 r] w fun e w' => e = .returned (.tuple #[.agg (cells (addT t c r).1), .bool (addT t c r).2]) ∧ Below w.heap.size w w' := by
  have HA := Hp.start w
  obtain ⟨h64, h16⟩ := gt_ok ht c
  by_cases hw : withinB c = true
  · have hw2 := hw
    simp only [withinB, Bool.and_eq_true, decide_eq_true_eq] at hw2
    obtain ⟨h1, h2⟩ := hw2
    cases ho : oldB (gt t c).1 r with
    | true =>
      have hoT : oldT t c r = true := by simp [oldT, hw, ho]
      have hres : addT t c r = (t, false) := by simp [addT, ho]
      rw [hres]
      go_enter Tryd.func27, Tryd.ntmps27
      go_wp2_with (first | ((with_reducible refine g_go ?_ ?_); exact rfl) | (first | (with_reducible refine kn0 HA ?_; clear HA; intro g0 wn hg HA; (try rw [← hg]); clear hg) | (with_reducible refine kn1 HA ?_; clear HA; intro g1 wn hg HA; (try rw [← hg]); clear hg) | (with_reducible refine kn2 HA ?_; clear HA; intro g2 wn hg HA; (try rw [← hg]); clear hg) | (with_reducible refine kn3 HA ?_; clear HA; intro g3 wn hg HA; (try rw [← hg]); clear hg) | (with_reducible refine kn4 HA ?_; clear HA; intro g4 wn hg HA; (try rw [← hg]); clear hg) | (with_reducible refine kn5 HA ?_; clear HA; intro g5 wn hg HA; (try rw [← hg]); clear hg) | (with_reducible refine kn6 HA ?_; clear HA; intro g6 wn hg HA; (try rw [← hg]); clear hg)) | (go_at_call 46; refine (within_any _ _).mono ?_; rintro e wn ⟨rfl, rfl⟩) | (refine k_row HA 0 rfl 30 _ rfl rfl rfl _ Tryd.underlying30 rfl (cells_sz ht.len) ?_) | (go_at_call 47; refine (oldT_any t ht c r hr _).mono ?_; rintro e wn ⟨rfl, hb⟩; have HA1 := HA.call hb; clear HA hb; have HA := HA1; clear HA1) | (refine k_over HA 1 rfl 30 _ _ rfl rfl rfl rfl _ rfl (cells_sz ht.len) (cells_size ht.len) (cells_one t) ?_; clear HA; intro wn HA; (try simp only [List.set_cons_zero, List.set_cons_succ] at HA)))
      exact bodyPost_ret (res2 rfl (rv_row HA 1 rfl rfl Tryd.underlying30 rfl (cells_sz ht.len)) (rv_tmp _)) rfl ⟨rfl, HA.below⟩
    | false =>
      have hoT : oldT t c r = false := by simp [oldT, ho]
      have hres : addT t c r = (setC t c (withC (gt t c).1 (gt t c).2 r), !decide (setC t c (withC (gt t c).1 (gt t c).2 r) = t)) := by simp [addT, hw, ho]
      rw [hres]
      clear hres
      have hl : (setC t c (withC (gt t c).1 (gt t c).2 r)).length = 8 := by simp [setC, ht.len]
      have hsp := spl_cells ht.len (k := c.toNat - 1) (by omega) (withC (gt t c).1 (gt t c).2 r)
      have HSP := Lib.hid hsp
      clear hsp
      have hq := eq_table hl ht.len
      have hoff : (c.toNat - 1) * 2 + (Value.agg #[.int .u64 (withC (gt t c).1 (gt t c).2 r).1, .int .u16 (withC (gt t c).1 (gt t c).2 r).2]).cells.size ≤ (cells t).size := by
        rw [cells_size ht.len]
        show (c.toNat - 1) * 2 + 2 ≤ 16
        omega
      go_enter Tryd.func27, Tryd.ntmps27
      go_wp2_with (first | ((with_reducible refine g_go ?_ ?_); exact rfl) | (first | (with_reducible refine kn0 HA ?_; clear HA; intro g0 wn hg HA; (try rw [← hg]); clear hg) | (with_reducible refine kn1 HA ?_; clear HA; intro g1 wn hg HA; (try rw [← hg]); clear hg) | (with_reducible refine kn2 HA ?_; clear HA; intro g2 wn hg HA; (try rw [← hg]); clear hg) | (with_reducible refine kn3 HA ?_; clear HA; intro g3 wn hg HA; (try rw [← hg]); clear hg) | (with_reducible refine kn4 HA ?_; clear HA; intro g4 wn hg HA; (try rw [← hg]); clear hg) | (with_reducible refine kn5 HA ?_; clear HA; intro g5 wn hg HA; (try rw [← hg]); clear hg) | (with_reducible refine kn6 HA ?_; clear HA; intro g6 wn hg HA; (try rw [← hg]); clear hg)) | (go_at_call 46; refine (within_any _ _).mono ?_; rintro e wn ⟨rfl, rfl⟩) | (refine k_row HA 0 rfl 30 _ rfl rfl rfl _ Tryd.underlying30 rfl (cells_sz ht.len) ?_) | (go_at_call 47; refine (oldT_any t ht c r hr _).mono ?_; rintro e wn ⟨rfl, hb⟩; have HA1 := HA.call hb; clear HA hb; have HA := HA1; clear HA1) | ((first | (with_reducible refine is_load 28 _ ?_) | (with_reducible refine is_one ?_)); refine k_seg HA 0 rfl 28 _ rfl rfl _ rfl _ Tryd.underlying28 rfl 2 sz28 [.int .u64 (gt t c).1, .int .u16 (gt t c).2] rfl (cells_seg ht h1 h2) ?_) | (go_at_call 48; refine (with_any (gt t c).1 (gt t c).2 r h64 hr h16 _).mono ?_; rintro e wn ⟨rfl, hb⟩; have HA1 := HA.call hb; clear HA hb; have HA := HA1; clear HA1) | (refine k_over HA 2 rfl 30 _ _ rfl rfl rfl rfl _ rfl (cells_sz ht.len) (cells_size ht.len) (cells_one t) ?_; clear HA; intro wn HA; (try simp only [List.set_cons_zero, List.set_cons_succ] at HA)) | ((first | (with_reducible refine is_store 28 _ _ ?_) | (with_reducible refine is_one ?_)); refine k_store HA 2 rfl 28 _ _ rfl rfl rfl _ rfl _ rfl sz28 hoff (one_ii _ _ _ _) _ HSP.out ?_; clear HA; intro wn HA; (try simp only [List.set_cons_zero, List.set_cons_succ] at HA)))
      rw [show t.set (c.toNat - 1) (withC (gt t c).1 (gt t c).2 r) = setC t c (withC (gt t c).1 (gt t c).2 r) from rfl] at HA
      refine k_reg1 HA 4 1 rfl (cells (setC t c (withC (gt t c).1 (gt t c).2 r))) _ [(29, .agg (cells (setC t c (withC (gt t c).1 (gt t c).2 r)))), (30, .agg (cells (setC t c (withC (gt t c).1 (gt t c).2 r)))), (31, .agg (cells t)), (32, .bool (!decide (setC t c (withC (gt t c).1 (gt t c).2 r) = t))), (7, .bool (!decide (setC t c (withC (gt t c).1 (gt t c).2 r) = t)))] mixed (by kernel_rfl) (by decide) rfl rfl ?good ?store ?rest
      case good =>
        intro i hi his X wn hX HA
        dsimp only [List.set_cons_zero, List.set_cons_succ] at HA
        obtain rfl | rfl | rfl | rfl | rfl : i = 0 ∨ i = 1 ∨ i = 2 ∨ i = 3 ∨ i = 5 := by simp at hi; omega
        all_goals (clear hX hi his; refine ⟨_, rfl, fun K hK => ?_⟩; simp only [fillL, Act.put, List.setIfInBounds_toArray, List.set_cons_zero, List.set_cons_succ])
        all_goals go_wp2_with (first | ((with_reducible refine g_go ?_ ?_); exact rfl) | (refine k_row HA 0 rfl 30 _ rfl rfl rfl _ Tryd.underlying30 rfl (cells_sz ht.len) ?_) | (refine k_row HA 2 rfl 30 _ rfl rfl rfl _ Tryd.underlying30 rfl (cells_sz hl) ?_))
        all_goals exact hK _ _ rfl HA
      case store =>
        intro wn HA
        refine ⟨_, rfl, fun K hK => ?_⟩
        simp only [fillL, Act.put, List.setIfInBounds_toArray, List.set_cons_zero, List.set_cons_succ]
        go_wp2_with (refine k_over HA 1 rfl 30 _ _ rfl rfl rfl rfl _ rfl (cells_sz hl) (cells_size hl) (cells_one _) ?_; clear HA; intro wn HA)
        exact hK _ _ rfl HA
      case rest =>
        intro wn HA
        simp only [fillL, Act.put, List.setIfInBounds_toArray, List.set_cons_zero, List.set_cons_succ]
        go_wp2
        exact bodyPost_ret (res2 rfl (rv_row HA 1 rfl rfl Tryd.underlying30 rfl (cells_sz hl)) (rv_tmp _)) rfl ⟨rfl, HA.below⟩
  · have hw' : withinB c = false := by simpa using hw
    have hres : addT t c r = (t, false) := by simp [addT, hw']
    rw [hres]
    go_enter Tryd.func27, Tryd.ntmps27
    go_wp2_with (first | ((with_reducible refine g_go ?_ ?_); exact rfl) | (first | (with_reducible refine kn0 HA ?_; clear HA; intro g0 wn hg HA; (try rw [← hg]); clear hg) | (with_reducible refine kn1 HA ?_; clear HA; intro g1 wn hg HA; (try rw [← hg]); clear hg) | (with_reducible refine kn2 HA ?_; clear HA; intro g2 wn hg HA; (try rw [← hg]); clear hg) | (with_reducible refine kn3 HA ?_; clear HA; intro g3 wn hg HA; (try rw [← hg]); clear hg) | (with_reducible refine kn4 HA ?_; clear HA; intro g4 wn hg HA; (try rw [← hg]); clear hg) | (with_reducible refine kn5 HA ?_; clear HA; intro g5 wn hg HA; (try rw [← hg]); clear hg) | (with_reducible refine kn6 HA ?_; clear HA; intro g6 wn hg HA; (try rw [← hg]); clear hg)) | (go_at_call 46; refine (within_any _ _).mono ?_; rintro e wn ⟨rfl, rfl⟩) | (refine k_row HA 0 rfl 30 _ rfl rfl rfl _ Tryd.underlying30 rfl (cells_sz ht.len) ?_) | (refine k_over HA 1 rfl 30 _ _ rfl rfl rfl rfl _ rfl (cells_sz ht.len) (cells_size ht.len) (cells_one t) ?_; clear HA; intro wn HA; (try simp only [List.set_cons_zero, List.set_cons_succ] at HA)))
    exact bodyPost_ret (res2 rfl (rv_row HA 1 rfl rfl Tryd.underlying30 rfl (cells_sz ht.len)) (rv_tmp _)) rfl ⟨rfl, HA.below⟩
end Go.Proofs.YtlnafekmiidpkaaDoor
