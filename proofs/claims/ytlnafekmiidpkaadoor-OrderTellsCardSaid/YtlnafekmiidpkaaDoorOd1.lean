/- Tables of done requests: Add, both ways; picked of my other texts. -/
import Derived.Test.YtlnafekmiidpkaaDoorProg
import Derived.Test.YtlnafekmiidpkaaDoorK2
import Derived.WalkLawsBesides
import Derived.Handy
import Derived.Lib.Hide
namespace Go.Proofs.YtlnafekmiidpkaaDoor
open Go.RowKit K
set_option linter.all false
theorem sz28 : (Tryd.prog.info? 28).map (·.size) = some 2 := by kernel_rfl
theorem sz30 : (Tryd.prog.info? 30).map (·.size) = some 16 := by kernel_rfl
theorem sz47 : (Tryd.prog.info? 47).map (·.size) = some 2 := by kernel_rfl
theorem sz49 : (Tryd.prog.info? 49).map (·.size) = some 16 := by kernel_rfl
theorem sz26 : (Tryd.prog.info? 26).map (·.size) = some 1 := by kernel_rfl
theorem sz23 : (Tryd.prog.info? 23).map (·.size) = some 1 := by kernel_rfl
def withinB (c : Int) : Bool := decide (1 ≤ c) && decide (c ≤ 8)
set_option maxHeartbeats 400000 in
theorem within_any (c : Int) (w : World) :
    Calls Tryd.prog 46 #[.int .u64 c] w fun e w' => e = .returned (.bool (withinB c)) ∧ w = w' := by
  go_enter Tryd.func46, Tryd.ntmps46
  go_wp2
  all_goals go_ret
  all_goals (refine ⟨?_, rfl⟩)
  all_goals simp [withinB, *]
  all_goals omega
def hasB (t b r : Int) : Bool := decide (0 < r) && decide (r ≤ t) && decide (t - r < 16) && (bits BinOp.and IntKind.u16 (b / 2 ^ (t - r).toNat) 1 == 1)
def oldB (t r : Int) : Bool := decide (r = 0) || (decide (r ≤ t) && decide (16 ≤ t - r))
set_option maxHeartbeats 400000 in
theorem old_any (t b r : Int) (ht : U64 t) (hr : U64 r) (hb : U16 b) (w : World) :
    Calls Tryd.prog 64 #[.agg #[.int .u64 t, .int .u16 b], .int .u64 r] w fun e w' => e = .returned (.bool (oldB t r)) ∧ Below w.heap.size w w' := by
  obtain ⟨ht, ht2⟩ := ht
  obtain ⟨hr, hr2⟩ := hr
  obtain ⟨hb, hb2⟩ := hb
  go_enter Tryd.func64, Tryd.ntmps64
  go_wp2
  all_goals (go_ret; refine ⟨ret_b ?_, by go_grown⟩; simp [oldB])
  all_goals omega
def withC (t b r : Int) : Int × Int := if t < r then (r, bits .or .u16 (IntKind.u16.wrap (b * 2 ^ min (r - t).toNat 16)) 1) else (t, bits .or .u16 b (IntKind.u16.wrap (2 ^ min (t - r).toNat 16)))
set_option maxHeartbeats 400000 in
theorem with_any (t b r : Int) (ht : U64 t) (hr : U64 r) (hb : U16 b) (w : World) :
    Calls Tryd.prog 48 #[.agg #[.int .u64 t, .int .u16 b], .int .u64 r] w fun e w' => e = .returned (.agg #[.int .u64 (withC t b r).1, .int .u16 (withC t b r).2]) ∧ Below w.heap.size w w' := by
  obtain ⟨ht, ht2⟩ := ht
  obtain ⟨hr, hr2⟩ := hr
  obtain ⟨hb, hb2⟩ := hb
  by_cases h : t < r
  · have h1 : 0 ≤ r - t := by omega
    have h2 : t ≤ r := by omega
    go_enter Tryd.func48, Tryd.ntmps48
    go_wp2
    refine bodyPost_ret (v := .agg #[.int .u64 r, .int .u16 (bits .or .u16 (IntKind.u16.wrap (b * 2 ^ min (r - t).toNat 16)) 1)]) (by simp [results, Tryd.results48, go_sem]) rfl ⟨by simp [withC, h], by go_grown⟩
  · go_enter Tryd.func48, Tryd.ntmps48
    go_wp2
    refine bodyPost_ret (v := .agg #[.int .u64 t, .int .u16 (bits .or .u16 b (IntKind.u16.wrap (2 ^ min (t - r).toNat 16)))]) (by simp [results, Tryd.results48, go_sem]) rfl ⟨by simp only [withC, if_neg (show ¬ t < r by omega)], by go_grown⟩
/-- A table's cells. -/
def tcs (t : List (Int × Int)) : List Value := t.flatMap fun x => [.int .u64 x.1, .int .u16 x.2]
def cells (t : List (Int × Int)) : Array Value := (tcs t).toArray
structure TOk (t : List (Int × Int)) : Prop where
  len : t.length = 8
  rng : ∀ x ∈ t, U64 x.1 ∧ U16 x.2
def gt (t : List (Int × Int)) (c : Int) : Int × Int := t.getD (c.toNat - 1) (0, 0)
theorem gt_ok {t : List (Int × Int)} (h : TOk t) (c : Int) : U64 (gt t c).1 ∧ U16 (gt t c).2 := by
  unfold gt
  rw [List.getD_eq_getElem?_getD]
  cases hq : t[c.toNat - 1]? with
  | none => simp [U64, U16]
  | some x => exact h.rng x (List.mem_of_getElem? hq)
theorem tcs_len (t : List (Int × Int)) : (tcs t).length = 2 * t.length := by
  induction t with
  | nil => rfl
  | cons x r ih => simp [tcs] at ih ⊢; omega
theorem tcs_at (t : List (Int × Int)) : ∀ i, i < t.length → (tcs t)[i * 2]? = some (.int .u64 (t.getD i (0, 0)).1) ∧ (tcs t)[i * 2 + 1]? = some (.int .u16 (t.getD i (0, 0)).2) := by
  induction t with
  | nil => intro i h; simp at h
  | cons x r ih =>
    intro i h
    cases i with
    | zero => simp [tcs]
    | succ i =>
      have h1 := ih i (by simp at h; omega)
      have e : (i + 1) * 2 = i * 2 + 2 := by omega
      rw [e]
      simpa [tcs] using h1
theorem cells_seg {t : List (Int × Int)} (h : TOk t) {c : Int} (h1 : 1 ≤ c) (h2 : c ≤ 8) : ∀ (j : Nat) (v : Value), [Value.int .u64 (gt t c).1, .int .u16 (gt t c).2][j]? = some v → (cells t)[(c.toNat - 1) * 2 + j]? = some v := by
  intro j v hj
  obtain ⟨e1, e2⟩ := tcs_at t (c.toNat - 1) (by rw [h.len]; omega)
  match j, hj with
  | 0, hj => simp at hj; subst hj; simpa [cells, gt] using e1
  | 1, hj => simp at hj; subst hj; simpa [cells, gt] using e2
  | (j + 2), hj => simp at hj
set_option maxHeartbeats 400000 in
theorem oldf_any (t b r : Int) (ht : U64 t) (hr : U64 r) (hb : U16 b) (ad : Addr) (w : World) (hc : w.cell? ad = some (.int .u64 r)) :
    Calls Tryd.prog 63 #[.agg #[.int .u64 t, .int .u16 b], .pointer (some ad)] w fun e w' => e = .returned (.bool (oldB t r)) ∧ Below w.heap.size w w' := by
  have HA := Hp.start w
  go_enter Tryd.func63, Tryd.ntmps63
  go_wp2_with (first | ((with_reducible refine g_go ?_ ?_); exact rfl) | (first | (with_reducible refine kn0 HA ?_; clear HA; intro g0 wn hg HA; (try rw [← hg]); clear hg) | (with_reducible refine kn1 HA ?_; clear HA; intro g1 wn hg HA; (try rw [← hg]); clear hg) | (with_reducible refine kn2 HA ?_; clear HA; intro g2 wn hg HA; (try rw [← hg]); clear hg) | (with_reducible refine kn3 HA ?_; clear HA; intro g3 wn hg HA; (try rw [← hg]); clear hg) | (with_reducible refine kn4 HA ?_; clear HA; intro g4 wn hg HA; (try rw [← hg]); clear hg) | (with_reducible refine kn5 HA ?_; clear HA; intro g5 wn hg HA; (try rw [← hg]); clear hg) | (with_reducible refine kn6 HA ?_; clear HA; intro g6 wn hg HA; (try rw [← hg]); clear hg)) | (go_at_call 64; refine (old_any t b r ht hr hb _).mono ?_; rintro e wn ⟨rfl, hb⟩; have HA1 := HA.call hb; clear HA hb; have HA := HA1; clear HA1) | ((first | (with_reducible refine is_load 28 _ ?_) | (with_reducible refine is_one ?_)); refine k_row HA 0 rfl 28 _ rfl rfl rfl _ Tryd.underlying28 rfl sz28 ?_) | ((first | (with_reducible refine is_load 23 _ ?_) | (with_reducible refine is_one ?_)); refine k_was HA hc 23 _ rfl rfl rfl _ Tryd.underlying23 rfl ?_))
  go_ret
  exact ⟨rfl, HA.below⟩
set_option maxHeartbeats 400000 in
theorem of_old (t : List (Int × Int)) (ht : TOk t) (c r : Int) (hr : U64 r) (ad : Addr) (w : World) (hc : w.cell? ad = some (.int .u64 r)) :
    Calls Tryd.prog 62 #[.agg (cells t), .int .u64 c, .func (.func 63) #[] #[.pointer (some ad)]] w fun e w' => e = .returned (.bool (withinB c && oldB (gt t c).1 r)) ∧ Below w.heap.size w w' := by
  have HA := Hp.start w
  obtain ⟨h64, h16⟩ := gt_ok ht c
  by_cases hw : withinB c = true
  · have hw2 := hw
    simp only [withinB, Bool.and_eq_true, decide_eq_true_eq] at hw2
    obtain ⟨h1, h2⟩ := hw2
    go_enter Tryd.func62, Tryd.ntmps62
    go_wp2_with (first | ((with_reducible refine g_go ?_ ?_); exact rfl) | (first | (with_reducible refine kn0 HA ?_; clear HA; intro g0 wn hg HA; (try rw [← hg]); clear hg) | (with_reducible refine kn1 HA ?_; clear HA; intro g1 wn hg HA; (try rw [← hg]); clear hg) | (with_reducible refine kn2 HA ?_; clear HA; intro g2 wn hg HA; (try rw [← hg]); clear hg) | (with_reducible refine kn3 HA ?_; clear HA; intro g3 wn hg HA; (try rw [← hg]); clear hg) | (with_reducible refine kn4 HA ?_; clear HA; intro g4 wn hg HA; (try rw [← hg]); clear hg) | (with_reducible refine kn5 HA ?_; clear HA; intro g5 wn hg HA; (try rw [← hg]); clear hg) | (with_reducible refine kn6 HA ?_; clear HA; intro g6 wn hg HA; (try rw [← hg]); clear hg)) | (go_at_call 46; refine (within_any _ _).mono ?_; rintro e wn ⟨rfl, rfl⟩) | (go_at_call 63; refine (oldf_any (gt t c).1 (gt t c).2 r h64 hr h16 ad _ (HA.was hc)).mono ?_; rintro e wn ⟨rfl, hb⟩; have HA1 := HA.call hb; clear HA hb; have HA := HA1; clear HA1) | ((first | (with_reducible refine is_load 28 _ ?_) | (with_reducible refine is_one ?_)); refine k_seg HA 0 rfl 28 _ rfl rfl _ rfl _ Tryd.underlying28 rfl 2 sz28 [.int .u64 (gt t c).1, .int .u16 (gt t c).2] rfl (cells_seg ht h1 h2) ?_))
    go_ret
    exact ⟨ret_b (by simp [hw]), HA.below⟩
  · have hw' : withinB c = false := by simpa using hw
    go_enter Tryd.func62, Tryd.ntmps62
    go_wp2_with (first | ((with_reducible refine g_go ?_ ?_); exact rfl) | (first | (with_reducible refine kn0 HA ?_; clear HA; intro g0 wn hg HA; (try rw [← hg]); clear hg) | (with_reducible refine kn1 HA ?_; clear HA; intro g1 wn hg HA; (try rw [← hg]); clear hg) | (with_reducible refine kn2 HA ?_; clear HA; intro g2 wn hg HA; (try rw [← hg]); clear hg) | (with_reducible refine kn3 HA ?_; clear HA; intro g3 wn hg HA; (try rw [← hg]); clear hg) | (with_reducible refine kn4 HA ?_; clear HA; intro g4 wn hg HA; (try rw [← hg]); clear hg) | (with_reducible refine kn5 HA ?_; clear HA; intro g5 wn hg HA; (try rw [← hg]); clear hg) | (with_reducible refine kn6 HA ?_; clear HA; intro g6 wn hg HA; (try rw [← hg]); clear hg)) | (go_at_call 46; refine (within_any _ _).mono ?_; rintro e wn ⟨rfl, rfl⟩))
    go_ret
    exact ⟨ret_b (by simp [hw']), HA.below⟩
def oldT (t : List (Int × Int)) (c r : Int) : Bool := withinB c && oldB (gt t c).1 r
theorem cells_size {t : List (Int × Int)} (h : t.length = 8) : (cells t).size = 16 := by simp [cells, tcs_len, h]
theorem cells_sz {t : List (Int × Int)} (h : t.length = 8) : (Tryd.prog.info? 30).map (·.size) = some (cells t).size := by rw [cells_size h]; exact sz30
theorem cells_szR {t : List (Int × Int)} (h : t.length = 8) : (Tryd.prog.info? 49).map (·.size) = some (cells t).size := by rw [cells_size h]; exact sz49
set_option maxHeartbeats 400000 in
theorem oldT_any (t : List (Int × Int)) (ht : TOk t) (c r : Int) (hr : U64 r) (w : World) :
    Calls Tryd.prog 47 #[.agg (cells t), .int .u64 c, .int .u64 r] w fun e w' => e = .returned (.bool (oldT t c r)) ∧ Below w.heap.size w w' := by
  have HA := Hp.start w
  go_enter Tryd.func47, Tryd.ntmps47
  go_wp2_with (first | ((with_reducible refine g_go ?_ ?_); exact rfl) | (first | (with_reducible refine kn0 HA ?_; clear HA; intro g0 wn hg HA; (try rw [← hg]); clear hg) | (with_reducible refine kn1 HA ?_; clear HA; intro g1 wn hg HA; (try rw [← hg]); clear hg) | (with_reducible refine kn2 HA ?_; clear HA; intro g2 wn hg HA; (try rw [← hg]); clear hg) | (with_reducible refine kn3 HA ?_; clear HA; intro g3 wn hg HA; (try rw [← hg]); clear hg) | (with_reducible refine kn4 HA ?_; clear HA; intro g4 wn hg HA; (try rw [← hg]); clear hg) | (with_reducible refine kn5 HA ?_; clear HA; intro g5 wn hg HA; (try rw [← hg]); clear hg) | (with_reducible refine kn6 HA ?_; clear HA; intro g6 wn hg HA; (try rw [← hg]); clear hg)) | (refine k_row HA 0 rfl 30 _ rfl rfl rfl _ Tryd.underlying30 rfl (cells_sz ht.len) ?_) | (go_at_call 62; refine (of_old t ht c r hr _ _ (HA.cell (i := 1) rfl 0)).mono ?_; rintro e wn ⟨rfl, hb⟩; have HA1 := HA.call hb; clear HA hb; have HA := HA1; clear HA1))
  go_ret
  exact ⟨rfl, HA.below⟩
theorem eq_client (x y : Int × Int) (w : World) : (Op.equalIn 9999 28 (.agg #[.int .u64 x.1, .int .u16 x.2]) (.agg #[.int .u64 y.1, .int .u16 y.2])).run Tryd.prog w = .ok (decide (x = y)) w := by
  have e : decide (x = y) = (x.1 == y.1 && x.2 == y.2) := by
    rw [Bool.eq_iff_iff]
    simp [Prod.ext_iff]
  rw [e]
  simp [go_sem]
  by_cases h1 : x.1 = y.1 <;> by_cases h2 : x.2 = y.2 <;> simp [h1, h2]
theorem tcs_ext {t u : List (Int × Int)} (ht : t.length = 8) (hu : u.length = 8) : (List.range 8).all (fun i => decide (t.getD i (0, 0) = u.getD i (0, 0))) = decide (t = u) := by
  rw [Bool.eq_iff_iff]
  simp only [List.all_eq_true, List.mem_range, decide_eq_true_eq]
  constructor
  · intro h
    apply List.ext_getElem (by omega)
    intro i h1 h2
    have := h i (by omega)
    simpa [List.getD_eq_getElem?_getD, h1, h2] using this
  · rintro rfl i _
    rfl
theorem cells_part {t : List (Int × Int)} (ht : t.length = 8) (i : Nat) (hi : i < 8) : (cells t).extract (i * 2) (i * 2 + 2) = #[.int .u64 (t.getD i (0, 0)).1, .int .u16 (t.getD i (0, 0)).2] := by
  obtain ⟨e1, e2⟩ := tcs_at t i (by omega)
  have hl := tcs_len t
  apply Array.ext
  · simp [cells, hl]; omega
  · intro j h1 h2
    simp at h2
    match j, h2 with
    | 0, _ => simpa [cells, List.getElem_eq_iff] using e1
    | 1, _ => simpa [cells, List.getElem_eq_iff] using e2
theorem eq_table {t u : List (Int × Int)} (ht : t.length = 8) (hu : u.length = 8) (w : World) : (Op.equalIn 10000 30 (.agg (cells t)) (.agg (cells u))).run Tryd.prog w = .ok (decide (t = u)) w := by
  rw [← tcs_ext ht hu]
  refine eqIn_array w 9999 30 _ _ 8 28 2 Tryd.underlying30 sz28 (fun i => .agg #[.int .u64 (t.getD i (0, 0)).1, .int .u16 (t.getD i (0, 0)).2]) (fun i => .agg #[.int .u64 (u.getD i (0, 0)).1, .int .u16 (u.getD i (0, 0)).2]) _ (fun i hi => ?_) (fun i hi => ?_) (fun i _ => eq_client _ _ w)
  · rw [run_part_agg w _ _ Tryd.underlying28 rfl 2 sz28, cells_part ht i hi]
  · rw [run_part_agg w _ _ Tryd.underlying28 rfl 2 sz28, cells_part hu i hi]
theorem mixed : Tryd.prog.follows .mixedOrders = true := by kernel_rfl
theorem cells_one (t : List (Int × Int)) : ∀ u ∈ (cells t).toList, u.oneCell' = true := by
  intro u hu
  simp only [cells, tcs, List.mem_flatMap] at hu
  obtain ⟨x, _, hx⟩ := hu
  simp at hx
  rcases hx with rfl | rfl <;> rfl
theorem spl_cells {t : List (Int × Int)} (ht : t.length = 8) {k : Nat} (hk : k < 8) (x : Int × Int) : spl (cells t) (k * 2) (Value.agg #[.int .u64 x.1, .int .u16 x.2]).cells.toList = cells (t.set k x) := by
  have key : ∀ (t : List (Int × Int)) (k : Nat), k < t.length → (tcs t).take (k * 2) ++ [Value.int .u64 x.1, .int .u16 x.2] ++ (tcs t).drop (k * 2 + 2) = tcs (t.set k x) := by
    intro t
    induction t with
    | nil => intro k h; simp at h
    | cons y r ih =>
      intro k h
      cases k with
      | zero => simp [tcs]
      | succ k =>
        have h1 := ih k (by simp at h; omega)
        have e : (k + 1) * 2 = k * 2 + 2 := by omega
        rw [e]
        have e2 : tcs (y :: r) = [Value.int .u64 y.1, .int .u16 y.2] ++ tcs r := rfl
        have e3 : tcs ((y :: r).set (k + 1) x) = [Value.int .u64 y.1, .int .u16 y.2] ++ tcs (r.set k x) := rfl
        rw [e2, e3, ← h1]
        simp
  have h := key t k (by omega)
  simp only [spl, cells, Value.cells]
  rw [← h]
  rfl
def setC (t : List (Int × Int)) (c : Int) (x : Int × Int) : List (Int × Int) := t.set (c.toNat - 1) x
def addT (t : List (Int × Int)) (c r : Int) : List (Int × Int) × Bool :=
  if (withinB c && !oldB (gt t c).1 r) = true then (setC t c (withC (gt t c).1 (gt t c).2 r), !decide (setC t c (withC (gt t c).1 (gt t c).2 r) = t)) else (t, false)
set_option maxHeartbeats 1000000 in
theorem add_any (t : List (Int × Int)) (ht : TOk t) (c r : Int) (hr : U64 r) (w : World) :
    Calls Tryd.prog 27 #[.agg (cells t), .int .u64 c, .int .u64 r] w fun e w' => e = .returned (.tuple #[.agg (cells (addT t c r).1), .bool (addT t c r).2]) ∧ Below w.heap.size w w' := by
  have HA := Hp.start w
  obtain ⟨h64, h16⟩ := gt_ok ht c
  by_cases hw : withinB c = true
  · have hw2 := hw
    simp only [withinB, Bool.and_eq_true, decide_eq_true_eq] at hw2
    obtain ⟨h1, h2⟩ := hw2
    cases ho : oldB (gt t c).1 r with
    | true =>
      have hoT : oldT t c r = true := by simp [oldT, hw, ho]
      have hres : addT t c r = (t, false) := by simp [addT, ho]
      rw [hres]
      go_enter Tryd.func27, Tryd.ntmps27
      go_wp2_with (first | ((with_reducible refine g_go ?_ ?_); exact rfl) | (first | (with_reducible refine kn0 HA ?_; clear HA; intro g0 wn hg HA; (try rw [← hg]); clear hg) | (with_reducible refine kn1 HA ?_; clear HA; intro g1 wn hg HA; (try rw [← hg]); clear hg) | (with_reducible refine kn2 HA ?_; clear HA; intro g2 wn hg HA; (try rw [← hg]); clear hg) | (with_reducible refine kn3 HA ?_; clear HA; intro g3 wn hg HA; (try rw [← hg]); clear hg) | (with_reducible refine kn4 HA ?_; clear HA; intro g4 wn hg HA; (try rw [← hg]); clear hg) | (with_reducible refine kn5 HA ?_; clear HA; intro g5 wn hg HA; (try rw [← hg]); clear hg) | (with_reducible refine kn6 HA ?_; clear HA; intro g6 wn hg HA; (try rw [← hg]); clear hg)) | (go_at_call 46; refine (within_any _ _).mono ?_; rintro e wn ⟨rfl, rfl⟩) | (refine k_row HA 0 rfl 30 _ rfl rfl rfl _ Tryd.underlying30 rfl (cells_sz ht.len) ?_) | (go_at_call 47; refine (oldT_any t ht c r hr _).mono ?_; rintro e wn ⟨rfl, hb⟩; have HA1 := HA.call hb; clear HA hb; have HA := HA1; clear HA1) | (refine k_over HA 1 rfl 30 _ _ rfl rfl rfl rfl _ rfl (cells_sz ht.len) (cells_size ht.len) (cells_one t) ?_; clear HA; intro wn HA; (try simp only [List.set_cons_zero, List.set_cons_succ] at HA)))
      exact bodyPost_ret (res2 rfl (rv_row HA 1 rfl rfl Tryd.underlying30 rfl (cells_sz ht.len)) (rv_tmp _)) rfl ⟨rfl, HA.below⟩
    | false =>
      have hoT : oldT t c r = false := by simp [oldT, ho]
      have hres : addT t c r = (setC t c (withC (gt t c).1 (gt t c).2 r), !decide (setC t c (withC (gt t c).1 (gt t c).2 r) = t)) := by simp [addT, hw, ho]
      rw [hres]
      clear hres
      have hl : (setC t c (withC (gt t c).1 (gt t c).2 r)).length = 8 := by simp [setC, ht.len]
      have hsp := spl_cells ht.len (k := c.toNat - 1) (by omega) (withC (gt t c).1 (gt t c).2 r)
      have HSP := Lib.hid hsp
      clear hsp
      have hq := eq_table hl ht.len
      have hoff : (c.toNat - 1) * 2 + (Value.agg #[.int .u64 (withC (gt t c).1 (gt t c).2 r).1, .int .u16 (withC (gt t c).1 (gt t c).2 r).2]).cells.size ≤ (cells t).size := by
        rw [cells_size ht.len]
        show (c.toNat - 1) * 2 + 2 ≤ 16
        omega
      go_enter Tryd.func27, Tryd.ntmps27
      go_wp2_with (first | ((with_reducible refine g_go ?_ ?_); exact rfl) | (first | (with_reducible refine kn0 HA ?_; clear HA; intro g0 wn hg HA; (try rw [← hg]); clear hg) | (with_reducible refine kn1 HA ?_; clear HA; intro g1 wn hg HA; (try rw [← hg]); clear hg) | (with_reducible refine kn2 HA ?_; clear HA; intro g2 wn hg HA; (try rw [← hg]); clear hg) | (with_reducible refine kn3 HA ?_; clear HA; intro g3 wn hg HA; (try rw [← hg]); clear hg) | (with_reducible refine kn4 HA ?_; clear HA; intro g4 wn hg HA; (try rw [← hg]); clear hg) | (with_reducible refine kn5 HA ?_; clear HA; intro g5 wn hg HA; (try rw [← hg]); clear hg) | (with_reducible refine kn6 HA ?_; clear HA; intro g6 wn hg HA; (try rw [← hg]); clear hg)) | (go_at_call 46; refine (within_any _ _).mono ?_; rintro e wn ⟨rfl, rfl⟩) | (refine k_row HA 0 rfl 30 _ rfl rfl rfl _ Tryd.underlying30 rfl (cells_sz ht.len) ?_) | (go_at_call 47; refine (oldT_any t ht c r hr _).mono ?_; rintro e wn ⟨rfl, hb⟩; have HA1 := HA.call hb; clear HA hb; have HA := HA1; clear HA1) | ((first | (with_reducible refine is_load 28 _ ?_) | (with_reducible refine is_one ?_)); refine k_seg HA 0 rfl 28 _ rfl rfl _ rfl _ Tryd.underlying28 rfl 2 sz28 [.int .u64 (gt t c).1, .int .u16 (gt t c).2] rfl (cells_seg ht h1 h2) ?_) | (go_at_call 48; refine (with_any (gt t c).1 (gt t c).2 r h64 hr h16 _).mono ?_; rintro e wn ⟨rfl, hb⟩; have HA1 := HA.call hb; clear HA hb; have HA := HA1; clear HA1) | (refine k_over HA 2 rfl 30 _ _ rfl rfl rfl rfl _ rfl (cells_sz ht.len) (cells_size ht.len) (cells_one t) ?_; clear HA; intro wn HA; (try simp only [List.set_cons_zero, List.set_cons_succ] at HA)) | ((first | (with_reducible refine is_store 28 _ _ ?_) | (with_reducible refine is_one ?_)); refine k_store HA 2 rfl 28 _ _ rfl rfl rfl _ rfl _ rfl sz28 hoff (one_ii _ _ _ _) _ HSP.out ?_; clear HA; intro wn HA; (try simp only [List.set_cons_zero, List.set_cons_succ] at HA)))
      rw [show t.set (c.toNat - 1) (withC (gt t c).1 (gt t c).2 r) = setC t c (withC (gt t c).1 (gt t c).2 r) from rfl] at HA
      refine k_reg1 HA 4 1 rfl (cells (setC t c (withC (gt t c).1 (gt t c).2 r))) _ [(29, .agg (cells (setC t c (withC (gt t c).1 (gt t c).2 r)))), (30, .agg (cells (setC t c (withC (gt t c).1 (gt t c).2 r)))), (31, .agg (cells t)), (32, .bool (!decide (setC t c (withC (gt t c).1 (gt t c).2 r) = t))), (7, .bool (!decide (setC t c (withC (gt t c).1 (gt t c).2 r) = t)))] mixed (by kernel_rfl) (by decide) rfl rfl ?good ?store ?rest
      case good =>
        intro i hi his X wn hX HA
        dsimp only [List.set_cons_zero, List.set_cons_succ] at HA
        obtain rfl | rfl | rfl | rfl | rfl : i = 0 ∨ i = 1 ∨ i = 2 ∨ i = 3 ∨ i = 5 := by simp at hi; omega
        all_goals (clear hX hi his; refine ⟨_, rfl, fun K hK => ?_⟩; simp only [fillL, Act.put, List.setIfInBounds_toArray, List.set_cons_zero, List.set_cons_succ])
        all_goals go_wp2_with (first | ((with_reducible refine g_go ?_ ?_); exact rfl) | (refine k_row HA 0 rfl 30 _ rfl rfl rfl _ Tryd.underlying30 rfl (cells_sz ht.len) ?_) | (refine k_row HA 2 rfl 30 _ rfl rfl rfl _ Tryd.underlying30 rfl (cells_sz hl) ?_))
        all_goals exact hK _ _ rfl HA
      case store =>
        intro wn HA
        refine ⟨_, rfl, fun K hK => ?_⟩
        simp only [fillL, Act.put, List.setIfInBounds_toArray, List.set_cons_zero, List.set_cons_succ]
        go_wp2_with (refine k_over HA 1 rfl 30 _ _ rfl rfl rfl rfl _ rfl (cells_sz hl) (cells_size hl) (cells_one _) ?_; clear HA; intro wn HA)
        exact hK _ _ rfl HA
      case rest =>
        intro wn HA
        simp only [fillL, Act.put, List.setIfInBounds_toArray, List.set_cons_zero, List.set_cons_succ]
        go_wp2
        exact bodyPost_ret (res2 rfl (rv_row HA 1 rfl rfl Tryd.underlying30 rfl (cells_sz hl)) (rv_tmp _)) rfl ⟨rfl, HA.below⟩
  · have hw' : withinB c = false := by simpa using hw
    have hres : addT t c r = (t, false) := by simp [addT, hw']
    rw [hres]
    go_enter Tryd.func27, Tryd.ntmps27
    go_wp2_with (first | ((with_reducible refine g_go ?_ ?_); exact rfl) | (first | (with_reducible refine kn0 HA ?_; clear HA; intro g0 wn hg HA; (try rw [← hg]); clear hg) | (with_reducible refine kn1 HA ?_; clear HA; intro g1 wn hg HA; (try rw [← hg]); clear hg) | (with_reducible refine kn2 HA ?_; clear HA; intro g2 wn hg HA; (try rw [← hg]); clear hg) | (with_reducible refine kn3 HA ?_; clear HA; intro g3 wn hg HA; (try rw [← hg]); clear hg) | (with_reducible refine kn4 HA ?_; clear HA; intro g4 wn hg HA; (try rw [← hg]); clear hg) | (with_reducible refine kn5 HA ?_; clear HA; intro g5 wn hg HA; (try rw [← hg]); clear hg) | (with_reducible refine kn6 HA ?_; clear HA; intro g6 wn hg HA; (try rw [← hg]); clear hg)) | (go_at_call 46; refine (within_any _ _).mono ?_; rintro e wn ⟨rfl, rfl⟩) | (refine k_row HA 0 rfl 30 _ rfl rfl rfl _ Tryd.underlying30 rfl (cells_sz ht.len) ?_) | (refine k_over HA 1 rfl 30 _ _ rfl rfl rfl rfl _ rfl (cells_sz ht.len) (cells_size ht.len) (cells_one t) ?_; clear HA; intro wn HA; (try simp only [List.set_cons_zero, List.set_cons_succ] at HA)))
    exact bodyPost_ret (res2 rfl (rv_row HA 1 rfl rfl Tryd.underlying30 rfl (cells_sz ht.len)) (rv_tmp _)) rfl ⟨rfl, HA.below⟩
/-- The first k of a table, noughts behind. -/
def upto (t : List (Int × Int)) (k : Nat) : List (Int × Int) := t.take k ++ List.replicate (8 - k) (0, 0)
theorem upto_len {t : List (Int × Int)} (ht : t.length = 8) {k : Nat} (hk : k ≤ 8) : (upto t k).length = 8 := by simp [upto, ht]; omega
def bitB (b k : Int) : Bool := decide (b / 2 ^ k.toNat % 2 = 1)
set_option maxHeartbeats 400000 in
theorem bit_any (t b k : Int) (hb : U16 b) (hk : 0 ≤ k) (hk2 : k ≤ 1000) (w : World) :
    Calls Tryd.prog 52 #[.agg #[.int .u64 t, .int .u16 b], .int .u64 k] w fun e w' => e = .returned (.bool (bitB b k)) ∧ Below w.heap.size w w' := by
  obtain ⟨hb, hb2⟩ := hb
  obtain ⟨k, rfl⟩ := Int.eq_ofNat_of_zero_le hk
  have HA := Hp.start w
  go_enter Tryd.func52, Tryd.ntmps52
  go_wp2_with (first | ((with_reducible refine g_go ?_ ?_); exact rfl) | (first | (with_reducible refine kn0 HA ?_; clear HA; intro g0 wn hg HA; (try rw [← hg]); clear hg) | (with_reducible refine kn1 HA ?_; clear HA; intro g1 wn hg HA; (try rw [← hg]); clear hg) | (with_reducible refine kn2 HA ?_; clear HA; intro g2 wn hg HA; (try rw [← hg]); clear hg) | (with_reducible refine kn3 HA ?_; clear HA; intro g3 wn hg HA; (try rw [← hg]); clear hg) | (with_reducible refine kn4 HA ?_; clear HA; intro g4 wn hg HA; (try rw [← hg]); clear hg) | (with_reducible refine kn5 HA ?_; clear HA; intro g5 wn hg HA; (try rw [← hg]); clear hg) | (with_reducible refine kn6 HA ?_; clear HA; intro g6 wn hg HA; (try rw [← hg]); clear hg)) | ((first | (with_reducible refine is_load 26 _ ?_) | (with_reducible refine is_one ?_)); refine k_load HA 0 rfl 26 _ rfl rfl _ rfl _ Tryd.underlying26 rfl _ rfl ?_))
  go_loopw [5, 6] (fun v5 v6 wr => ∃ j : Nat, j ≤ k ∧ v6 = .int .u64 j ∧ v5 = .int .u64 (b / 2 ^ j) ∧ Hp w.heap.size (fun _ => False) w wr [⟨g0, #[.int .u64 t, .int .u16 b], 47⟩]) (fun _ v6 _ => k - (intOf v6).toNat)
  case atStart => exact ⟨0, by omega, rfl, by simp, HA⟩
  case round =>
    clear HA
    obtain ⟨j, hj, rfl, rfl, HA⟩ := hrel
    have h0 : 0 ≤ b / 2 ^ j := Int.ediv_nonneg hb (Int.le_of_lt (p2 j))
    have h1 : b / 2 ^ j ≤ 65535 := Int.le_trans (Int.ediv_le_self _ hb) hb2
    have HN := Lib.hid (show b / 2 ^ j / 2 = b / 2 ^ (j + 1) by rw [Int.ediv_ediv_of_nonneg (Int.le_of_lt (p2 j)), Int.pow_succ])
    by_cases h : j < k
    · go_wp2
      go_roundw
      case rel => exact ⟨j + 1, by omega, by go_num, by rw [HN.out], HA⟩
      case measure => simp [intOf]; omega
    · obtain rfl : j = k := by omega
      go_wp2
      go_ret
      refine ⟨ret_b ?_, HA.below⟩
      simp [bitB]
def rhasB (t b r : Int) : Bool := decide (0 < r) && decide (r ≤ t) && decide (t - r < 16) && bitB b (t - r)
set_option maxHeartbeats 400000 in
theorem rhas_any (t b r : Int) (ht : U64 t) (hr : U64 r) (hb : U16 b) (w : World) :
    Calls Tryd.prog 65 #[.agg #[.int .u64 t, .int .u16 b], .int .u64 r] w fun e w' => e = .returned (.bool (rhasB t b r)) ∧ Below w.heap.size w w' := by
  obtain ⟨ht, ht2⟩ := ht
  obtain ⟨hr, hr2⟩ := hr
  have HA := Hp.start w
  by_cases h : 0 < r ∧ r ≤ t ∧ t - r < 16
  · obtain ⟨h1, h2, h3⟩ := h
    go_enter Tryd.func65, Tryd.ntmps65
    go_wp2_with (first | ((with_reducible refine g_go ?_ ?_); exact rfl) | (first | (with_reducible refine kn0 HA ?_; clear HA; intro g0 wn hg HA; (try rw [← hg]); clear hg) | (with_reducible refine kn1 HA ?_; clear HA; intro g1 wn hg HA; (try rw [← hg]); clear hg) | (with_reducible refine kn2 HA ?_; clear HA; intro g2 wn hg HA; (try rw [← hg]); clear hg) | (with_reducible refine kn3 HA ?_; clear HA; intro g3 wn hg HA; (try rw [← hg]); clear hg) | (with_reducible refine kn4 HA ?_; clear HA; intro g4 wn hg HA; (try rw [← hg]); clear hg) | (with_reducible refine kn5 HA ?_; clear HA; intro g5 wn hg HA; (try rw [← hg]); clear hg) | (with_reducible refine kn6 HA ?_; clear HA; intro g6 wn hg HA; (try rw [← hg]); clear hg)) | ((first | (with_reducible refine is_load 23 _ ?_) | (with_reducible refine is_one ?_)); refine k_load HA 0 rfl 23 _ rfl rfl _ rfl _ Tryd.underlying23 rfl _ rfl ?_) | ((first | (with_reducible refine is_load 47 _ ?_) | (with_reducible refine is_one ?_)); refine k_row HA 0 rfl 47 _ rfl rfl rfl _ Tryd.underlying47 rfl sz47 ?_) | (go_at_call 52; refine (bit_any t b (t - r) hb (by omega) (by omega) _).mono ?_; rintro e wn ⟨rfl, hb⟩; have HA1 := HA.call hb; clear HA hb; have HA := HA1; clear HA1))
    go_ret
    refine ⟨ret_b ?_, HA.below⟩
    simp [rhasB, h1, h2, h3]
  · go_enter Tryd.func65, Tryd.ntmps65
    go_wp2_with (first | ((with_reducible refine g_go ?_ ?_); exact rfl) | (first | (with_reducible refine kn0 HA ?_; clear HA; intro g0 wn hg HA; (try rw [← hg]); clear hg) | (with_reducible refine kn1 HA ?_; clear HA; intro g1 wn hg HA; (try rw [← hg]); clear hg) | (with_reducible refine kn2 HA ?_; clear HA; intro g2 wn hg HA; (try rw [← hg]); clear hg) | (with_reducible refine kn3 HA ?_; clear HA; intro g3 wn hg HA; (try rw [← hg]); clear hg) | (with_reducible refine kn4 HA ?_; clear HA; intro g4 wn hg HA; (try rw [← hg]); clear hg) | (with_reducible refine kn5 HA ?_; clear HA; intro g5 wn hg HA; (try rw [← hg]); clear hg) | (with_reducible refine kn6 HA ?_; clear HA; intro g6 wn hg HA; (try rw [← hg]); clear hg)) | ((first | (with_reducible refine is_load 23 _ ?_) | (with_reducible refine is_one ?_)); refine k_load HA 0 rfl 23 _ rfl rfl _ rfl _ Tryd.underlying23 rfl _ rfl ?_))
    all_goals (go_ret; refine ⟨ret_b ?_, HA.below⟩; simp [rhasB]; omega)
theorem cells_one1 {t : List (Int × Int)} (h : TOk t) {c : Int} (h1 : 1 ≤ c) (h2 : c ≤ 8) : (cells t)[(c.toNat - 1) * 2]? = some (.int .u64 (gt t c).1) := by
  have := cells_seg h h1 h2 0 _ rfl
  simpa using this
def rhasT (t : List (Int × Int)) (c r : Int) : Bool := withinB c && rhasB (gt t c).1 (gt t c).2 r
set_option maxHeartbeats 400000 in
theorem rhasT_any (t : List (Int × Int)) (ht : TOk t) (c r : Int) (hr : U64 r) (w : World) :
    Calls Tryd.prog 51 #[.agg (cells t), .int .u64 c, .int .u64 r] w fun e w' => e = .returned (.bool (rhasT t c r)) ∧ Below w.heap.size w w' := by
  have HA := Hp.start w
  obtain ⟨h64, h16⟩ := gt_ok ht c
  by_cases h : 1 ≤ c ∧ c ≤ 8
  · obtain ⟨h1, h2⟩ := h
    go_enter Tryd.func51, Tryd.ntmps51
    go_wp2_with (first | ((with_reducible refine g_go ?_ ?_); exact rfl) | (first | (with_reducible refine kn0 HA ?_; clear HA; intro g0 wn hg HA; (try rw [← hg]); clear hg) | (with_reducible refine kn1 HA ?_; clear HA; intro g1 wn hg HA; (try rw [← hg]); clear hg) | (with_reducible refine kn2 HA ?_; clear HA; intro g2 wn hg HA; (try rw [← hg]); clear hg) | (with_reducible refine kn3 HA ?_; clear HA; intro g3 wn hg HA; (try rw [← hg]); clear hg) | (with_reducible refine kn4 HA ?_; clear HA; intro g4 wn hg HA; (try rw [← hg]); clear hg) | (with_reducible refine kn5 HA ?_; clear HA; intro g5 wn hg HA; (try rw [← hg]); clear hg) | (with_reducible refine kn6 HA ?_; clear HA; intro g6 wn hg HA; (try rw [← hg]); clear hg)) | ((first | (with_reducible refine is_load 47 _ ?_) | (with_reducible refine is_one ?_)); refine k_seg HA 0 rfl 47 _ rfl rfl _ rfl _ Tryd.underlying47 rfl 2 sz47 [.int .u64 (gt t c).1, .int .u16 (gt t c).2] rfl (cells_seg ht h1 h2) ?_) | (go_at_call 65; refine (rhas_any (gt t c).1 (gt t c).2 r h64 hr h16 _).mono ?_; rintro e wn ⟨rfl, hb⟩; have HA1 := HA.call hb; clear HA hb; have HA := HA1; clear HA1))
    go_ret
    refine ⟨ret_b ?_, HA.below⟩
    simp [rhasT, withinB, h1, h2]
  · go_enter Tryd.func51, Tryd.ntmps51
    go_wp2_with (first | ((with_reducible refine g_go ?_ ?_); exact rfl) | (first | (with_reducible refine kn0 HA ?_; clear HA; intro g0 wn hg HA; (try rw [← hg]); clear hg) | (with_reducible refine kn1 HA ?_; clear HA; intro g1 wn hg HA; (try rw [← hg]); clear hg) | (with_reducible refine kn2 HA ?_; clear HA; intro g2 wn hg HA; (try rw [← hg]); clear hg) | (with_reducible refine kn3 HA ?_; clear HA; intro g3 wn hg HA; (try rw [← hg]); clear hg) | (with_reducible refine kn4 HA ?_; clear HA; intro g4 wn hg HA; (try rw [← hg]); clear hg) | (with_reducible refine kn5 HA ?_; clear HA; intro g5 wn hg HA; (try rw [← hg]); clear hg) | (with_reducible refine kn6 HA ?_; clear HA; intro g6 wn hg HA; (try rw [← hg]); clear hg)))
    all_goals (go_ret; refine ⟨ret_b ?_, HA.below⟩; simp [rhasT, withinB]; omega)
set_option maxHeartbeats 400000 in
theorem roldT_any (t : List (Int × Int)) (ht : TOk t) (c r : Int) (hr : U64 r) (w : World) :
    Calls Tryd.prog 50 #[.agg (cells t), .int .u64 c, .int .u64 r] w fun e w' => e = .returned (.bool (oldT t c r)) ∧ Below w.heap.size w w' := by
  have HA := Hp.start w
  obtain ⟨⟨h64, h64'⟩, h16⟩ := gt_ok ht c
  obtain ⟨hr, hr2⟩ := hr
  by_cases h : 1 ≤ c ∧ c ≤ 8
  · obtain ⟨h1, h2⟩ := h
    go_enter Tryd.func50, Tryd.ntmps50
    go_wp2_with (first | ((with_reducible refine g_go ?_ ?_); exact rfl) | (first | (with_reducible refine kn0 HA ?_; clear HA; intro g0 wn hg HA; (try rw [← hg]); clear hg) | (with_reducible refine kn1 HA ?_; clear HA; intro g1 wn hg HA; (try rw [← hg]); clear hg) | (with_reducible refine kn2 HA ?_; clear HA; intro g2 wn hg HA; (try rw [← hg]); clear hg) | (with_reducible refine kn3 HA ?_; clear HA; intro g3 wn hg HA; (try rw [← hg]); clear hg) | (with_reducible refine kn4 HA ?_; clear HA; intro g4 wn hg HA; (try rw [← hg]); clear hg) | (with_reducible refine kn5 HA ?_; clear HA; intro g5 wn hg HA; (try rw [← hg]); clear hg) | (with_reducible refine kn6 HA ?_; clear HA; intro g6 wn hg HA; (try rw [← hg]); clear hg)) | ((first | (with_reducible refine is_load 23 _ ?_) | (with_reducible refine is_one ?_)); refine k_load HA 0 rfl 23 _ rfl rfl _ rfl _ Tryd.underlying23 rfl _ (cells_one1 ht h1 h2) ?_))
    all_goals (go_ret; refine ⟨ret_b ?_, HA.below⟩; simp [oldT, oldB, withinB, h1, h2]; (try omega))
  · go_enter Tryd.func50, Tryd.ntmps50
    go_wp2_with (first | ((with_reducible refine g_go ?_ ?_); exact rfl) | (first | (with_reducible refine kn0 HA ?_; clear HA; intro g0 wn hg HA; (try rw [← hg]); clear hg) | (with_reducible refine kn1 HA ?_; clear HA; intro g1 wn hg HA; (try rw [← hg]); clear hg) | (with_reducible refine kn2 HA ?_; clear HA; intro g2 wn hg HA; (try rw [← hg]); clear hg) | (with_reducible refine kn3 HA ?_; clear HA; intro g3 wn hg HA; (try rw [← hg]); clear hg) | (with_reducible refine kn4 HA ?_; clear HA; intro g4 wn hg HA; (try rw [← hg]); clear hg) | (with_reducible refine kn5 HA ?_; clear HA; intro g5 wn hg HA; (try rw [← hg]); clear hg) | (with_reducible refine kn6 HA ?_; clear HA; intro g6 wn hg HA; (try rw [← hg]); clear hg)))
    all_goals (go_ret; refine ⟨ret_b ?_, HA.below⟩; simp [oldT, withinB]; omega)
/-- Is bit k of the new client set? -/
def condR (told b r top : Int) (k : Int) : Bool := decide (k = top - r) || (decide (top - told ≤ k) && bitB b (k - (top - told)))
def accR (told b r top : Int) : Nat → Int
  | 0 => 0
  | k + 1 => accR told b r top k + if condR told b r top k = true then 2 ^ k else 0
theorem accR_rng (told b r top : Int) : ∀ k : Nat, 0 ≤ accR told b r top k ∧ accR told b r top k < 2 ^ k := by
  intro k
  induction k with
  | zero => simp [accR]
  | succ k ih =>
    have := p2 k
    have e : (2 : Int) ^ (k + 1) = 2 * 2 ^ k := by rw [Int.pow_succ]; omega
    unfold accR
    split <;> omega
def raddC (told b r : Int) : Int × Int := (max told r, accR told b r (max told r) 16)
def raddT (t : List (Int × Int)) (c r : Int) : List (Int × Int) × Bool :=
  if (withinB c && !oldB (gt t c).1 r && !rhasB (gt t c).1 (gt t c).2 r) = true then (setC t c (raddC (gt t c).1 (gt t c).2 r), true) else (t, false)
set_option maxHeartbeats 2000000 in
theorem radd_any (t : List (Int × Int)) (ht : TOk t) (c r : Int) (hr : U64 r) (w : World) :
    Calls Tryd.prog 31 #[.agg (cells t), .int .u64 c, .int .u64 r] w fun e w' => e = .returned (.tuple #[.agg (cells (raddT t c r).1), .bool (raddT t c r).2]) ∧ Below w.heap.size w w' := by
  have HA := Hp.start w
  obtain ⟨h64, h16⟩ := gt_ok ht c
  by_cases hbad : ¬ (1 ≤ c ∧ c ≤ 8) ∨ oldT t c r = true ∨ rhasT t c r = true
  · have hres : raddT t c r = (t, false) := by
      rcases hbad with h | h | h
      · have : withinB c = false := by simp [withinB]; omega
        simp [raddT, this]
      · have : oldB (gt t c).1 r = true := by simp [oldT] at h; exact h.2
        simp [raddT, this]
      · have : rhasB (gt t c).1 (gt t c).2 r = true := by simp [rhasT] at h; exact h.2
        simp [raddT, this]
    rw [hres]
    clear hres
    by_cases hc : c < 1
    · go_enter Tryd.func31, Tryd.ntmps31
      go_wp2_with (first | ((with_reducible refine g_go ?_ ?_); exact rfl) | (first | (with_reducible refine kn0 HA ?_; clear HA; intro g0 wn hg HA; (try rw [← hg]); clear hg) | (with_reducible refine kn1 HA ?_; clear HA; intro g1 wn hg HA; (try rw [← hg]); clear hg) | (with_reducible refine kn2 HA ?_; clear HA; intro g2 wn hg HA; (try rw [← hg]); clear hg) | (with_reducible refine kn3 HA ?_; clear HA; intro g3 wn hg HA; (try rw [← hg]); clear hg) | (with_reducible refine kn4 HA ?_; clear HA; intro g4 wn hg HA; (try rw [← hg]); clear hg) | (with_reducible refine kn5 HA ?_; clear HA; intro g5 wn hg HA; (try rw [← hg]); clear hg) | (with_reducible refine kn6 HA ?_; clear HA; intro g6 wn hg HA; (try rw [← hg]); clear hg)) | (refine k_row HA 0 rfl 49 _ rfl rfl rfl _ Tryd.underlying49 rfl (cells_szR ht.len) ?_) | (refine k_over HA 1 rfl 49 _ _ rfl rfl rfl rfl _ rfl (cells_szR ht.len) (cells_size ht.len) (cells_one t) ?_; clear HA; intro wn HA; (try simp only [List.set_cons_zero, List.set_cons_succ] at HA)))
      exact bodyPost_ret (res2 rfl (rv_row HA 1 rfl rfl Tryd.underlying49 rfl (cells_szR ht.len)) (rv_tmp _)) rfl ⟨rfl, HA.below⟩
    · by_cases hc8 : 8 < c
      · go_enter Tryd.func31, Tryd.ntmps31
        go_wp2_with (first | ((with_reducible refine g_go ?_ ?_); exact rfl) | (first | (with_reducible refine kn0 HA ?_; clear HA; intro g0 wn hg HA; (try rw [← hg]); clear hg) | (with_reducible refine kn1 HA ?_; clear HA; intro g1 wn hg HA; (try rw [← hg]); clear hg) | (with_reducible refine kn2 HA ?_; clear HA; intro g2 wn hg HA; (try rw [← hg]); clear hg) | (with_reducible refine kn3 HA ?_; clear HA; intro g3 wn hg HA; (try rw [← hg]); clear hg) | (with_reducible refine kn4 HA ?_; clear HA; intro g4 wn hg HA; (try rw [← hg]); clear hg) | (with_reducible refine kn5 HA ?_; clear HA; intro g5 wn hg HA; (try rw [← hg]); clear hg) | (with_reducible refine kn6 HA ?_; clear HA; intro g6 wn hg HA; (try rw [← hg]); clear hg)) | (refine k_row HA 0 rfl 49 _ rfl rfl rfl _ Tryd.underlying49 rfl (cells_szR ht.len) ?_) | (refine k_over HA 1 rfl 49 _ _ rfl rfl rfl rfl _ rfl (cells_szR ht.len) (cells_size ht.len) (cells_one t) ?_; clear HA; intro wn HA; (try simp only [List.set_cons_zero, List.set_cons_succ] at HA)))
        exact bodyPost_ret (res2 rfl (rv_row HA 1 rfl rfl Tryd.underlying49 rfl (cells_szR ht.len)) (rv_tmp _)) rfl ⟨rfl, HA.below⟩
      · cases ho : oldT t c r with
        | true =>
          clear hbad
          go_enter Tryd.func31, Tryd.ntmps31
          go_wp2_with (first | ((with_reducible refine g_go ?_ ?_); exact rfl) | (first | (with_reducible refine kn0 HA ?_; clear HA; intro g0 wn hg HA; (try rw [← hg]); clear hg) | (with_reducible refine kn1 HA ?_; clear HA; intro g1 wn hg HA; (try rw [← hg]); clear hg) | (with_reducible refine kn2 HA ?_; clear HA; intro g2 wn hg HA; (try rw [← hg]); clear hg) | (with_reducible refine kn3 HA ?_; clear HA; intro g3 wn hg HA; (try rw [← hg]); clear hg) | (with_reducible refine kn4 HA ?_; clear HA; intro g4 wn hg HA; (try rw [← hg]); clear hg) | (with_reducible refine kn5 HA ?_; clear HA; intro g5 wn hg HA; (try rw [← hg]); clear hg) | (with_reducible refine kn6 HA ?_; clear HA; intro g6 wn hg HA; (try rw [← hg]); clear hg)) | (refine k_row HA 0 rfl 49 _ rfl rfl rfl _ Tryd.underlying49 rfl (cells_szR ht.len) ?_) | (go_at_call 50; refine (roldT_any t ht c r hr _).mono ?_; rintro e wn ⟨rfl, hb⟩; have HA1 := HA.call hb; clear HA hb; have HA := HA1; clear HA1) | (refine k_over HA 1 rfl 49 _ _ rfl rfl rfl rfl _ rfl (cells_szR ht.len) (cells_size ht.len) (cells_one t) ?_; clear HA; intro wn HA; (try simp only [List.set_cons_zero, List.set_cons_succ] at HA)))
          exact bodyPost_ret (res2 rfl (rv_row HA 1 rfl rfl Tryd.underlying49 rfl (cells_szR ht.len)) (rv_tmp _)) rfl ⟨rfl, HA.below⟩
        | false =>
          have hh : rhasT t c r = true := by
            rcases hbad with h | h | h
            · omega
            · rw [ho] at h; cases h
            · exact h
          clear hbad
          go_enter Tryd.func31, Tryd.ntmps31
          go_wp2_with (first | ((with_reducible refine g_go ?_ ?_); exact rfl) | (first | (with_reducible refine kn0 HA ?_; clear HA; intro g0 wn hg HA; (try rw [← hg]); clear hg) | (with_reducible refine kn1 HA ?_; clear HA; intro g1 wn hg HA; (try rw [← hg]); clear hg) | (with_reducible refine kn2 HA ?_; clear HA; intro g2 wn hg HA; (try rw [← hg]); clear hg) | (with_reducible refine kn3 HA ?_; clear HA; intro g3 wn hg HA; (try rw [← hg]); clear hg) | (with_reducible refine kn4 HA ?_; clear HA; intro g4 wn hg HA; (try rw [← hg]); clear hg) | (with_reducible refine kn5 HA ?_; clear HA; intro g5 wn hg HA; (try rw [← hg]); clear hg) | (with_reducible refine kn6 HA ?_; clear HA; intro g6 wn hg HA; (try rw [← hg]); clear hg)) | (refine k_row HA 0 rfl 49 _ rfl rfl rfl _ Tryd.underlying49 rfl (cells_szR ht.len) ?_) | (go_at_call 50; refine (roldT_any t ht c r hr _).mono ?_; rintro e wn ⟨rfl, hb⟩; have HA1 := HA.call hb; clear HA hb; have HA := HA1; clear HA1) | (go_at_call 51; refine (rhasT_any t ht c r hr _).mono ?_; rintro e wn ⟨rfl, hb⟩; have HA1 := HA.call hb; clear HA hb; have HA := HA1; clear HA1) | (refine k_over HA 1 rfl 49 _ _ rfl rfl rfl rfl _ rfl (cells_szR ht.len) (cells_size ht.len) (cells_one t) ?_; clear HA; intro wn HA; (try simp only [List.set_cons_zero, List.set_cons_succ] at HA)))
          exact bodyPost_ret (res2 rfl (rv_row HA 1 rfl rfl Tryd.underlying49 rfl (cells_szR ht.len)) (rv_tmp _)) rfl ⟨rfl, HA.below⟩
  · have h1 : 1 ≤ c := by
      by_cases h : 1 ≤ c
      · exact h
      · exact absurd (.inl (by omega)) hbad
    have h2 : c ≤ 8 := by
      by_cases h : c ≤ 8
      · exact h
      · exact absurd (.inl (by omega)) hbad
    have ho : oldT t c r = false := by
      cases h : oldT t c r with
      | false => rfl
      | true => exact absurd (.inr (.inl h)) hbad
    have hh : rhasT t c r = false := by
      cases h : rhasT t c r with
      | false => rfl
      | true => exact absurd (.inr (.inr h)) hbad
    have hw : withinB c = true := by simp [withinB, h1, h2]
    have hres : raddT t c r = (setC t c (raddC (gt t c).1 (gt t c).2 r), true) := by
      have e1 : oldB (gt t c).1 r = false := by simpa [oldT, hw] using ho
      have e2 : rhasB (gt t c).1 (gt t c).2 r = false := by simpa [rhasT, hw] using hh
      simp [raddT, hw, e1, e2]
    rw [hres]
    clear hres hbad hw
    obtain ⟨top, htop⟩ : ∃ x, x = max (gt t c).1 r := ⟨_, rfl⟩
    have hm1 : (gt t c).1 ≤ top := by omega
    have hm2 : r ≤ top := by omega
    obtain ⟨h64a, h64b⟩ := h64
    obtain ⟨hra, hrb⟩ := hr
    have htb : top ≤ 18446744073709551615 := by omega
    have hite : (if (gt t c).1 < r then r else (gt t c).1) = top := by split <;> omega
    have hd1 : decide (c < 1) = false := by simp; omega
    have hd8 : decide (8 < c) = false := by simp; omega
    have HTOP := Lib.hid htop
    clear htop
    go_enter Tryd.func31, Tryd.ntmps31
    go_wp2_with (first | ((with_reducible refine g_go ?_ ?_); exact rfl) | (first | (with_reducible refine kn0 HA ?_; clear HA; intro g0 wn hg HA; (try rw [← hg]); clear hg) | (with_reducible refine kn1 HA ?_; clear HA; intro g1 wn hg HA; (try rw [← hg]); clear hg) | (with_reducible refine kn2 HA ?_; clear HA; intro g2 wn hg HA; (try rw [← hg]); clear hg) | (with_reducible refine kn3 HA ?_; clear HA; intro g3 wn hg HA; (try rw [← hg]); clear hg) | (with_reducible refine kn4 HA ?_; clear HA; intro g4 wn hg HA; (try rw [← hg]); clear hg) | (with_reducible refine kn5 HA ?_; clear HA; intro g5 wn hg HA; (try rw [← hg]); clear hg) | (with_reducible refine kn6 HA ?_; clear HA; intro g6 wn hg HA; (try rw [← hg]); clear hg)) | (refine k_row HA 0 rfl 49 _ rfl rfl rfl _ Tryd.underlying49 rfl (cells_szR ht.len) ?_) | (go_at_call 50; refine (roldT_any t ht c r ⟨hra, hrb⟩ _).mono ?_; rintro e wn ⟨rfl, hb⟩; have HA1 := HA.call hb; clear HA hb; have HA := HA1; clear HA1) | (go_at_call 51; refine (rhasT_any t ht c r ⟨hra, hrb⟩ _).mono ?_; rintro e wn ⟨rfl, hb⟩; have HA1 := HA.call hb; clear HA hb; have HA := HA1; clear HA1) | ((first | (with_reducible refine is_load 47 _ ?_) | (with_reducible refine is_one ?_)); refine k_seg HA 0 rfl 47 _ rfl rfl _ rfl _ Tryd.underlying47 rfl 2 sz47 [.int .u64 (gt t c).1, .int .u16 (gt t c).2] rfl (cells_seg ht h1 h2) ?_) | ((first | (with_reducible refine is_load 23 _ ?_) | (with_reducible refine is_one ?_)); refine k_load HA 2 rfl 23 _ rfl rfl _ rfl _ Tryd.underlying23 rfl _ rfl ?_) | ((first | (with_reducible refine is_store 47 _ _ ?_) | (with_reducible refine is_one ?_)); refine k_over HA 2 rfl 47 _ _ rfl rfl rfl rfl _ rfl sz47 rfl (one_ii _ _ _ _) ?_; clear HA; intro wn HA; (try simp only [List.set_cons_zero, List.set_cons_succ] at HA)) | ((first | (with_reducible refine is_store 47 _ _ ?_) | (with_reducible refine is_one ?_)); refine k_over HA 3 rfl 47 _ _ rfl rfl rfl rfl _ rfl sz47 rfl (one_ii _ _ _ _) ?_; clear HA; intro wn HA; (try simp only [List.set_cons_zero, List.set_cons_succ] at HA)))
    rw [show (#[Value.int IntKind.u64 0, Value.int IntKind.u16 0, Value.int IntKind.u64 0, Value.int IntKind.u16 0, Value.int IntKind.u64 0, Value.int IntKind.u16 0, Value.int IntKind.u64 0, Value.int IntKind.u16 0, Value.int IntKind.u64 0, Value.int IntKind.u16 0, Value.int IntKind.u64 0, Value.int IntKind.u16 0, Value.int IntKind.u64 0, Value.int IntKind.u16 0, Value.int IntKind.u64 0, Value.int IntKind.u16 0] : Array Value) = cells (upto t 0) from rfl] at HA
    clear hd1 hd8 hite ho hh
    go_loopw [10, 11] (fun v10 v11 wr => ∃ j : Nat, j ≤ 16 ∧ v11 = .int .u64 j ∧ v10 = .int .u16 (2 ^ j % 65536) ∧ Hp w.heap.size (fun _ => False) w wr [⟨g0, cells t, 49⟩, ⟨g1, cells (upto t 0), 49⟩, ⟨g2, #[.int .u64 (gt t c).1, .int .u16 (gt t c).2], 47⟩, ⟨g3, #[.int .u64 top, .int .u16 (accR (gt t c).1 (gt t c).2 r top j)], 47⟩]) (fun _ v11 _ => 16 - (intOf v11).toNat)
    case atStart => exact ⟨0, by omega, rfl, rfl, HA⟩
    case round =>
      clear HA
      obtain ⟨j, hj, rfl, rfl, HA⟩ := hrel
      by_cases hlt : j < 16
      · have hU : ∀ j, j < 16 → (2 : Int) ^ j ≤ 32768 := by decide
        have hU1 := hU j hlt
        have hU0 := p2 j
        clear hU
        have hac := accR_rng (gt t c).1 (gt t c).2 r top j
        have hsu : accR (gt t c).1 (gt t c).2 r top (j + 1) = accR (gt t c).1 (gt t c).2 r top j + if condR (gt t c).1 (gt t c).2 r top j = true then 2 ^ j else 0 := rfl
        have hpw : (2 : Int) ^ (j + 1) = 2 * 2 ^ j := by rw [Int.pow_succ]; omega
        have hmod : (2 : Int) ^ j % 65536 = 2 ^ j := by omega
        rw [hmod]
        obtain ⟨U, hUe⟩ : ∃ U : Int, U = 2 ^ j := ⟨_, rfl⟩
        obtain ⟨A, hAe⟩ : ∃ A : Int, A = accR (gt t c).1 (gt t c).2 r top j := ⟨_, rfl⟩
        rw [← hUe] at hU1 hU0 hac hsu hpw ⊢
        rw [← hAe] at hac hsu HA
        obtain ⟨ha0, ha1⟩ := hac
        have HSU := Lib.hid hsu
        have HPW := Lib.hid hpw
        clear hsu hpw hmod hUe hAe
        have ha2 : A + U ≤ 65535 := by omega
        by_cases hk1 : (j : Int) = top - r
        · have hcnd : condR (gt t c).1 (gt t c).2 r top j = true := by simp [condR, hk1]
          have hk1b : ((j : Int) == top - r) = true := by simpa using hk1
          have HC := Lib.hid hcnd
          clear hcnd hk1
          go_wp2_with (first | ((with_reducible refine g_go ?_ ?_); exact rfl) | ((first | (with_reducible refine is_load 23 _ ?_) | (with_reducible refine is_one ?_)); refine k_load HA 2 rfl 23 _ rfl rfl _ rfl _ Tryd.underlying23 rfl _ rfl ?_) | ((first | (with_reducible refine is_load 23 _ ?_) | (with_reducible refine is_one ?_)); refine k_load HA 3 rfl 23 _ rfl rfl _ rfl _ Tryd.underlying23 rfl _ rfl ?_) | ((first | (with_reducible refine is_load 26 _ ?_) | (with_reducible refine is_one ?_)); refine k_load HA 3 rfl 26 _ rfl rfl _ rfl _ Tryd.underlying26 rfl _ rfl ?_) | ((first | (with_reducible refine is_store 26 _ _ ?_) | (with_reducible refine is_one ?_)); refine k_store HA 3 rfl 26 _ _ rfl rfl rfl _ rfl _ rfl sz26 (Nat.le_of_ble_eq_true rfl) (one_i _ _) #[.int .u64 top, .int .u16 (A + U)] rfl ?_; clear HA; intro wn HA; (try simp only [List.set_cons_zero, List.set_cons_succ] at HA)))
          go_roundw
          case rel => exact ⟨j + 1, by omega, by go_num, by rw [HPW.out, IntKind.wrap_u16], by rw [HSU.out, HC.out]; simp only [if_true]; exact HA⟩
          case measure => simp [intOf]; omega
        · have hk1b : ((j : Int) == top - r) = false := by simpa using hk1
          by_cases hk2 : top - (gt t c).1 ≤ j
          · cases hbit : bitB (gt t c).2 (j - (top - (gt t c).1)) with
            | true =>
              have hcnd : condR (gt t c).1 (gt t c).2 r top j = true := by simp [condR, hbit, hk2]
              have HC := Lib.hid hcnd
              clear hcnd hk1
              go_wp2_with (first | ((with_reducible refine g_go ?_ ?_); exact rfl) | ((first | (with_reducible refine is_load 23 _ ?_) | (with_reducible refine is_one ?_)); refine k_load HA 2 rfl 23 _ rfl rfl _ rfl _ Tryd.underlying23 rfl _ rfl ?_) | ((first | (with_reducible refine is_load 23 _ ?_) | (with_reducible refine is_one ?_)); refine k_load HA 3 rfl 23 _ rfl rfl _ rfl _ Tryd.underlying23 rfl _ rfl ?_) | ((first | (with_reducible refine is_load 26 _ ?_) | (with_reducible refine is_one ?_)); refine k_load HA 3 rfl 26 _ rfl rfl _ rfl _ Tryd.underlying26 rfl _ rfl ?_) | ((first | (with_reducible refine is_store 26 _ _ ?_) | (with_reducible refine is_one ?_)); refine k_store HA 3 rfl 26 _ _ rfl rfl rfl _ rfl _ rfl sz26 (Nat.le_of_ble_eq_true rfl) (one_i _ _) #[.int .u64 top, .int .u16 (A + U)] rfl ?_; clear HA; intro wn HA; (try simp only [List.set_cons_zero, List.set_cons_succ] at HA)) | ((first | (with_reducible refine is_load 47 _ ?_) | (with_reducible refine is_one ?_)); refine k_row HA 2 rfl 47 _ rfl rfl rfl _ Tryd.underlying47 rfl sz47 ?_) | (go_at_call 52; refine (bit_any (gt t c).1 (gt t c).2 ((j : Int) - (top - (gt t c).1)) h16 (by omega) (by omega) _).mono ?_; rintro e wn ⟨rfl, hb⟩; have HA1 := HA.call hb; clear HA hb; have HA := HA1; clear HA1))
              go_roundw
              case rel => exact ⟨j + 1, by omega, by go_num, by rw [HPW.out, IntKind.wrap_u16], by rw [HSU.out, HC.out]; simp only [if_true]; exact HA⟩
              case measure => simp [intOf]; omega
            | false =>
              have hcnd : condR (gt t c).1 (gt t c).2 r top j = false := by simp [condR, hbit, hk1]
              have HC := Lib.hid hcnd
              clear hcnd hk1
              go_wp2_with (first | ((with_reducible refine g_go ?_ ?_); exact rfl) | ((first | (with_reducible refine is_load 23 _ ?_) | (with_reducible refine is_one ?_)); refine k_load HA 2 rfl 23 _ rfl rfl _ rfl _ Tryd.underlying23 rfl _ rfl ?_) | ((first | (with_reducible refine is_load 23 _ ?_) | (with_reducible refine is_one ?_)); refine k_load HA 3 rfl 23 _ rfl rfl _ rfl _ Tryd.underlying23 rfl _ rfl ?_) | ((first | (with_reducible refine is_load 26 _ ?_) | (with_reducible refine is_one ?_)); refine k_load HA 3 rfl 26 _ rfl rfl _ rfl _ Tryd.underlying26 rfl _ rfl ?_) | ((first | (with_reducible refine is_store 26 _ _ ?_) | (with_reducible refine is_one ?_)); refine k_store HA 3 rfl 26 _ _ rfl rfl rfl _ rfl _ rfl sz26 (Nat.le_of_ble_eq_true rfl) (one_i _ _) #[.int .u64 top, .int .u16 (A + U)] rfl ?_; clear HA; intro wn HA; (try simp only [List.set_cons_zero, List.set_cons_succ] at HA)) | ((first | (with_reducible refine is_load 47 _ ?_) | (with_reducible refine is_one ?_)); refine k_row HA 2 rfl 47 _ rfl rfl rfl _ Tryd.underlying47 rfl sz47 ?_) | (go_at_call 52; refine (bit_any (gt t c).1 (gt t c).2 ((j : Int) - (top - (gt t c).1)) h16 (by omega) (by omega) _).mono ?_; rintro e wn ⟨rfl, hb⟩; have HA1 := HA.call hb; clear HA hb; have HA := HA1; clear HA1))
              go_roundw
              case rel => exact ⟨j + 1, by omega, by go_num, by rw [HPW.out, IntKind.wrap_u16], by rw [HSU.out, HC.out]; simp only [Bool.false_eq_true, if_false, Int.add_zero]; exact HA⟩
              case measure => simp [intOf]; omega
          · have hcnd : condR (gt t c).1 (gt t c).2 r top j = false := by simp [condR, hk1]; omega
            have HC := Lib.hid hcnd
            clear hcnd hk1
            go_wp2_with (first | ((with_reducible refine g_go ?_ ?_); exact rfl) | ((first | (with_reducible refine is_load 23 _ ?_) | (with_reducible refine is_one ?_)); refine k_load HA 2 rfl 23 _ rfl rfl _ rfl _ Tryd.underlying23 rfl _ rfl ?_) | ((first | (with_reducible refine is_load 23 _ ?_) | (with_reducible refine is_one ?_)); refine k_load HA 3 rfl 23 _ rfl rfl _ rfl _ Tryd.underlying23 rfl _ rfl ?_) | ((first | (with_reducible refine is_load 26 _ ?_) | (with_reducible refine is_one ?_)); refine k_load HA 3 rfl 26 _ rfl rfl _ rfl _ Tryd.underlying26 rfl _ rfl ?_) | ((first | (with_reducible refine is_store 26 _ _ ?_) | (with_reducible refine is_one ?_)); refine k_store HA 3 rfl 26 _ _ rfl rfl rfl _ rfl _ rfl sz26 (Nat.le_of_ble_eq_true rfl) (one_i _ _) #[.int .u64 top, .int .u16 (A + U)] rfl ?_; clear HA; intro wn HA; (try simp only [List.set_cons_zero, List.set_cons_succ] at HA)))
            go_roundw
            case rel => exact ⟨j + 1, by omega, by go_num, by rw [HPW.out, IntKind.wrap_u16], by rw [HSU.out, HC.out]; simp only [Bool.false_eq_true, if_false, Int.add_zero]; exact HA⟩
            case measure => simp [intOf]; omega
      · obtain rfl : j = 16 := by omega
        have hrc : raddC (gt t c).1 (gt t c).2 r = (top, accR (gt t c).1 (gt t c).2 r top 16) := by unfold raddC; rw [← HTOP.out]
        have HRC := Lib.hid hrc
        clear hrc
        have HSP := Lib.hid (spl_cells ht.len (k := c.toNat - 1) (by omega) (top, accR (gt t c).1 (gt t c).2 r top 16))
        have hoff : (c.toNat - 1) * 2 + (Value.agg #[.int .u64 top, .int .u16 (accR (gt t c).1 (gt t c).2 r top 16)]).cells.size ≤ (cells t).size := by
          rw [cells_size ht.len]
          show (c.toNat - 1) * 2 + 2 ≤ 16
          omega
        have hl : (t.set (c.toNat - 1) (top, accR (gt t c).1 (gt t c).2 r top 16)).length = 8 := by simp [ht.len]
        have hz : (cells (t.set (c.toNat - 1) (top, accR (gt t c).1 (gt t c).2 r top 16))).size = (cells (upto t 0)).size := by rw [cells_size hl, cells_size (upto_len ht.len (by omega))]
        go_wp2_with (first | ((with_reducible refine g_go ?_ ?_); exact rfl) | ((first | (with_reducible refine is_load 47 _ ?_) | (with_reducible refine is_one ?_)); refine k_row HA 3 rfl 47 _ rfl rfl rfl _ Tryd.underlying47 rfl sz47 ?_) | ((first | (with_reducible refine is_store 47 _ _ ?_) | (with_reducible refine is_one ?_)); refine k_store HA 0 rfl 47 _ _ rfl rfl rfl _ rfl _ rfl sz47 hoff (one_ii _ _ _ _) _ HSP.out ?_; clear HA; intro wn HA; (try simp only [List.set_cons_zero, List.set_cons_succ] at HA)) | (refine k_row HA 0 rfl 49 _ rfl rfl rfl _ Tryd.underlying49 rfl (cells_szR hl) ?_) | (refine k_over HA 1 rfl 49 _ _ rfl rfl rfl rfl _ rfl (cells_szR hl) hz (cells_one _) ?_; clear HA; intro wn HA; (try simp only [List.set_cons_zero, List.set_cons_succ] at HA)))
        exact bodyPost_ret (res2 rfl (rv_row HA 1 rfl rfl Tryd.underlying49 rfl (cells_szR hl)) (rv_tmp _)) rfl ⟨by rw [HRC.out]; rfl, HA.below⟩
theorem bits_or16 {x y : Nat} (hx : x < 65536) (hy : y < 65536) : bits .or .u16 x y = ((x ||| y : Nat) : Int) := by
  have h : x ||| y < 65536 := Nat.or_lt_two_pow (n := 16) hx hy
  unfold bits
  rw [IntKind.wrap_u16]
  show (((BitVec.ofInt 16 x ||| BitVec.ofInt 16 y).toNat : Nat) : Int) % 65536 = _
  rw [BitVec.ofInt_natCast, BitVec.ofInt_natCast, BitVec.toNat_or, BitVec.toNat_ofNat, BitVec.toNat_ofNat, Nat.mod_eq_of_lt hx, Nat.mod_eq_of_lt hy]
  omega
theorem bits_and16 {x : Nat} (hx : x < 65536) : bits .and .u16 x 1 = ((x % 2 : Nat) : Int) := by
  unfold bits
  rw [IntKind.wrap_u16]
  show (((BitVec.ofInt 16 x &&& BitVec.ofInt 16 ((1 : Nat) : Int)).toNat : Nat) : Int) % 65536 = _
  rw [BitVec.ofInt_natCast, BitVec.ofInt_natCast, BitVec.toNat_and, BitVec.toNat_ofNat, BitVec.toNat_ofNat, Nat.mod_eq_of_lt hx, Nat.mod_eq_of_lt (show 1 < 2 ^ 16 by decide), Nat.and_one_is_mod]
  omega
theorem bitB_test (b k : Nat) : bitB b k = b.testBit k := by
  unfold bitB
  rw [Nat.testBit_eq_decide_div_mod_eq]
  have : (b : Int) / 2 ^ ((k : Int)).toNat % 2 = ((b / 2 ^ k % 2 : Nat) : Int) := by simp
  rw [this]
  simp only [decide_eq_decide]
  omega
theorem has_eq {t b r : Int} (hb : U16 b) : rhasB t b r = hasB t b r := by
  obtain ⟨h0, h1⟩ := hb
  obtain ⟨b, rfl⟩ := Int.eq_ofNat_of_zero_le h0
  unfold rhasB hasB
  by_cases h : 0 < r ∧ r ≤ t ∧ t - r < 16
  · obtain ⟨h2, h3, h4⟩ := h
    obtain ⟨d, hd⟩ : ∃ d : Nat, t - r = d := Int.eq_ofNat_of_zero_le (by omega)
    rw [hd, bitB_test]
    have e : (b : Int) / 2 ^ ((d : Int)).toNat = ((b / 2 ^ d : Nat) : Int) := by simp
    rw [e, bits_and16 (Nat.lt_of_le_of_lt (Nat.div_le_self _ _) (by omega)), Nat.testBit_eq_decide_div_mod_eq]
    congr 1
    rw [Bool.eq_iff_iff]
    simp only [decide_eq_true_eq, beq_iff_eq]
    omega
  · have : (decide (0 < r) && decide (r ≤ t) && decide (t - r < 16)) = false := by
      simp only [Bool.and_eq_false_iff, decide_eq_false_iff_not]
      omega
    rw [this, Bool.false_and, Bool.false_and]
/-- Bits by what has them. -/
def accN (c : Nat → Bool) : Nat → Nat
  | 0 => 0
  | k + 1 => accN c k + if c k = true then 2 ^ k else 0
theorem accN_lt (c : Nat → Bool) : ∀ k, accN c k < 2 ^ k := by
  intro k
  induction k with
  | zero => simp [accN]
  | succ k ih =>
    have e : 2 ^ (k + 1) = 2 * 2 ^ k := by rw [Nat.pow_succ]; omega
    unfold accN
    split <;> omega
theorem accN_bit (c : Nat → Bool) (i : Nat) : ∀ k, (accN c k).testBit i = (decide (i < k) && c i) := by
  intro k
  induction k with
  | zero => simp [accN]
  | succ k ih =>
    unfold accN
    by_cases hc : c k = true
    · have e : accN c k + 2 ^ k = 2 ^ k * 1 ||| accN c k := by
        rw [← Nat.two_pow_add_eq_or_of_lt (accN_lt c k)]; omega
      rw [if_pos hc, e, Nat.testBit_or, ih, Nat.mul_one, Nat.testBit_two_pow]
      by_cases h1 : k = i
      · subst h1; simp [hc]
      · by_cases h2 : i < k
        · simp [h1, h2, Nat.lt_succ_of_lt h2]
        · simp [h1, h2]; omega
    · rw [if_neg hc, Nat.add_zero, ih]
      by_cases h1 : k = i
      · subst h1; simp at hc; simp [hc]
      · by_cases h2 : i < k
        · simp [h2, Nat.lt_succ_of_lt h2]
        · have : ¬ i < k + 1 := by omega
          simp [h2, this]
theorem accR_N (told b r top : Int) : ∀ k, accR told b r top k = ((accN (fun i => condR told b r top i) k : Nat) : Int) := by
  intro k
  induction k with
  | zero => rfl
  | succ k ih =>
    unfold accR accN
    rw [ih]
    split <;> simp
theorem add_eq {t b r : Int} (ht : U64 t) (hr : U64 r) (hb : U16 b) (ho : oldB t r = false) : raddC t b r = withC t b r := by
  obtain ⟨h0, h1⟩ := hb
  obtain ⟨t0, t1⟩ := ht
  obtain ⟨r0, r1⟩ := hr
  obtain ⟨b, rfl⟩ := Int.eq_ofNat_of_zero_le h0
  have hbl : b < 65536 := by omega
  have ho' : r ≠ 0 ∧ (t < r ∨ t - r < 16) := by
    simp only [oldB, Bool.or_eq_false_iff, Bool.and_eq_false_iff, decide_eq_false_iff_not] at ho
    omega
  unfold raddC withC
  by_cases h : t < r
  · obtain ⟨d, hd⟩ : ∃ d : Nat, r - t = d := Int.eq_ofNat_of_zero_le (by omega)
    have hmax : max t r = r := by omega
    rw [if_pos h, hmax, hd]
    refine Prod.ext rfl ?_
    show accR t b r r 16 = _
    have e1 : IntKind.u16.wrap ((b : Int) * 2 ^ min ((d : Int)).toNat 16) = ((b * 2 ^ min d 16 % 65536 : Nat) : Int) := by
      rw [IntKind.wrap_u16]; simp
    rw [accR_N, e1]
    have e2 := bits_or16 (x := b * 2 ^ min d 16 % 65536) (y := 1) (Nat.mod_lt _ (by decide)) (by decide)
    have e3 : bits BinOp.or IntKind.u16 ((b * 2 ^ min d 16 % 65536 : Nat) : Int) 1 = bits BinOp.or IntKind.u16 ((b * 2 ^ min d 16 % 65536 : Nat) : Int) ((1 : Nat) : Int) := rfl
    rw [e3, e2]
    congr 1
    apply Nat.eq_of_testBit_eq
    intro i
    rw [accN_bit, Nat.testBit_or]
    have e4 : (65536 : Nat) = 2 ^ 16 := rfl
    rw [e4, Nat.testBit_mod_two_pow, Nat.testBit_mul_two_pow, show (1 : Nat) = 2 ^ 0 from rfl, Nat.testBit_two_pow]
    by_cases hi : i < 16
    · have ec : condR t b r r i = (decide (i = 0) || (decide (d ≤ i) && b.testBit (i - d))) := by
        unfold condR
        have g1 : decide ((i : Int) = r - r) = decide (i = 0) := by simp only [decide_eq_decide]; omega
        have g2 : decide (r - t ≤ (i : Int)) = decide (d ≤ i) := by simp only [decide_eq_decide]; omega
        rw [g1, g2]
        by_cases hdi : d ≤ i
        · have g3 : (i : Int) - (r - t) = ((i - d : Nat) : Int) := by omega
          rw [g3, bitB_test]
        · simp [hdi]
      rw [ec]
      by_cases hd16 : d ≤ 16
      · rw [Nat.min_eq_left hd16]
        simp only [hi, decide_true, Bool.true_and, ge_iff_le]
        rw [Bool.or_comm]
        congr 1
        rw [Bool.eq_iff_iff]; simp only [decide_eq_true_eq]; omega
      · have g4 : ¬ d ≤ i := by omega
        have g5 : ¬ 16 ≤ i := by omega
        rw [Nat.min_eq_right (by omega)]
        simp only [hi, g4, g5, decide_true, decide_false, Bool.true_and, Bool.false_and, Bool.or_false, Bool.false_or, ge_iff_le]
        rw [Bool.eq_iff_iff]; simp only [decide_eq_true_eq]; omega
    · have g6 : ¬ 0 = i := by omega
      simp [hi]
      omega
  · obtain ⟨d, hd⟩ : ∃ d : Nat, t - r = d := Int.eq_ofNat_of_zero_le (by omega)
    have hd16 : d < 16 := by omega
    have hmax : max t r = t := by omega
    rw [if_neg h, hmax, hd]
    refine Prod.ext rfl ?_
    show accR t b r t 16 = _
    have hp : 2 ^ d < 65536 := Nat.lt_of_lt_of_le (Nat.pow_lt_pow_right (by decide) hd16) (by decide)
    have e1 : IntKind.u16.wrap (2 ^ min ((d : Int)).toNat 16) = ((2 ^ d : Nat) : Int) := by
      have g : min ((d : Int)).toNat 16 = d := by simp; omega
      rw [g, IntKind.wrap_u16]
      have : ((2 : Int) ^ d) = ((2 ^ d : Nat) : Int) := by simp
      rw [this]
      exact Int.emod_eq_of_lt (Int.natCast_nonneg _) (Int.ofNat_lt.2 hp)
    rw [accR_N, e1, bits_or16 hbl hp]
    congr 1
    apply Nat.eq_of_testBit_eq
    intro i
    rw [accN_bit, Nat.testBit_or, Nat.testBit_two_pow]
    by_cases hi : i < 16
    · have ec : condR t b r t i = (decide (i = d) || b.testBit i) := by
        unfold condR
        have g1 : decide ((i : Int) = t - r) = decide (i = d) := by simp only [decide_eq_decide]; omega
        have g2 : decide (t - t ≤ (i : Int)) = true := by simp only [decide_eq_true_eq]; omega
        have g3 : (i : Int) - (t - t) = (i : Int) := by omega
        rw [g1, g2, g3, bitB_test, Bool.true_and]
      rw [ec]
      simp only [hi, decide_true, Bool.true_and]
      rw [Bool.or_comm]
      congr 1
      rw [Bool.eq_iff_iff]; simp only [decide_eq_true_eq]; omega
    · have hbi : b.testBit i = false := Nat.testBit_lt_two_pow (Nat.lt_of_lt_of_le hbl (show 2 ^ 16 ≤ 2 ^ i from Nat.pow_le_pow_right (by decide) (by omega)))
      have : ¬ d = i := by omega
      simp [hi, hbi, this]
theorem gt_set {t : List (Int × Int)} (ht : t.length = 8) {c : Int} (h1 : 1 ≤ c) (h2 : c ≤ 8) (x : Int × Int) : gt (setC t c x) c = x := by
  have : c.toNat - 1 < t.length := by omega
  simp [gt, setC, List.getD_eq_getElem?_getD, this]
theorem set_same {t : List (Int × Int)} (ht : t.length = 8) {c : Int} (h1 : 1 ≤ c) (h2 : c ≤ 8) : setC t c (gt t c) = t := by
  have : c.toNat - 1 < t.length := by omega
  simp [gt, setC, List.getD_eq_getElem?_getD, this]
/-- A client that has a request more has it; and only then it is another one. -/
theorem withC_has {t b r : Int} (ht : U64 t) (hr : U64 r) (hb : U16 b) (ho : oldB t r = false) : (hasB t b r = true → withC t b r = (t, b)) ∧ hasB (withC t b r).1 (withC t b r).2 r = true := by
  obtain ⟨h0, h1⟩ := hb
  obtain ⟨t0, t1⟩ := ht
  obtain ⟨r0, r1⟩ := hr
  obtain ⟨b, rfl⟩ := Int.eq_ofNat_of_zero_le h0
  have hbl : b < 65536 := by omega
  have ho' : r ≠ 0 ∧ (t < r ∨ t - r < 16) := by
    simp only [oldB, Bool.or_eq_false_iff, Bool.and_eq_false_iff, decide_eq_false_iff_not] at ho
    omega
  unfold withC
  by_cases h : t < r
  · rw [if_pos h]
    refine ⟨fun hh => ?_, ?_⟩
    · simp [hasB] at hh; omega
    · obtain ⟨d, hd⟩ : ∃ d : Nat, r - t = d := Int.eq_ofNat_of_zero_le (by omega)
      rw [hd]
      have e1 : IntKind.u16.wrap ((b : Int) * 2 ^ min ((d : Int)).toNat 16) = ((b * 2 ^ min d 16 % 65536 : Nat) : Int) := by
        rw [IntKind.wrap_u16]; simp
      have e2 := bits_or16 (x := b * 2 ^ min d 16 % 65536) (y := 1) (Nat.mod_lt _ (by decide)) (by decide)
      have e3 : bits BinOp.or IntKind.u16 ((b * 2 ^ min d 16 % 65536 : Nat) : Int) 1 = bits BinOp.or IntKind.u16 ((b * 2 ^ min d 16 % 65536 : Nat) : Int) ((1 : Nat) : Int) := rfl
      rw [e1, e3, e2]
      have hlt : (b * 2 ^ min d 16 % 65536 ||| 1) < 65536 := Nat.or_lt_two_pow (n := 16) (Nat.mod_lt _ (by decide)) (by decide)
      rw [← has_eq ⟨by omega, by omega⟩]
      have e4 : r - r = ((0 : Nat) : Int) := by omega
      unfold rhasB
      rw [e4, bitB_test, Nat.testBit_or]
      simp
      omega
  · rw [if_neg h]
    obtain ⟨d, hd⟩ : ∃ d : Nat, t - r = d := Int.eq_ofNat_of_zero_le (by omega)
    have hd16 : d < 16 := by omega
    have hp : 2 ^ d < 65536 := Nat.lt_of_lt_of_le (Nat.pow_lt_pow_right (by decide) hd16) (by decide)
    rw [hd]
    have e1 : IntKind.u16.wrap (2 ^ min ((d : Int)).toNat 16) = ((2 ^ d : Nat) : Int) := by
      have g : min ((d : Int)).toNat 16 = d := by simp; omega
      rw [g, IntKind.wrap_u16]
      have : ((2 : Int) ^ d) = ((2 ^ d : Nat) : Int) := by simp
      rw [this]
      exact Int.emod_eq_of_lt (Int.natCast_nonneg _) (Int.ofNat_lt.2 hp)
    rw [e1, bits_or16 hbl hp]
    have hlt : b ||| 2 ^ d < 65536 := Nat.or_lt_two_pow (n := 16) hbl hp
    refine ⟨fun hh => ?_, ?_⟩
    · rw [← has_eq ⟨h0, h1⟩] at hh
      unfold rhasB at hh
      rw [hd, bitB_test] at hh
      simp only [Bool.and_eq_true] at hh
      have : b ||| 2 ^ d = b := by
        apply Nat.eq_of_testBit_eq
        intro i
        rw [Nat.testBit_or, Nat.testBit_two_pow]
        by_cases hi : d = i
        · subst hi; simp [hh.2]
        · simp [hi]
      rw [this]
    · rw [← has_eq ⟨by omega, by omega⟩]
      unfold rhasB
      rw [hd, bitB_test, Nat.testBit_or, Nat.testBit_two_pow]
      simp
      omega
theorem within_iff {c : Int} : withinB c = true ↔ 1 ≤ c ∧ c ≤ 8 := by simp [withinB]
/-- The table with a request more is the document's. -/
theorem addT_eq {t : List (Int × Int)} (ht : TOk t) {c r : Int} (hr : U64 r) : raddT t c r = addT t c r := by
  obtain ⟨h64, h16⟩ := gt_ok ht c
  unfold raddT addT
  by_cases hw : withinB c = true
  · obtain ⟨h1, h2⟩ := within_iff.1 hw
    cases ho : oldB (gt t c).1 r with
    | true => simp
    | false =>
      have hh := withC_has h64 hr h16 ho
      cases hb : hasB (gt t c).1 (gt t c).2 r with
      | true =>
        have e := hh.1 hb
        have e2 : withC (gt t c).1 (gt t c).2 r = gt t c := e
        rw [has_eq h16, hb, e2, set_same ht.len h1 h2]
        simp [hw]
      | false =>
        rw [has_eq h16, hb, add_eq h64 hr h16 ho]
        have hne : ¬ setC t c (withC (gt t c).1 (gt t c).2 r) = t := by
          intro e
          have e2 := congrArg (fun x => gt x c) e
          simp only [gt_set ht.len h1 h2] at e2
          have h3 := hh.2
          rw [e2, hb] at h3
          cases h3
        simp [hw, hne]
  · have : withinB c = false := by simpa using hw
    simp [this]
end Go.Proofs.YtlnafekmiidpkaaDoor
