/- Written by a program of this session (xp.py) for this claim: functions and their walks. -/
import Derived.Test.YtejflbmpokdhgaaPPutsx0
import Derived.Test.YtejflbmpokdhgaaPPutsx1
namespace Go.Proofs.Ytejflbmpokdhgaa.PPuts
open Go.RowKit Go.Proofs.YtejflbmpokdhgaaW.PrintWords Go.Proofs.YtejflbmpokdhgaaW.PrintLast Go.Proofs.YtejflbmpokdhgaaW.PrintMore
attribute [local go_sem] max2_int min2_int max_two min_two max_three min_three max_four min_four   -- for this text's walks alone
set_option linter.unusedVariables false
set_option linter.unusedSimpArgs false

/-! ### keelsonref01_Put: function 55 -/
mutual
def keelsonref01_Put.j0 : Nat → Int → Int → List Int → Bool → Option (List Int)
  | 0, _, _, _, _ => none
  | k + 1, x1, x2, x7, x17 => if x17 = true then (some x7) else (keelsonref01_Put.l0 k x1 x2 x7 0)
def keelsonref01_Put.l0 : Nat → Int → Int → List Int → Int → Option (List Int)
  | 0, _, _, _, _ => none
  | k + 1, x1, x2, x7, x8 => if x8 < x1 then (if x7.length < 140737488355328 then (keelsonref01_Put.l0 k x1 (IntKind.u64.wrap (Int.tdiv x2 256)) (x7 ++ [(Int.tmod x2 256) % 256]) (wrap64 (x8 + 1))) else (none)) else (some x7)
end
def keelsonref01_Put.f (k : Nat) (l0 : List Int) (a1 : Int) (a2 : Int) : Option (List Int) := if ([] : List Int).length + l0.length < 140737488355328 then ((some (([] : List Int) ++ l0 : List Int)).bind fun y124 => (if a1 < 1 then (keelsonref01_Put.j0 k a1 a2 y124 true) else (keelsonref01_Put.j0 k a1 a2 y124 (decide (a1 > 8))))) else (none)
theorem keelsonref01_Put.mono_l : ∀ k, (∀ y0 y1 y2 y3, LeO (keelsonref01_Put.j0 k y0 y1 y2 y3) (keelsonref01_Put.j0 (k + 1) y0 y1 y2 y3)) ∧ (∀ y0 y1 y2 y3, LeO (keelsonref01_Put.l0 k y0 y1 y2 y3) (keelsonref01_Put.l0 (k + 1) y0 y1 y2 y3))
  | 0 => ⟨fun _ _ _ _ r h => by simp [keelsonref01_Put.j0] at h, fun _ _ _ _ r h => by simp [keelsonref01_Put.l0] at h⟩
  | k + 1 => by
    obtain ⟨ih0, ih1⟩ := keelsonref01_Put.mono_l k
    refine ⟨?_, ?_⟩
    · intro y0 y1 y2 y3
      unfold keelsonref01_Put.j0
      repeat' first
      | (with_reducible exact ih0 _ _ _ _)
      | (with_reducible exact ih1 _ _ _ _)
      | (with_reducible exact LeO.refl _)
      | (with_reducible exact LeO.none _)
      | (with_reducible refine LeO.ite ?_ ?_)
      | (with_reducible refine LeO.bind ?_ (fun _ => ?_))
      | exact ih0 _ _ _ _
      | exact ih1 _ _ _ _
      | exact LeO.none _
      | refine LeO.ite ?_ ?_
      | refine LeO.bind ?_ (fun _ => ?_)
    · intro y0 y1 y2 y3
      unfold keelsonref01_Put.l0
      repeat' first
      | (with_reducible exact ih0 _ _ _ _)
      | (with_reducible exact ih1 _ _ _ _)
      | (with_reducible exact LeO.refl _)
      | (with_reducible exact LeO.none _)
      | (with_reducible refine LeO.ite ?_ ?_)
      | (with_reducible refine LeO.bind ?_ (fun _ => ?_))
      | exact ih0 _ _ _ _
      | exact ih1 _ _ _ _
      | exact LeO.none _
      | refine LeO.ite ?_ ?_
      | refine LeO.bind ?_ (fun _ => ?_)
theorem keelsonref01_Put.mono : ∀ a0 a1 a2 k, LeO (keelsonref01_Put.f k a0 a1 a2) (keelsonref01_Put.f (k + 1) a0 a1 a2) := by
  intro a0 a1 a2 k
  obtain ⟨ih0, ih1⟩ := keelsonref01_Put.mono_l k
  unfold keelsonref01_Put.f
  repeat' first
      | (with_reducible exact ih0 _ _ _ _)
      | (with_reducible exact ih1 _ _ _ _)
      | (with_reducible exact LeO.refl _)
      | (with_reducible exact LeO.none _)
      | (with_reducible refine LeO.ite ?_ ?_)
      | (with_reducible refine LeO.bind ?_ (fun _ => ?_))
      | exact ih0 _ _ _ _
      | exact ih1 _ _ _ _
      | exact LeO.none _
      | refine LeO.ite ?_ ?_
      | refine LeO.bind ?_ (fun _ => ?_)
set_option maxHeartbeats 8000000 in
set_option maxRecDepth 100000 in
theorem keelsonref01_Put.calls (k : Nat) (A0 : Option Addr) (c0 : Nat) (l0 : List Int) (a1 : Int) (a2 : Int) (r : List Int) (w : World) (hr0 : Kd.C (Kd.int .u8) w A0 l0.length l0) (hc0 : l0.length ≤ c0) (h : keelsonref01_Put.f k l0 a1 a2 = some r) :
    Calls Try.prog 55 #[.slice A0 l0.length c0, .int .i64 a1, .int .u64 a2] w fun e w' => ∃ v0_ : Value, e = .returned (v0_) ∧ Kd.R (Kd.int .u8) 5 w' w.heap.size (fun _ => True) v0_ r ∧ Below w.heap.size w w' := by
  have HR0 := Aside0.mk hr0
  have HC0 := Aside0.mk hc0
  clear hr0 hc0
  have HB := Aside0.mk (Below.refl w.heap.size w)
  have H : (if ([] : List Int).length + l0.length < 140737488355328 then ((some (([] : List Int) ++ l0 : List Int)).bind fun y124 => (if a1 < 1 then (keelsonref01_Put.j0 k a1 a2 y124 true) else (keelsonref01_Put.j0 k a1 a2 y124 (decide (a1 > 8))))) else (none)) = some r := h
  clear h
  by_cases c4 : ([] : List Int).length + l0.length < 140737488355328
  · rw [if_pos c4] at H
    have LMc4 := Aside0.mk c4
    clear c4
    obtain ⟨y124, hy124⟩ : ∃ y_ : List Int, y_ = (([] : List Int) ++ l0) := ⟨_, rfl⟩
    replace H : (if a1 < 1 then (keelsonref01_Put.j0 k a1 a2 y124 true) else (keelsonref01_Put.j0 k a1 a2 y124 (decide (a1 > 8)))) = some r := by first | (rw [hy124]; with_reducible exact H) | (have H2_ := (Option.bind_some _ _).symm.trans H; rw [hy124]; with_reducible exact H2_) | (have H2_ := (Option.bind_some _ _).symm.trans H; with_reducible exact H2_) | with_reducible exact H | (rw [hy124]; exact H) | exact H
    have Ny124 := Aside0.mk hy124
    clear hy124
    have HC5 := Aside0.mk H
    clear H
    go_enter Try.func55, Try.ntmps55
    go_upto_region 3 with (first | ((with_reducible refine gate_builtin (b := .append) (xs := #[.tmp 9, .tmp 10]) rfl ?_); at_builtin; refine Kd.R_append_rows (Kd.int .u8) (w0 := w) w.heap.size rfl (.tmp 9) (.tmp 10) 22 5 (.int .u8 0) 1 rfl Try.underlying22 info5 rfl (by decide) (by omega) (.slice none 0 0) ([] : List Int) l0 _ _ _ (fun _ => True) (fun _ => False) rfl rfl ?aO ?aR (fun _ _ h => h) (fun _ h => h.elim) ?aF ?aB ?aS ?aL ?_; (case aR => repeat (first | exact HR0.out | (with_reducible refine Kd.C_alloc ?_ _) | (with_reducible refine Kd.C_drewN ?_ _) | (with_reducible refine Kd.C_drew ?_))); (case aB => exact (by repeat (first | (with_reducible first | exact HB.out | apply below_alloc | apply pw_below_drewN | apply below_drew1) | exact HB.out))); (case aF => exact (fun _ _ => trivial)); (case aO => exact ((Kd.R_nil _ _ _ _ (fun _ => True)))); (case aS => exact (below_size (by repeat (first | (with_reducible first | exact HB.out | apply below_alloc | apply pw_below_drewN | apply below_drew1) | exact HB.out)))); (case aL => have := LMc4.out; omega); intro v125 w6 ho hb hg hat; rw [← Ny124.out] at ho; have n0_ := Aside0.mk (hb); have n1_ := Aside0.mk (ho); clear HB; have HB := n0_; have HO126 := n1_; clear n0_ n1_; clear ho hb hg hat))
    (try simp only [Act.put, List.setIfInBounds_toArray, List.set_cons_zero, List.set_cons_succ])
    go_cut [17] (fun v17 wc => ∃ (kq : Nat) (x17_4 : Bool), v17 = .bool x17_4 ∧ Aside0 (keelsonref01_Put.j0 kq a1 a2 y124 x17_4 = some r) ∧ Aside0 (kq ≤ k) ∧ Aside0 (Kd.R (Kd.int .u8) 5 wc w.heap.size (fun _ => True) v125 y124) ∧ Aside0 (Below w.heap.size w wc))
    case first =>
      have H := HC5.out
      clear HC5
      by_cases c7 : a1 < 1
      · rw [if_pos c7] at H
        have c7b0 : decide (a1 < 1) = true := decide_eq_true c7
        clear c7
        (first | rw [c7b0] | (simp only [i64_w, i32_w]; rw [c7b0]) | skip)
        have H' := Aside0.mk H
        clear H
        go_wp2
        go_meet
        case rel => exact ⟨_, (true), (by first | rfl | (simp; done) | (simp [*]; done)), H', ⟨by first | omega | exact Nat.le_refl _⟩, ⟨by (with_reducible repeat (first | apply Kd.R_alloc | apply Kd.R_drewN | apply Kd.R_drew)); exact HO126.out⟩, ⟨by repeat (first | (with_reducible first | exact HB.out | apply below_alloc | apply pw_below_drewN | apply below_drew1) | exact HB.out)⟩⟩
      · rw [if_neg c7] at H
        have c7b0 : decide (a1 < 1) = false := decide_eq_false c7
        clear c7
        (first | rw [c7b0] | (simp only [i64_w, i32_w]; rw [c7b0]) | skip)
        have H' := Aside0.mk H
        clear H
        go_wp2
        go_meet
        case rel => exact ⟨_, (decide (a1 > 8)), (by first | rfl | (simp; done) | (simp [*]; done)), H', ⟨by first | omega | exact Nat.le_refl _⟩, ⟨by (with_reducible repeat (first | apply Kd.R_alloc | apply Kd.R_drewN | apply Kd.R_drew)); exact HO126.out⟩, ⟨by repeat (first | (with_reducible first | exact HB.out | apply below_alloc | apply pw_below_drewN | apply below_drew1) | exact HB.out)⟩⟩
    case rest =>
      clear HC5
      try clear p2
      try clear c4
      try clear c5
      try clear c7
      try clear c7b0
      obtain ⟨kq, x17_4, rfl, HA, HJ4, HO_7, HB⟩ := hcut
      cases kq with
      | zero => exact absurd HA.out (by simp [keelsonref01_Put.j0])
      | succ kj4 =>
        have H := HA.out
        clear HA
        simp only [keelsonref01_Put.j0] at H
        by_cases c8 : x17_4 = true
        · subst c8
          have H1 : (some y124) = some r := by rw [if_pos rfl] at H; exact H
          clear H
          have H := H1
          clear H1
          obtain rfl := Option.some.inj H
          go_wp2
          go_ret
          exact ⟨_, by first | rfl | (simp [errW_none, errW_some] <;> rfl) | (simp [*, errW_none, errW_some] <;> rfl), by (with_reducible repeat (first | apply Kd.R_alloc | apply Kd.R_drewN | apply Kd.R_drew)); exact HO_7.out, by repeat (first | (with_reducible first | exact HB.out | apply below_alloc | apply pw_below_drewN | apply below_drew1) | exact HB.out)⟩
        · replace c8 := Bool.eq_false_iff.mpr c8
          subst c8
          have H1 : (keelsonref01_Put.l0 kj4 a1 a2 y124 0) = some r := by rw [if_neg (show ¬ (false = true) by decide)] at H; exact H
          clear H
          have H := H1
          clear H1
          have H' := Aside0.mk H
          clear H
          go_wp2
          go_loopg [2, 7, 8] kj4 (fun kq v2 v7 v8 w' => ∃ (x2_2 : Int) (x7_2 : List Int) (x8_2 : Int), v2 = .int .u64 x2_2 ∧ v8 = .int .i64 x8_2 ∧ Aside0 (keelsonref01_Put.l0 kq a1 x2_2 x7_2 x8_2 = some r) ∧ Aside0 (kq ≤ kj4) ∧ Aside0 (Kd.R (Kd.int .u8) 5 w' w.heap.size (fun _ => True) v7 x7_2) ∧ Aside0 (Below w.heap.size w w'))
          case atStart => exact ⟨(a2), (y124), (0), (by first | rfl | (simp; done) | (simp [*]; done)), (by first | rfl | (simp; done) | (simp [*]; done)), H', ⟨Nat.le_refl _⟩, ⟨by (with_reducible repeat (first | apply Kd.R_alloc | apply Kd.R_drewN | apply Kd.R_drew)); exact HO_7.out⟩, ⟨by repeat (first | (with_reducible first | exact HB.out | apply below_alloc | apply pw_below_drewN | apply below_drew1) | exact HB.out)⟩⟩
          case round =>
            clear H'
            try clear p2
            try clear c4
            try clear c5
            try clear c7
            try clear c7b0
            try clear c8
            try clear p2
            obtain ⟨x2_2, x7_2, x8_2, rfl, rfl, HA, HK2, HO_7, HB⟩ := hrel
            cases gk with
            | zero => exact absurd HA.out (by simp [keelsonref01_Put.l0])
            | succ k2 =>
              have H := HA.out
              clear HA
              simp only [keelsonref01_Put.l0] at H
              by_cases c9 : x8_2 < a1
              · rw [if_pos c9] at H
                have c9b0 : decide (x8_2 < a1) = true := decide_eq_true c9
                clear c9
                by_cases c10 : x7_2.length < 140737488355328
                · rw [if_pos c10] at H
                  have LMc10 := Aside0.mk c10
                  clear c10
                  obtain ⟨y127, hy127⟩ : ∃ y_ : List Int, y_ = (x7_2 ++ [(Int.tmod x2_2 256) % 256]) := ⟨_, rfl⟩
                  replace H : (keelsonref01_Put.l0 k2 a1 (IntKind.u64.wrap (Int.tdiv x2_2 256)) y127 (wrap64 (x8_2 + 1))) = some r := by first | (rw [hy127]; with_reducible exact H) | (have H2_ := (Option.bind_some _ _).symm.trans H; rw [hy127]; with_reducible exact H2_) | (have H2_ := (Option.bind_some _ _).symm.trans H; with_reducible exact H2_) | with_reducible exact H | (rw [hy127]; exact H) | exact H
                  have Ny127 := Aside0.mk hy127
                  clear hy127
                  have H' := Aside0.mk H
                  clear H
                  go_wp2_with (first | ((with_reducible refine gate_builtin (b := .append) (xs := #[.tmp 24, .tmp 28]) rfl ?_); at_builtin; refine Kd.R_append (Kd.int .u8) (w0 := w) w.heap.size rfl (.tmp 24) (.tmp 28) 22 5 (.int .u8 0) 1 rfl Try.underlying22 info5 rfl (by decide) (by omega) u7 x7_2 ((Int.tmod x2_2 256) % 256) [.int .u8 ((Int.tmod x2_2 256) % 256)] (fun _ => True) (fun _ => False) rfl rfl ?aP (fun _ hk => hk.elim) ?aF ?aO ?aB ?aS ?aL ?_; (case aP => exact rfl); (case aB => exact (by repeat (first | (with_reducible first | exact HB.out | apply below_alloc | apply pw_below_drewN | apply below_drew1) | exact HB.out))); (case aF => exact (fun _ _ => trivial)); (case aO => exact (by (with_reducible repeat (first | apply Kd.R_alloc | apply Kd.R_drewN | apply Kd.R_drew)); exact HO_7.out)); (case aS => exact (below_size (by repeat (first | (with_reducible first | exact HB.out | apply below_alloc | apply pw_below_drewN | apply below_drew1) | exact HB.out)))); (case aL => have := LMc10.out; omega); intro v128 w11 ho hb hg hat; rw [← Ny127.out] at ho; have n0_ := Aside0.mk (hb); have n1_ := Aside0.mk (ho); clear HB; clear HO_7; have HB := n0_; have HO129 := n1_; clear n0_ n1_; clear ho hb hg hat))
                  go_roundg k2
                  case measure => have := HJ4.out; have := HK2.out; omega
                  case rel => exact ⟨(IntKind.u64.wrap (Int.tdiv x2_2 256)), (y127), (wrap64 (x8_2 + 1)), (by first | rfl | (simp; done) | (simp [*]; done)), (by first | rfl | (simp; done) | (simp [*]; done)), H', ⟨by have := HJ4.out; have := HK2.out; omega⟩, ⟨by (with_reducible repeat (first | apply Kd.R_alloc | apply Kd.R_drewN | apply Kd.R_drew)); exact HO129.out⟩, ⟨by repeat (first | (with_reducible first | exact HB.out | apply below_alloc | apply pw_below_drewN | apply below_drew1) | exact HB.out)⟩⟩
                · rw [if_neg c10] at H
                  exact absurd H (by simp)
              · rw [if_neg c9] at H
                have c9b0 : decide (x8_2 < a1) = false := decide_eq_false c9
                clear c9
                obtain rfl := Option.some.inj H
                go_wp2
                go_ret
                exact ⟨_, by first | rfl | (simp [errW_none, errW_some] <;> rfl) | (simp [*, errW_none, errW_some] <;> rfl), by (with_reducible repeat (first | apply Kd.R_alloc | apply Kd.R_drewN | apply Kd.R_drew)); exact HO_7.out, by repeat (first | (with_reducible first | exact HB.out | apply below_alloc | apply pw_below_drewN | apply below_drew1) | exact HB.out)⟩
  · rw [if_neg c4] at H
    exact absurd H (by simp)

/-! ### keelsonref01_Text: function 15 -/
def keelsonref01_Text.f (k : Nat) (l0 : List Int) (a1 : ByteArray) : Option (List Int × Bool) := if (a1.size : Int) > 16384 then (some (([] : List Int), false)) else ((keelsonref01_Put.f k l0 2 (IntKind.u64.wrap ((a1.size : Int)))).bind fun t130 => (if t130.length + a1.size < 140737488355328 then (some ((t130 ++ bytesOf a1), true)) else (none)))
theorem keelsonref01_Text.mono : ∀ a0 a1 k, LeO (keelsonref01_Text.f k a0 a1) (keelsonref01_Text.f (k + 1) a0 a1) := by
  intro a0 a1 k
  unfold keelsonref01_Text.f
  repeat' first
      | (with_reducible exact keelsonref01_Put.mono _ _ _ _)
      | (with_reducible exact LeO.refl _)
      | (with_reducible exact LeO.none _)
      | (with_reducible refine LeO.ite ?_ ?_)
      | (with_reducible refine LeO.bind ?_ (fun _ => ?_))
      | exact keelsonref01_Put.mono _ _ _ _
      | exact LeO.none _
      | refine LeO.ite ?_ ?_
      | refine LeO.bind ?_ (fun _ => ?_)
set_option maxHeartbeats 8000000 in
set_option maxRecDepth 100000 in
theorem keelsonref01_Text.calls (k : Nat) (A0 : Option Addr) (c0 : Nat) (l0 : List Int) (a1 : ByteArray) (r1 : List Int) (r2 : Bool) (w : World) (hr0 : Kd.C (Kd.int .u8) w A0 l0.length l0) (hc0 : l0.length ≤ c0) (h : keelsonref01_Text.f k l0 a1 = some (r1, r2)) :
    Calls Try.prog 15 #[.slice A0 l0.length c0, .string a1] w fun e w' => ∃ v0_ : Value, e = .returned (.tuple #[v0_, .bool r2]) ∧ Kd.R (Kd.int .u8) 5 w' w.heap.size (fun _ => True) v0_ r1 ∧ Below w.heap.size w w' := by
  have HR0 := Aside0.mk hr0
  have HC0 := Aside0.mk hc0
  clear hr0 hc0
  have HB := Aside0.mk (Below.refl w.heap.size w)
  have H : (if (a1.size : Int) > 16384 then (some (([] : List Int), false)) else ((keelsonref01_Put.f k l0 2 (IntKind.u64.wrap ((a1.size : Int)))).bind fun t130 => (if t130.length + a1.size < 140737488355328 then (some ((t130 ++ bytesOf a1), true)) else (none)))) = some (r1, r2) := h
  clear h
  by_cases c3 : (a1.size : Int) > 16384
  · rw [if_pos c3] at H
    have c3b0 : decide (16384 < (a1.size : Int)) = true := decide_eq_true c3
    have c3b1 : decide (16384 < a1.size) = true := decide_eq_true (by omega)
    clear c3
    simp only [Option.some.injEq, Prod.mk.injEq] at H
    obtain ⟨rfl, rfl⟩ := H
    go_enter Try.func15, Try.ntmps15
    go_wp2
    go_ret2
    exact ⟨_, by first | rfl | (simp [errW_none, errW_some] <;> rfl) | (simp [*, errW_none, errW_some] <;> rfl), by first | exact Kd.R_nil _ _ _ _ _ | exact Kd.N_nil _ _ _ _ _ | exact Kd.V_nil _ _ _ _ _ | exact Kd.Q_nil _ _ _ _ _ | exact Kd.S_nil _ _ _ _ _, by repeat (first | (with_reducible first | exact HB.out | apply below_alloc | apply pw_below_drewN | apply below_drew1) | exact HB.out)⟩
  · rw [if_neg c3] at H
    have c3b0 : decide (16384 < (a1.size : Int)) = false := decide_eq_false c3
    have c3b1 : decide (16384 < a1.size) = false := decide_eq_false (by omega)
    clear c3
    replace H := Option.bind_eq_some_iff.mp H
    obtain ⟨t130, A40, H⟩ := H
    replace H : (if t130.length + a1.size < 140737488355328 then (some ((t130 ++ bytesOf a1), true)) else (none)) = some (r1, r2) := H
    have A4 := Aside0.mk A40
    clear A40
    by_cases c5 : t130.length + a1.size < 140737488355328
    · rw [if_pos c5] at H
      have LMc5 := Aside0.mk c5
      clear c5
      obtain ⟨y133, hy133⟩ : ∃ y_ : List Int, y_ = (t130 ++ bytesOf a1) := ⟨_, rfl⟩
      replace H : (some (y133, true)) = some (r1, r2) := by first | (rw [hy133]; with_reducible exact H) | (have H2_ := (Option.bind_some _ _).symm.trans H; rw [hy133]; with_reducible exact H2_) | (have H2_ := (Option.bind_some _ _).symm.trans H; with_reducible exact H2_) | with_reducible exact H | (rw [hy133]; exact H) | exact H
      have Ny133 := Aside0.mk hy133
      clear hy133
      simp only [Option.some.injEq, Prod.mk.injEq] at H
      obtain ⟨rfl, rfl⟩ := H
      go_enter Try.func15, Try.ntmps15
      go_wp2_with (first | ((with_reducible refine gate_callee (f := 55) rfl ?_); refine goesL_ (some 13) rfl rfl Try.func55 (by kernel_rfl) rfl #[.slice A0 l0.length c0, .int .i64 2, .int .u64 (IntKind.u64.wrap ((a1.size : Int)))] rfl (by (try simp only [List.map_toArray, List.map_cons, List.map_nil]); first | done | rfl | (simp only [List.length_drop, List.length_take]; rfl)) ?_; (with_reducible refine (keelsonref01_Put.calls k _ _ l0 2 (IntKind.u64.wrap ((a1.size : Int))) t130 _ ?side1 ?side2 A4.out).mono ?_); (case side1 => repeat (first | exact HR0.out | (with_reducible refine Kd.C_alloc ?_ _) | (with_reducible refine Kd.C_drewN ?_ _) | (with_reducible refine Kd.C_drew ?_))); (case side2 => exact HC0.out); rintro e w6 ⟨v131, rfl, ho0, hb⟩; refine ⟨_, rfl, ?_⟩; have n0_ := Aside0.mk (Kd.R_lower ho0 (below_size (by repeat (first | (with_reducible first | exact HB.out | apply below_alloc | apply pw_below_drewN | apply below_drew1) | exact HB.out)))); have n1_ := Aside0.mk (below_step (by repeat (first | (with_reducible first | exact HB.out | apply below_alloc | apply pw_below_drewN | apply below_drew1) | exact HB.out)) hb); clear HB; have HO132 := n0_; have HB := n1_; clear n0_ n1_; (try clear hb); (try clear hb2); (try clear hk); (try clear hi); (try clear ho0)) | (at_builtin; refine print_append_str (w0 := w) w.heap.size rfl (.tmp 13) _ 22 9 5 rfl Try.underlying22 Try.underlying9 info5 v131 t130 a1 rfl rfl ?aO ?aB ?aS ?aL ?_; (case aB => exact (by repeat (first | (with_reducible first | exact HB.out | apply below_alloc | apply pw_below_drewN | apply below_drew1) | exact HB.out))); (case aO => exact (Kd.own_of_R (by (with_reducible repeat (first | apply Kd.R_alloc | apply Kd.R_drewN | apply Kd.R_drew)); exact HO132.out))); (case aS => exact (below_size (by repeat (first | (with_reducible first | exact HB.out | apply below_alloc | apply pw_below_drewN | apply below_drew1) | exact HB.out)))); (case aL => have := LMc5.out; omega); intro v134 w7 ho0 hb hg; have ho := Kd.R_of_own (h1 := fun _ => rfl) (ok := fun _ => True) ho0 (fun _ _ => trivial); clear ho0; have hat := True.intro; rw [← Ny133.out] at ho; change Kd.R (Kd.int .u8) 5 w7 w.heap.size (fun _ => True) v134 y133 at ho; have n0_ := Aside0.mk (hb); have n1_ := Aside0.mk (ho); clear HB; clear HO132; have HB := n0_; have HO135 := n1_; clear n0_ n1_; clear ho hb hg hat))
      go_ret2
      exact ⟨_, by first | rfl | (simp [errW_none, errW_some] <;> rfl) | (simp [*, errW_none, errW_some] <;> rfl), by (with_reducible repeat (first | apply Kd.R_alloc | apply Kd.R_drewN | apply Kd.R_drew)); exact HO135.out, by repeat (first | (with_reducible first | exact HB.out | apply below_alloc | apply pw_below_drewN | apply below_drew1) | exact HB.out)⟩
    · rw [if_neg c5] at H
      exact absurd H (by simp)

/-! ### keelsonref01_All: function 17 -/
def keelsonref01_All.l0 : Nat → Int → List Int → List Int → Int → Option (List Int)
  | 0, _, _, _, _ => none
  | k + 1, x1, x2, x7, x8 => if x8 < (x2.length : Int) then (if 0 ≤ x8 then ((keelsonref01_Put.f k x7 x1 (rd x2 x8)).bind fun t140 => (keelsonref01_All.l0 k x1 x2 t140 (wrap64 (x8 + 1)))) else (none)) else (some x7)
def keelsonref01_All.f (k : Nat) (l0 : List Int) (a1 : Int) (l2 : List Int) : Option (List Int) := (keelsonref01_Put.f k l0 0 0).bind fun t136 => (keelsonref01_All.l0 k a1 l2 t136 0)
theorem keelsonref01_All.mono_l : ∀ k, (∀ y0 y1 y2 y3, LeO (keelsonref01_All.l0 k y0 y1 y2 y3) (keelsonref01_All.l0 (k + 1) y0 y1 y2 y3))
  | 0 => fun _ _ _ _ r h => by simp [keelsonref01_All.l0] at h
  | k + 1 => by
    have ih0 := keelsonref01_All.mono_l k
    · intro y0 y1 y2 y3
      unfold keelsonref01_All.l0
      repeat' first
      | (with_reducible exact ih0 _ _ _ _)
      | (with_reducible exact keelsonref01_Put.mono _ _ _ _)
      | (with_reducible exact LeO.refl _)
      | (with_reducible exact LeO.none _)
      | (with_reducible refine LeO.ite ?_ ?_)
      | (with_reducible refine LeO.bind ?_ (fun _ => ?_))
      | exact ih0 _ _ _ _
      | exact keelsonref01_Put.mono _ _ _ _
      | exact LeO.none _
      | refine LeO.ite ?_ ?_
      | refine LeO.bind ?_ (fun _ => ?_)
theorem keelsonref01_All.mono : ∀ a0 a1 a2 k, LeO (keelsonref01_All.f k a0 a1 a2) (keelsonref01_All.f (k + 1) a0 a1 a2) := by
  intro a0 a1 a2 k
  have ih0 := keelsonref01_All.mono_l k
  unfold keelsonref01_All.f
  repeat' first
      | (with_reducible exact ih0 _ _ _ _)
      | (with_reducible exact keelsonref01_Put.mono _ _ _ _)
      | (with_reducible exact LeO.refl _)
      | (with_reducible exact LeO.none _)
      | (with_reducible refine LeO.ite ?_ ?_)
      | (with_reducible refine LeO.bind ?_ (fun _ => ?_))
      | exact ih0 _ _ _ _
      | exact keelsonref01_Put.mono _ _ _ _
      | exact LeO.none _
      | refine LeO.ite ?_ ?_
      | refine LeO.bind ?_ (fun _ => ?_)
set_option maxHeartbeats 8000000 in
set_option maxRecDepth 100000 in
theorem keelsonref01_All.calls (k : Nat) (A0 : Option Addr) (c0 : Nat) (l0 : List Int) (a1 : Int) (A2 : Option Addr) (c2 : Nat) (l2 : List Int) (r : List Int) (w : World) (hr0 : Kd.C (Kd.int .u8) w A0 l0.length l0) (hc0 : l0.length ≤ c0) (hr2 : Kd.C (Kd.int .u64) w A2 l2.length l2) (hc2 : l2.length ≤ c2) (h : keelsonref01_All.f k l0 a1 l2 = some r) :
    Calls Try.prog 17 #[.slice A0 l0.length c0, .int .i64 a1, .slice A2 l2.length c2] w fun e w' => ∃ v0_ : Value, e = .returned (v0_) ∧ Kd.R (Kd.int .u8) 5 w' w.heap.size (fun _ => True) v0_ r ∧ Below w.heap.size w w' := by
  have HR0 := Aside0.mk hr0
  have HC0 := Aside0.mk hc0
  clear hr0 hc0
  have HR2 := Aside0.mk hr2
  have HC2 := Aside0.mk hc2
  clear hr2 hc2
  have HB := Aside0.mk (Below.refl w.heap.size w)
  have H : ((keelsonref01_Put.f k l0 0 0).bind fun t136 => (keelsonref01_All.l0 k a1 l2 t136 0)) = some r := h
  clear h
  replace H := Option.bind_eq_some_iff.mp H
  obtain ⟨t136, A40, H⟩ := H
  replace H : (keelsonref01_All.l0 k a1 l2 t136 0) = some r := H
  have A4 := Aside0.mk A40
  clear A40
  have H' := Aside0.mk H
  clear H
  go_enter Try.func17, Try.ntmps17
  go_wp2_with (first | ((with_reducible refine gate_callee (f := 55) rfl ?_); refine goesL_ (some 10) rfl rfl Try.func55 (by kernel_rfl) rfl #[.slice A0 l0.length c0, .int .i64 0, .int .u64 0] rfl (by (try simp only [List.map_toArray, List.map_cons, List.map_nil]); first | done | rfl | (simp only [List.length_drop, List.length_take]; rfl)) ?_; (with_reducible refine (keelsonref01_Put.calls k _ _ l0 0 0 t136 _ ?side1 ?side2 A4.out).mono ?_); (case side1 => repeat (first | exact HR0.out | (with_reducible refine Kd.C_alloc ?_ _) | (with_reducible refine Kd.C_drewN ?_ _) | (with_reducible refine Kd.C_drew ?_))); (case side2 => exact HC0.out); rintro e w5 ⟨v137, rfl, ho0, hb⟩; refine ⟨_, rfl, ?_⟩; have n0_ := Aside0.mk (Kd.R_lower ho0 (below_size (by repeat (first | (with_reducible first | exact HB.out | apply below_alloc | apply pw_below_drewN | apply below_drew1) | exact HB.out)))); have n1_ := Aside0.mk (below_step (by repeat (first | (with_reducible first | exact HB.out | apply below_alloc | apply pw_below_drewN | apply below_drew1) | exact HB.out)) hb); clear HB; have HO138 := n0_; have HB := n1_; clear n0_ n1_; (try clear hb); (try clear hb2); (try clear hk); (try clear hi); (try clear ho0)))
  go_loopg [7, 8] k (fun kq v7 v8 w' => ∃ (x7_1 : List Int) (x8_1 : Int), v8 = .int .i64 x8_1 ∧ Aside0 (keelsonref01_All.l0 kq a1 l2 x7_1 x8_1 = some r) ∧ Aside0 (kq ≤ k) ∧ Aside0 (Kd.R (Kd.int .u8) 5 w' w.heap.size (fun _ => True) v7 x7_1) ∧ Aside0 (Below w.heap.size w w'))
  case atStart => exact ⟨(t136), (0), (by first | rfl | (simp; done) | (simp [*]; done)), H', ⟨Nat.le_refl _⟩, ⟨by (with_reducible repeat (first | apply Kd.R_alloc | apply Kd.R_drewN | apply Kd.R_drew)); exact HO138.out⟩, ⟨by repeat (first | (with_reducible first | exact HB.out | apply below_alloc | apply pw_below_drewN | apply below_drew1) | exact HB.out)⟩⟩
  case round =>
    clear H'
    try clear c1
    try clear c2
    try clear p2
    try clear c5
    obtain ⟨x7_1, x8_1, rfl, HA, HK1, HO_7, HB⟩ := hrel
    cases gk with
    | zero => exact absurd HA.out (by simp [keelsonref01_All.l0])
    | succ k1 =>
      have H := HA.out
      clear HA
      simp only [keelsonref01_All.l0] at H
      by_cases c6 : x8_1 < (l2.length : Int)
      · rw [if_pos c6] at H
        have c6b0 : decide (x8_1 < (l2.length : Int)) = true := decide_eq_true c6
        clear c6
        by_cases c7 : 0 ≤ x8_1
        · rw [if_pos c7] at H
          have c7b0 : decide (0 ≤ x8_1) = true := decide_eq_true c7
          clear c7
          replace H := Option.bind_eq_some_iff.mp H
          obtain ⟨t140, A80, H⟩ := H
          replace H : (keelsonref01_All.l0 k1 a1 l2 t140 (wrap64 (x8_1 + 1))) = some r := H
          have A8 := Aside0.mk A80
          clear A80
          have H' := Aside0.mk H
          clear H
          have p139 : 0 ≤ (x8_1 : Int) := of_decide_eq_true (by first | (with_reducible assumption) | assumption)
          have q139 : x8_1 < (l2.length : Int) := of_decide_eq_true (by first | (with_reducible assumption) | assumption)
          obtain ⟨ad139, e139, hx139_0⟩ := Kd.at_int HR2.out x8_1 p139 q139
          cases e139
          replace hx139_0 := (HB.out.cell (World.block_lt_of_cell? w _ hx139_0)).trans hx139_0
          replace p139 := eq_true p139
          replace q139 := eq_true q139
          obtain ⟨Ao9, co9, eo9⟩ := Kd.R_slice HO_7.out
          subst eo9
          go_wp2_with (first | ((with_reducible refine gate_callee (f := 55) rfl ?_); refine goesL_ (some 23) rfl rfl Try.func55 (by kernel_rfl) rfl #[.slice Ao9 x7_1.length co9, .int .i64 a1, .int .u64 (rd l2 x8_1)] rfl (by (try simp only [List.map_toArray, List.map_cons, List.map_nil]); first | done | rfl | (simp only [List.length_drop, List.length_take]; rfl)) ?_; (with_reducible refine (keelsonref01_Put.calls k1 _ _ x7_1 a1 (rd l2 x8_1) t140 _ ?side1 ?side2 A8.out).mono ?_); (case side1 => repeat (first | exact (Kd.R_reads' HO_7.out).2.2 | (with_reducible refine Kd.C_alloc ?_ _) | (with_reducible refine Kd.C_drewN ?_ _) | (with_reducible refine Kd.C_drew ?_))); (case side2 => exact (Kd.R_reads' HO_7.out).2.1); rintro e w10 ⟨v141, rfl, ho0, hb⟩; refine ⟨_, rfl, ?_⟩; have n0_ := Aside0.mk (Kd.R_elder' (by (with_reducible repeat (first | apply Kd.R_alloc | apply Kd.R_drewN | apply Kd.R_drew)); exact HO_7.out) (Kd.R_base ho0) hb); have n1_ := Aside0.mk (Kd.R_lower (Kd.R_new' ho0 (Kd.R_lt (by (with_reducible repeat (first | apply Kd.R_alloc | apply Kd.R_drewN | apply Kd.R_drew)); exact HO_7.out))) (below_size (by repeat (first | (with_reducible first | exact HB.out | apply below_alloc | apply pw_below_drewN | apply below_drew1) | exact HB.out)))); have n2_ := Aside0.mk (below_step (by repeat (first | (with_reducible first | exact HB.out | apply below_alloc | apply pw_below_drewN | apply below_drew1) | exact HB.out)) hb); clear HO_7; clear HB; have HO_7 := n0_; have HO142 := n1_; have HB := n2_; clear n0_ n1_ n2_; (try clear hb); (try clear hb2); (try clear hk); (try clear hi); (try clear ho0)))
          go_roundg k1
          case measure => have := HK1.out; omega
          case rel => exact ⟨(t140), (wrap64 (x8_1 + 1)), (by first | rfl | (simp; done) | (simp [*]; done)), H', ⟨by have := HK1.out; omega⟩, ⟨by (with_reducible repeat (first | apply Kd.R_alloc | apply Kd.R_drewN | apply Kd.R_drew)); exact Kd.R_mono HO142.out (fun _ hk => trivial)⟩, ⟨by repeat (first | (with_reducible first | exact HB.out | apply below_alloc | apply pw_below_drewN | apply below_drew1) | exact HB.out)⟩⟩
        · rw [if_neg c7] at H
          exact absurd H (by simp)
      · rw [if_neg c6] at H
        have c6b0 : decide (x8_1 < (l2.length : Int)) = false := decide_eq_false c6
        clear c6
        obtain rfl := Option.some.inj H
        go_wp2
        go_ret
        exact ⟨_, by first | rfl | (simp [errW_none, errW_some] <;> rfl) | (simp [*, errW_none, errW_some] <;> rfl), by (with_reducible repeat (first | apply Kd.R_alloc | apply Kd.R_drewN | apply Kd.R_drew)); exact HO_7.out, by repeat (first | (with_reducible first | exact HB.out | apply below_alloc | apply pw_below_drewN | apply below_drew1) | exact HB.out)⟩

/-! ### keelsonlaw01_OctetPuts: function 3 -/
section
open Go.Proofs.Ytejflbmpokdhgaa.K
def keelsonlaw01_OctetPuts.f (k : Nat) (l0 : List Int) (a1 : Int) (l2 : List Int) (a3 : ByteArray) : Option Bool :=
  if 1000 < l0.length ∨ 100 < l2.length ∨ 20000 < a3.size then some true else
  (octet_Text.f k l0 a3).bind fun te => (keelsonref01_Text.f k l0 a3).bind fun td => (octet_Put.f k l0 a1 l2).bind fun p => (keelsonref01_All.f k l0 a1 l2).bind fun q =>
    if p = q ∧ te.1 = td.1 ∧ (te.2 = 0 ∧ td.2 = true ∨ te.2 = 11 ∧ td.2 = false) then some true else none
theorem keelsonlaw01_OctetPuts.get {k : Nat} {l0 : List Int} {a1 : Int} {l2 : List Int} {a3 : ByteArray} {r : Bool} (h : keelsonlaw01_OctetPuts.f k l0 a1 l2 a3 = some r) : r = true ∧ ((1000 < l0.length ∨ 100 < l2.length ∨ 20000 < a3.size) ∨
    (¬ 1000 < l0.length ∧ ¬ 100 < l2.length ∧ ¬ 20000 < a3.size) ∧ ∃ c e ok p, octet_Text.f k l0 a3 = some (c, e) ∧ keelsonref01_Text.f k l0 a3 = some (c, ok) ∧ octet_Put.f k l0 a1 l2 = some p ∧ keelsonref01_All.f k l0 a1 l2 = some p ∧ (e = 0 ∧ ok = true ∨ e = 11 ∧ ok = false)) := by
  unfold keelsonlaw01_OctetPuts.f at h
  by_cases hc : 1000 < l0.length ∨ 100 < l2.length ∨ 20000 < a3.size
  · rw [if_pos hc] at h
    exact ⟨(Option.some.inj h).symm, .inl hc⟩
  · rw [if_neg hc] at h
    obtain ⟨⟨c, e⟩, h1, g1⟩ := Option.bind_eq_some_iff.mp h
    obtain ⟨⟨d, ok⟩, h2, g2⟩ := Option.bind_eq_some_iff.mp g1
    obtain ⟨p, h3, g3⟩ := Option.bind_eq_some_iff.mp g2
    obtain ⟨q, h4, g4⟩ := Option.bind_eq_some_iff.mp g3
    clear h g1 g2 g3
    by_cases hq : p = q ∧ c = d ∧ (e = 0 ∧ ok = true ∨ e = 11 ∧ ok = false)
    · rw [if_pos hq] at g4
      obtain ⟨rfl, rfl, h5⟩ := hq
      simp only [not_or] at hc
      exact ⟨(Option.some.inj g4).symm, .inr ⟨hc, c, e, ok, p, h1, h2, h3, h4, h5⟩⟩
    · rw [if_neg hq] at g4
      cases g4
set_option maxRecDepth 100000 in
set_option maxHeartbeats 4000000 in
theorem keelsonlaw01_OctetPuts.calls (k : Nat) (A0 : Option Addr) (c0 : Nat) (l0 : List Int) (a1 : Int) (A2 : Option Addr) (c2 : Nat) (l2 : List Int) (a3 : ByteArray) (r : Bool) (w : World) (hr0 : Kd.C (Kd.int .u8) w A0 l0.length l0) (hc0 : l0.length ≤ c0) (hr2 : Kd.C (Kd.int .u64) w A2 l2.length l2) (hc2 : l2.length ≤ c2) (h : keelsonlaw01_OctetPuts.f k l0 a1 l2 a3 = some r) :
    Calls Try.prog 3 #[.slice A0 l0.length c0, .int .i64 a1, .slice A2 l2.length c2, .string a3] w fun e w' => e = .returned (.bool r) ∧ Below w.heap.size w w' := by
  have HA := Hp.start w
  have HV0 := Lib.hid hc0
  have HV2 := Lib.hid hc2
  clear hc0 hc2
  obtain ⟨hr, hg⟩ := keelsonlaw01_OctetPuts.get h
  clear h
  subst hr
  rcases hg with h | ⟨⟨b0, b2, b3⟩, c, e, ok, p, h1, h2, h3, h4, h5⟩
  · have e0 : decide ((1000 : Int) < (l0.length : Int)) = true ∨ decide ((1000 : Int) < (l0.length : Int)) = false ∧ (decide ((100 : Int) < (l2.length : Int)) = true ∨ decide ((100 : Int) < (l2.length : Int)) = false ∧ decide ((20000 : Int) < (a3.size : Int)) = true) := by
      simp only [decide_eq_true_eq, decide_eq_false_iff_not]
      omega
    clear h
    rcases e0 with e0 | ⟨e0, e0' | ⟨e0', e0''⟩⟩
    all_goals
      go_enter Try.func3, Try.ntmps3
      go_wp2_with (first | ((with_reducible refine g_go ?_ ?_); exact rfl) | ((with_reducible refine is_load _ _ ?_); refine u_load HA (by exact rfl) (by (repeat (first | exact MemL.here | refine MemL.next ?_))) (by exact rfl) (by exact rfl) ?_) | ((with_reducible refine is_load _ _ ?_); refine u_seg HA (by exact rfl) (by (repeat (first | exact MemL.here | refine MemL.next ?_))) (by exact rfl) (by (repeat (first | exact SegL.done | apply SegL.take | apply SegL.skip))) ?_) | ((with_reducible refine is_store _ _ _ ?_); (first | (refine u_store1 HA (by exact rfl) (by exact rfl) (by exact rfl) (by (repeat (first | exact MemL.here | refine MemL.next ?_))) (by (repeat (first | exact SplL.done | (apply SplL.put; exact rfl) | apply SplL.skip))) (by (repeat (first | exact PickL.here | apply PickL.next))) (by exact rfl) ?_) | (refine u_storeS HA (by exact rfl) (by exact rfl) (by (repeat (first | exact MemL.here | refine MemL.next ?_))) (by (repeat (first | exact SplL.done | (apply SplL.put; exact rfl) | apply SplL.skip))) (by (repeat (first | exact PickL.here | apply PickL.next))) (by exact rfl) (by exact rfl) ?_)); clear HA; intro wn HA) | ((with_reducible refine u_new HA ?_); clear HA; intro gn wn hg HA; (try rw [← hg]); clear hg) | (go_at_call 13; refine (keelsonlaw01_lives.calls true _ rfl).mono ?_; rintro e wl ⟨rfl, hb⟩; have HA1 := HA.call hb; clear HA hb; have HA := HA1; clear HA1))
      go_ret
      exact ⟨rfl, HA.below⟩
  · have e0 : decide ((1000 : Int) < (l0.length : Int)) = false := decide_eq_false (by omega)
    have e2 : decide ((100 : Int) < (l2.length : Int)) = false := decide_eq_false (by omega)
    have e3 : decide ((20000 : Int) < (a3.size : Int)) = false := decide_eq_false (by omega)
    clear b0 b2 b3
    have H1 := Lib.hid h1
    have H2 := Lib.hid h2
    have H3 := Lib.hid h3
    have H4 := Lib.hid h4
    clear h1 h2 h3 h4
    rcases h5 with ⟨rfl, rfl⟩ | ⟨rfl, rfl⟩
    all_goals
      go_enter Try.func3, Try.ntmps3
      go_wp2_with (first | ((with_reducible refine g_go ?_ ?_); exact rfl) | ((with_reducible refine is_load _ _ ?_); refine u_load HA (by exact rfl) (by (repeat (first | exact MemL.here | refine MemL.next ?_))) (by exact rfl) (by exact rfl) ?_) | ((with_reducible refine is_load _ _ ?_); refine u_seg HA (by exact rfl) (by (repeat (first | exact MemL.here | refine MemL.next ?_))) (by exact rfl) (by (repeat (first | exact SegL.done | apply SegL.take | apply SegL.skip))) ?_) | ((with_reducible refine is_store _ _ _ ?_); (first | (refine u_store1 HA (by exact rfl) (by exact rfl) (by exact rfl) (by (repeat (first | exact MemL.here | refine MemL.next ?_))) (by (repeat (first | exact SplL.done | (apply SplL.put; exact rfl) | apply SplL.skip))) (by (repeat (first | exact PickL.here | apply PickL.next))) (by exact rfl) ?_) | (refine u_storeS HA (by exact rfl) (by exact rfl) (by (repeat (first | exact MemL.here | refine MemL.next ?_))) (by (repeat (first | exact SplL.done | (apply SplL.put; exact rfl) | apply SplL.skip))) (by (repeat (first | exact PickL.here | apply PickL.next))) (by exact rfl) (by exact rfl) ?_)); clear HA; intro wn HA) | ((with_reducible refine u_new HA ?_); clear HA; intro gn wn hg HA; (try rw [← hg]); clear hg) | ((with_reducible refine is_convert (t := 22) (s := 9) _ ?_); refine u_strof (by exact rfl) hr0 Try.underlying22 Try.underlying5 Try.underlying9 ?_))
      refine (octet_Text.calls k _ _ l0 a3 c _ _ hr0 HV0.out H1.out).mono ?_
      rintro e w1 ⟨v1, rfl, hR1, hb⟩
      obtain ⟨A1, n1, rfl⟩ := Kd.R_slice hR1
      have hC1 := (Kd.R_reads' hR1).2.2
      have HA1 := HA.call hb
      clear HA hb hR1
      have HA := HA1
      clear HA1
      go_wp2_with (first | ((with_reducible refine g_go ?_ ?_); exact rfl) | ((with_reducible refine is_load _ _ ?_); refine u_load HA (by exact rfl) (by (repeat (first | exact MemL.here | refine MemL.next ?_))) (by exact rfl) (by exact rfl) ?_) | ((with_reducible refine is_load _ _ ?_); refine u_seg HA (by exact rfl) (by (repeat (first | exact MemL.here | refine MemL.next ?_))) (by exact rfl) (by (repeat (first | exact SegL.done | apply SegL.take | apply SegL.skip))) ?_) | ((with_reducible refine is_store _ _ _ ?_); (first | (refine u_store1 HA (by exact rfl) (by exact rfl) (by exact rfl) (by (repeat (first | exact MemL.here | refine MemL.next ?_))) (by (repeat (first | exact SplL.done | (apply SplL.put; exact rfl) | apply SplL.skip))) (by (repeat (first | exact PickL.here | apply PickL.next))) (by exact rfl) ?_) | (refine u_storeS HA (by exact rfl) (by exact rfl) (by (repeat (first | exact MemL.here | refine MemL.next ?_))) (by (repeat (first | exact SplL.done | (apply SplL.put; exact rfl) | apply SplL.skip))) (by (repeat (first | exact PickL.here | apply PickL.next))) (by exact rfl) (by exact rfl) ?_)); clear HA; intro wn HA) | ((with_reducible refine u_new HA ?_); clear HA; intro gn wn hg HA; (try rw [← hg]); clear hg))
      refine (keelsonref01_Text.calls k _ _ l0 a3 c _ _ (Kd.C_below hr0 HA.below) HV0.out H2.out).mono ?_
      rintro e w2 ⟨v2, rfl, hR2, hb⟩
      obtain ⟨A2', n2, rfl⟩ := Kd.R_slice hR2
      have hC2 := (Kd.R_reads' hR2).2.2
      have hD1 := Kd.C_below hC1 hb
      have HA1 := HA.call hb
      clear HA hb hR2 hC1
      have HA := HA1
      have hC1 := hD1
      clear HA1 hD1
      go_wp2_with (first | ((with_reducible refine g_go ?_ ?_); exact rfl) | ((with_reducible refine is_load _ _ ?_); refine u_load HA (by exact rfl) (by (repeat (first | exact MemL.here | refine MemL.next ?_))) (by exact rfl) (by exact rfl) ?_) | ((with_reducible refine is_load _ _ ?_); refine u_seg HA (by exact rfl) (by (repeat (first | exact MemL.here | refine MemL.next ?_))) (by exact rfl) (by (repeat (first | exact SegL.done | apply SegL.take | apply SegL.skip))) ?_) | ((with_reducible refine is_store _ _ _ ?_); (first | (refine u_store1 HA (by exact rfl) (by exact rfl) (by exact rfl) (by (repeat (first | exact MemL.here | refine MemL.next ?_))) (by (repeat (first | exact SplL.done | (apply SplL.put; exact rfl) | apply SplL.skip))) (by (repeat (first | exact PickL.here | apply PickL.next))) (by exact rfl) ?_) | (refine u_storeS HA (by exact rfl) (by exact rfl) (by (repeat (first | exact MemL.here | refine MemL.next ?_))) (by (repeat (first | exact SplL.done | (apply SplL.put; exact rfl) | apply SplL.skip))) (by (repeat (first | exact PickL.here | apply PickL.next))) (by exact rfl) (by exact rfl) ?_)); clear HA; intro wn HA) | ((with_reducible refine u_new HA ?_); clear HA; intro gn wn hg HA; (try rw [← hg]); clear hg) | ((with_reducible refine is_reg ?_); refine wp_region_any mixed ?_))
      have HA1 := HA.drew
      have hD1 := Kd.C_drew hC1
      have hD2 := Kd.C_drew hC2
      clear HA hC1 hC2
      have HA := HA1
      have hC1 := hD1
      have hC2 := hD2
      clear HA1 hD1 hD2
      refine wpAny_take (i := 0) (v := ?_) rfl (by kernel_rfl) (by kernel_rfl) (by kernel_rfl) (fun _ _ _ h => h) (Or.inl ⟨by rfl, ?_⟩) ?_; rotate_left; (intro w'; go_simp; with_reducible rfl); (simp only [Act.put, List.setIfInBounds_toArray, List.set_cons_zero, List.set_cons_succ])
      refine wpAny_take (i := 1) (v := ?_) rfl (by kernel_rfl) (by kernel_rfl) (by kernel_rfl) (fun _ _ _ h => h) (Or.inl ⟨by rfl, ?_⟩) ?_; rotate_left; (intro w'; go_simp; with_reducible rfl); (simp only [Act.put, List.setIfInBounds_toArray, List.set_cons_zero, List.set_cons_succ])
      refine wpAny_take (i := 2) (v := ?_) rfl (by kernel_rfl) (by kernel_rfl) (by kernel_rfl) (fun _ _ _ h => h) (Or.inl ⟨by rfl, ?_⟩) ?_; rotate_left; (intro w'; go_simp; with_reducible rfl); (simp only [Act.put, List.setIfInBounds_toArray, List.set_cons_zero, List.set_cons_succ])
      refine wpAny_take (i := 5) (v := ?_) rfl (by kernel_rfl) (by kernel_rfl) (by kernel_rfl) (fun _ _ _ h => h) (Or.inl ⟨by rfl, ?_⟩) ?_; rotate_left; (intro w'; go_simp; with_reducible rfl); (simp only [Act.put, List.setIfInBounds_toArray, List.set_cons_zero, List.set_cons_succ])
      refine wpAny_take (i := 6) (v := ?_) rfl (by kernel_rfl) (by kernel_rfl) (by kernel_rfl) (fun _ _ _ h => h) (Or.inl ⟨by rfl, ?_⟩) ?_; rotate_left; (intro w'; go_simp; with_reducible rfl); (simp only [Act.put, List.setIfInBounds_toArray, List.set_cons_zero, List.set_cons_succ])
      refine wpAny_take (i := 7) (v := ?_) rfl (by kernel_rfl) (by kernel_rfl) (by kernel_rfl) (fun _ _ _ h => h) (Or.inl ⟨by rfl, ?_⟩) ?_; rotate_left; (intro w'; go_simp; with_reducible rfl); (simp only [Act.put, List.setIfInBounds_toArray, List.set_cons_zero, List.set_cons_succ])
      refine any_step (i := 3) (by kernel_rfl) rfl (fun K hK => ?_)
      go_wp2_with (first | ((with_reducible refine g_go ?_ ?_); exact rfl) | ((with_reducible refine is_load _ _ ?_); refine u_load HA (by exact rfl) (by (repeat (first | exact MemL.here | refine MemL.next ?_))) (by exact rfl) (by exact rfl) ?_) | ((with_reducible refine is_load _ _ ?_); refine u_seg HA (by exact rfl) (by (repeat (first | exact MemL.here | refine MemL.next ?_))) (by exact rfl) (by (repeat (first | exact SegL.done | apply SegL.take | apply SegL.skip))) ?_) | ((with_reducible refine is_store _ _ _ ?_); (first | (refine u_store1 HA (by exact rfl) (by exact rfl) (by exact rfl) (by (repeat (first | exact MemL.here | refine MemL.next ?_))) (by (repeat (first | exact SplL.done | (apply SplL.put; exact rfl) | apply SplL.skip))) (by (repeat (first | exact PickL.here | apply PickL.next))) (by exact rfl) ?_) | (refine u_storeS HA (by exact rfl) (by exact rfl) (by (repeat (first | exact MemL.here | refine MemL.next ?_))) (by (repeat (first | exact SplL.done | (apply SplL.put; exact rfl) | apply SplL.skip))) (by (repeat (first | exact PickL.here | apply PickL.next))) (by exact rfl) (by exact rfl) ?_)); clear HA; intro wn HA) | ((with_reducible refine u_new HA ?_); clear HA; intro gn wn hg HA; (try rw [← hg]); clear hg))
      refine (octet_Put.calls k _ _ l0 a1 _ _ l2 p _ (Kd.C_below hr0 HA.below) HV0.out (Kd.C_below hr2 HA.below) HV2.out H3.out).mono ?_
      rintro e w3 ⟨v3, rfl, hR3, hb⟩
      obtain ⟨A3, n3, rfl⟩ := Kd.R_slice hR3
      have hC3 := (Kd.R_reads' hR3).2.2
      have hD1 := Kd.C_below hC1 hb
      have hD2 := Kd.C_below hC2 hb
      have HA1 := HA.call hb
      clear HA hb hR3 hC1 hC2
      have HA := HA1
      have hC1 := hD1
      have hC2 := hD2
      clear HA1 hD1 hD2
      go_wp2_with (first | ((with_reducible refine g_go ?_ ?_); exact rfl) | ((with_reducible refine is_load _ _ ?_); refine u_load HA (by exact rfl) (by (repeat (first | exact MemL.here | refine MemL.next ?_))) (by exact rfl) (by exact rfl) ?_) | ((with_reducible refine is_load _ _ ?_); refine u_seg HA (by exact rfl) (by (repeat (first | exact MemL.here | refine MemL.next ?_))) (by exact rfl) (by (repeat (first | exact SegL.done | apply SegL.take | apply SegL.skip))) ?_) | ((with_reducible refine is_store _ _ _ ?_); (first | (refine u_store1 HA (by exact rfl) (by exact rfl) (by exact rfl) (by (repeat (first | exact MemL.here | refine MemL.next ?_))) (by (repeat (first | exact SplL.done | (apply SplL.put; exact rfl) | apply SplL.skip))) (by (repeat (first | exact PickL.here | apply PickL.next))) (by exact rfl) ?_) | (refine u_storeS HA (by exact rfl) (by exact rfl) (by (repeat (first | exact MemL.here | refine MemL.next ?_))) (by (repeat (first | exact SplL.done | (apply SplL.put; exact rfl) | apply SplL.skip))) (by (repeat (first | exact PickL.here | apply PickL.next))) (by exact rfl) (by exact rfl) ?_)); clear HA; intro wn HA) | ((with_reducible refine u_new HA ?_); clear HA; intro gn wn hg HA; (try rw [← hg]); clear hg))
      refine any_step2 (i := 4) (j := 8) (by kernel_rfl) rfl rfl (fun K hK => ?_) (fun K hK => ?_)
      · go_simp
        go_wp2_with (first | ((with_reducible refine g_go ?_ ?_); exact rfl) | ((with_reducible refine is_load _ _ ?_); refine u_load HA (by exact rfl) (by (repeat (first | exact MemL.here | refine MemL.next ?_))) (by exact rfl) (by exact rfl) ?_) | ((with_reducible refine is_load _ _ ?_); refine u_seg HA (by exact rfl) (by (repeat (first | exact MemL.here | refine MemL.next ?_))) (by exact rfl) (by (repeat (first | exact SegL.done | apply SegL.take | apply SegL.skip))) ?_) | ((with_reducible refine is_store _ _ _ ?_); (first | (refine u_store1 HA (by exact rfl) (by exact rfl) (by exact rfl) (by (repeat (first | exact MemL.here | refine MemL.next ?_))) (by (repeat (first | exact SplL.done | (apply SplL.put; exact rfl) | apply SplL.skip))) (by (repeat (first | exact PickL.here | apply PickL.next))) (by exact rfl) ?_) | (refine u_storeS HA (by exact rfl) (by exact rfl) (by (repeat (first | exact MemL.here | refine MemL.next ?_))) (by (repeat (first | exact SplL.done | (apply SplL.put; exact rfl) | apply SplL.skip))) (by (repeat (first | exact PickL.here | apply PickL.next))) (by exact rfl) (by exact rfl) ?_)); clear HA; intro wn HA) | ((with_reducible refine u_new HA ?_); clear HA; intro gn wn hg HA; (try rw [← hg]); clear hg) | ((with_reducible refine is_convert (t := 22) (s := 9) _ ?_); refine u_strof (by exact rfl) hC3 Try.underlying22 Try.underlying5 Try.underlying9 ?_))
        refine any_step (i := 8) (by kernel_rfl) rfl (fun K hK => ?_)
        go_wp2_with (first | ((with_reducible refine g_go ?_ ?_); exact rfl) | ((with_reducible refine is_load _ _ ?_); refine u_load HA (by exact rfl) (by (repeat (first | exact MemL.here | refine MemL.next ?_))) (by exact rfl) (by exact rfl) ?_) | ((with_reducible refine is_load _ _ ?_); refine u_seg HA (by exact rfl) (by (repeat (first | exact MemL.here | refine MemL.next ?_))) (by exact rfl) (by (repeat (first | exact SegL.done | apply SegL.take | apply SegL.skip))) ?_) | ((with_reducible refine is_store _ _ _ ?_); (first | (refine u_store1 HA (by exact rfl) (by exact rfl) (by exact rfl) (by (repeat (first | exact MemL.here | refine MemL.next ?_))) (by (repeat (first | exact SplL.done | (apply SplL.put; exact rfl) | apply SplL.skip))) (by (repeat (first | exact PickL.here | apply PickL.next))) (by exact rfl) ?_) | (refine u_storeS HA (by exact rfl) (by exact rfl) (by (repeat (first | exact MemL.here | refine MemL.next ?_))) (by (repeat (first | exact SplL.done | (apply SplL.put; exact rfl) | apply SplL.skip))) (by (repeat (first | exact PickL.here | apply PickL.next))) (by exact rfl) (by exact rfl) ?_)); clear HA; intro wn HA) | ((with_reducible refine u_new HA ?_); clear HA; intro gn wn hg HA; (try rw [← hg]); clear hg))
        refine (keelsonref01_All.calls k _ _ l0 a1 _ _ l2 p _ (Kd.C_below hr0 HA.below) HV0.out (Kd.C_below hr2 HA.below) HV2.out H4.out).mono ?_
        rintro e w4 ⟨v4, rfl, hR4, hb⟩
        obtain ⟨A4, n4, rfl⟩ := Kd.R_slice hR4
        have hC4 := (Kd.R_reads' hR4).2.2
        have hD1 := Kd.C_below hC1 hb
        have hD2 := Kd.C_below hC2 hb
        have hD3 := Kd.C_below hC3 hb
        have HA1 := HA.call hb
        clear HA hb hR4 hC1 hC2 hC3
        have HO := HA1.below
        have hC0 := Kd.C_below hr0 HA1.below
        have hC1 := hD1
        have hC2 := hD2
        have hC3 := hD3
        clear HA1 hD1 hD2 hD3
        go_wp2_with (first | ((with_reducible refine g_go ?_ ?_); exact rfl) | ((with_reducible refine is_load _ _ ?_); refine u_load HA (by exact rfl) (by (repeat (first | exact MemL.here | refine MemL.next ?_))) (by exact rfl) (by exact rfl) ?_) | ((with_reducible refine is_load _ _ ?_); refine u_seg HA (by exact rfl) (by (repeat (first | exact MemL.here | refine MemL.next ?_))) (by exact rfl) (by (repeat (first | exact SegL.done | apply SegL.take | apply SegL.skip))) ?_) | ((with_reducible refine is_store _ _ _ ?_); (first | (refine u_store1 HA (by exact rfl) (by exact rfl) (by exact rfl) (by (repeat (first | exact MemL.here | refine MemL.next ?_))) (by (repeat (first | exact SplL.done | (apply SplL.put; exact rfl) | apply SplL.skip))) (by (repeat (first | exact PickL.here | apply PickL.next))) (by exact rfl) ?_) | (refine u_storeS HA (by exact rfl) (by exact rfl) (by (repeat (first | exact MemL.here | refine MemL.next ?_))) (by (repeat (first | exact SplL.done | (apply SplL.put; exact rfl) | apply SplL.skip))) (by (repeat (first | exact PickL.here | apply PickL.next))) (by exact rfl) (by exact rfl) ?_)); clear HA; intro wn HA) | ((with_reducible refine u_new HA ?_); clear HA; intro gn wn hg HA; (try rw [← hg]); clear hg))
        have HA := Hp.start w4
        refine k_seqD [] [0, 1, 2, 3, 4, 5, 6, 7, 8] HA rfl (by kernel_rfl) (by kernel_rfl) (by kernel_rfl) (by kernel_rfl) (by kernel_rfl) (by kernel_rfl) (by kernel_rfl) (by kernel_rfl) (by kernel_rfl) ?_; clear HA; (try simp only [Act.put, List.setIfInBounds_toArray, List.set_cons_zero, List.set_cons_succ, Nat.zero_add, Nat.reduceAdd]); (repeat (first | (apply RSeq.skip; (· rfl); (try simp only [Act.put, List.setIfInBounds_toArray, List.set_cons_zero, List.set_cons_succ, Nat.zero_add, Nat.reduceAdd])) | (apply RSeq.pure; (· rfl); (· rfl); (· intro wq K hK; (try simp only [Act.put, List.setIfInBounds_toArray, List.set_cons_zero, List.set_cons_succ, Nat.zero_add, Nat.reduceAdd] at hK); go_wp2_with (first | ((with_reducible refine g_go ?_ ?_); exact rfl)); exact hK); (try simp only [Act.put, List.setIfInBounds_toArray, List.set_cons_zero, List.set_cons_succ, Nat.zero_add, Nat.reduceAdd])) | (apply RSeq.mem; (· rfl); (· rfl); (· rfl); (· intro wq HA K hK; (try simp only [Act.put, List.setIfInBounds_toArray, List.set_cons_zero, List.set_cons_succ, Nat.zero_add, Nat.reduceAdd] at hK); go_wp2_with (first | ((with_reducible refine g_go ?_ ?_); exact rfl) | ((with_reducible refine is_load _ _ ?_); refine u_load HA (by exact rfl) (by (repeat (first | exact MemL.here | refine MemL.next ?_))) (by exact rfl) (by exact rfl) ?_) | ((with_reducible refine is_load _ _ ?_); refine u_seg HA (by exact rfl) (by (repeat (first | exact MemL.here | refine MemL.next ?_))) (by exact rfl) (by (repeat (first | exact SegL.done | apply SegL.take | apply SegL.skip))) ?_) | ((with_reducible refine is_store _ _ _ ?_); (first | (refine u_store1 HA (by exact rfl) (by exact rfl) (by exact rfl) (by (repeat (first | exact MemL.here | refine MemL.next ?_))) (by (repeat (first | exact SplL.done | (apply SplL.put; exact rfl) | apply SplL.skip))) (by (repeat (first | exact PickL.here | apply PickL.next))) (by exact rfl) ?_) | (refine u_storeS HA (by exact rfl) (by exact rfl) (by (repeat (first | exact MemL.here | refine MemL.next ?_))) (by (repeat (first | exact SplL.done | (apply SplL.put; exact rfl) | apply SplL.skip))) (by (repeat (first | exact PickL.here | apply PickL.next))) (by exact rfl) (by exact rfl) ?_)); clear HA; intro wn HA) | ((with_reducible refine u_new HA ?_); clear HA; intro gn wn hg HA; (try rw [← hg]); clear hg) | ((with_reducible refine is_convert (t := 22) (s := 9) _ ?_); refine u_strof (by exact rfl) (Kd.C_below hC0 HA.below) Try.underlying22 Try.underlying5 Try.underlying9 ?_) | ((with_reducible refine is_convert (t := 22) (s := 9) _ ?_); refine u_strof (by exact rfl) (Kd.C_below hC1 HA.below) Try.underlying22 Try.underlying5 Try.underlying9 ?_) | ((with_reducible refine is_convert (t := 22) (s := 9) _ ?_); refine u_strof (by exact rfl) (Kd.C_below hC2 HA.below) Try.underlying22 Try.underlying5 Try.underlying9 ?_) | ((with_reducible refine is_convert (t := 22) (s := 9) _ ?_); refine u_strof (by exact rfl) (Kd.C_below hC3 HA.below) Try.underlying22 Try.underlying5 Try.underlying9 ?_) | ((with_reducible refine is_convert (t := 22) (s := 9) _ ?_); refine u_strof (by exact rfl) (Kd.C_below hC4 HA.below) Try.underlying22 Try.underlying5 Try.underlying9 ?_) | (go_at_call 13; refine (keelsonlaw01_lives.calls true _ rfl).mono ?_; rintro e wl ⟨rfl, hb⟩; have HA1 := HA.call hb; clear HA hb; have HA := HA1; clear HA1)); (first | exact HA | exact hK _ HA)); (try simp only [Act.put, List.setIfInBounds_toArray, List.set_cons_zero, List.set_cons_succ, Nat.zero_add, Nat.reduceAdd])) | (apply RSeq.turn; (· rfl); (· rfl); (· rfl); (· intro wq HA K hK; (try simp only [Act.put, List.setIfInBounds_toArray, List.set_cons_zero, List.set_cons_succ, Nat.zero_add, Nat.reduceAdd] at hK); go_wp2_with (first | ((with_reducible refine g_go ?_ ?_); exact rfl) | ((with_reducible refine is_load _ _ ?_); refine u_load HA (by exact rfl) (by (repeat (first | exact MemL.here | refine MemL.next ?_))) (by exact rfl) (by exact rfl) ?_) | ((with_reducible refine is_load _ _ ?_); refine u_seg HA (by exact rfl) (by (repeat (first | exact MemL.here | refine MemL.next ?_))) (by exact rfl) (by (repeat (first | exact SegL.done | apply SegL.take | apply SegL.skip))) ?_) | ((with_reducible refine is_store _ _ _ ?_); (first | (refine u_store1 HA (by exact rfl) (by exact rfl) (by exact rfl) (by (repeat (first | exact MemL.here | refine MemL.next ?_))) (by (repeat (first | exact SplL.done | (apply SplL.put; exact rfl) | apply SplL.skip))) (by (repeat (first | exact PickL.here | apply PickL.next))) (by exact rfl) ?_) | (refine u_storeS HA (by exact rfl) (by exact rfl) (by (repeat (first | exact MemL.here | refine MemL.next ?_))) (by (repeat (first | exact SplL.done | (apply SplL.put; exact rfl) | apply SplL.skip))) (by (repeat (first | exact PickL.here | apply PickL.next))) (by exact rfl) (by exact rfl) ?_)); clear HA; intro wn HA) | ((with_reducible refine u_new HA ?_); clear HA; intro gn wn hg HA; (try rw [← hg]); clear hg) | ((with_reducible refine is_convert (t := 22) (s := 9) _ ?_); refine u_strof (by exact rfl) (Kd.C_below hC0 HA.below) Try.underlying22 Try.underlying5 Try.underlying9 ?_) | ((with_reducible refine is_convert (t := 22) (s := 9) _ ?_); refine u_strof (by exact rfl) (Kd.C_below hC1 HA.below) Try.underlying22 Try.underlying5 Try.underlying9 ?_) | ((with_reducible refine is_convert (t := 22) (s := 9) _ ?_); refine u_strof (by exact rfl) (Kd.C_below hC2 HA.below) Try.underlying22 Try.underlying5 Try.underlying9 ?_) | ((with_reducible refine is_convert (t := 22) (s := 9) _ ?_); refine u_strof (by exact rfl) (Kd.C_below hC3 HA.below) Try.underlying22 Try.underlying5 Try.underlying9 ?_) | ((with_reducible refine is_convert (t := 22) (s := 9) _ ?_); refine u_strof (by exact rfl) (Kd.C_below hC4 HA.below) Try.underlying22 Try.underlying5 Try.underlying9 ?_) | (go_at_call 13; refine (keelsonlaw01_lives.calls true _ rfl).mono ?_; rintro e wl ⟨rfl, hb⟩; have HA1 := HA.call hb; clear HA hb; have HA := HA1; clear HA1)); (first | exact HA | exact hK _ HA)); (try simp only [Act.put, List.setIfInBounds_toArray, List.set_cons_zero, List.set_cons_succ, Nat.zero_add, Nat.reduceAdd])))); apply RSeq.done; intro wn HA
        go_wp2
        go_ret
        exact ⟨rfl, below_step HO HA.below⟩
      · go_wp2_with (first | ((with_reducible refine g_go ?_ ?_); exact rfl) | ((with_reducible refine is_load _ _ ?_); refine u_load HA (by exact rfl) (by (repeat (first | exact MemL.here | refine MemL.next ?_))) (by exact rfl) (by exact rfl) ?_) | ((with_reducible refine is_load _ _ ?_); refine u_seg HA (by exact rfl) (by (repeat (first | exact MemL.here | refine MemL.next ?_))) (by exact rfl) (by (repeat (first | exact SegL.done | apply SegL.take | apply SegL.skip))) ?_) | ((with_reducible refine is_store _ _ _ ?_); (first | (refine u_store1 HA (by exact rfl) (by exact rfl) (by exact rfl) (by (repeat (first | exact MemL.here | refine MemL.next ?_))) (by (repeat (first | exact SplL.done | (apply SplL.put; exact rfl) | apply SplL.skip))) (by (repeat (first | exact PickL.here | apply PickL.next))) (by exact rfl) ?_) | (refine u_storeS HA (by exact rfl) (by exact rfl) (by (repeat (first | exact MemL.here | refine MemL.next ?_))) (by (repeat (first | exact SplL.done | (apply SplL.put; exact rfl) | apply SplL.skip))) (by (repeat (first | exact PickL.here | apply PickL.next))) (by exact rfl) (by exact rfl) ?_)); clear HA; intro wn HA) | ((with_reducible refine u_new HA ?_); clear HA; intro gn wn hg HA; (try rw [← hg]); clear hg))
        refine (keelsonref01_All.calls k _ _ l0 a1 _ _ l2 p _ (Kd.C_below hr0 HA.below) HV0.out (Kd.C_below hr2 HA.below) HV2.out H4.out).mono ?_
        rintro e w4 ⟨v4, rfl, hR4, hb⟩
        obtain ⟨A4, n4, rfl⟩ := Kd.R_slice hR4
        have hC4 := (Kd.R_reads' hR4).2.2
        have hD1 := Kd.C_below hC1 hb
        have hD2 := Kd.C_below hC2 hb
        have hD3 := Kd.C_below hC3 hb
        have HA1 := HA.call hb
        clear HA hb hR4 hC1 hC2 hC3
        have HO := HA1.below
        have hC0 := Kd.C_below hr0 HA1.below
        have hC1 := hD1
        have hC2 := hD2
        have hC3 := hD3
        clear HA1 hD1 hD2 hD3
        go_wp2_with (first | ((with_reducible refine g_go ?_ ?_); exact rfl) | ((with_reducible refine is_load _ _ ?_); refine u_load HA (by exact rfl) (by (repeat (first | exact MemL.here | refine MemL.next ?_))) (by exact rfl) (by exact rfl) ?_) | ((with_reducible refine is_load _ _ ?_); refine u_seg HA (by exact rfl) (by (repeat (first | exact MemL.here | refine MemL.next ?_))) (by exact rfl) (by (repeat (first | exact SegL.done | apply SegL.take | apply SegL.skip))) ?_) | ((with_reducible refine is_store _ _ _ ?_); (first | (refine u_store1 HA (by exact rfl) (by exact rfl) (by exact rfl) (by (repeat (first | exact MemL.here | refine MemL.next ?_))) (by (repeat (first | exact SplL.done | (apply SplL.put; exact rfl) | apply SplL.skip))) (by (repeat (first | exact PickL.here | apply PickL.next))) (by exact rfl) ?_) | (refine u_storeS HA (by exact rfl) (by exact rfl) (by (repeat (first | exact MemL.here | refine MemL.next ?_))) (by (repeat (first | exact SplL.done | (apply SplL.put; exact rfl) | apply SplL.skip))) (by (repeat (first | exact PickL.here | apply PickL.next))) (by exact rfl) (by exact rfl) ?_)); clear HA; intro wn HA) | ((with_reducible refine u_new HA ?_); clear HA; intro gn wn hg HA; (try rw [← hg]); clear hg))
        have HA := Hp.start w4
        refine k_seqD [] [0, 1, 2, 3, 5, 6, 7, 8] HA rfl (by kernel_rfl) (by kernel_rfl) (by kernel_rfl) (by kernel_rfl) (by kernel_rfl) (by kernel_rfl) (by kernel_rfl) (by kernel_rfl) (by kernel_rfl) ?_; clear HA; (try simp only [Act.put, List.setIfInBounds_toArray, List.set_cons_zero, List.set_cons_succ, Nat.zero_add, Nat.reduceAdd]); (repeat (first | (apply RSeq.skip; (· rfl); (try simp only [Act.put, List.setIfInBounds_toArray, List.set_cons_zero, List.set_cons_succ, Nat.zero_add, Nat.reduceAdd])) | (apply RSeq.pure; (· rfl); (· rfl); (· intro wq K hK; (try simp only [Act.put, List.setIfInBounds_toArray, List.set_cons_zero, List.set_cons_succ, Nat.zero_add, Nat.reduceAdd] at hK); go_wp2_with (first | ((with_reducible refine g_go ?_ ?_); exact rfl)); exact hK); (try simp only [Act.put, List.setIfInBounds_toArray, List.set_cons_zero, List.set_cons_succ, Nat.zero_add, Nat.reduceAdd])) | (apply RSeq.mem; (· rfl); (· rfl); (· rfl); (· intro wq HA K hK; (try simp only [Act.put, List.setIfInBounds_toArray, List.set_cons_zero, List.set_cons_succ, Nat.zero_add, Nat.reduceAdd] at hK); go_wp2_with (first | ((with_reducible refine g_go ?_ ?_); exact rfl) | ((with_reducible refine is_load _ _ ?_); refine u_load HA (by exact rfl) (by (repeat (first | exact MemL.here | refine MemL.next ?_))) (by exact rfl) (by exact rfl) ?_) | ((with_reducible refine is_load _ _ ?_); refine u_seg HA (by exact rfl) (by (repeat (first | exact MemL.here | refine MemL.next ?_))) (by exact rfl) (by (repeat (first | exact SegL.done | apply SegL.take | apply SegL.skip))) ?_) | ((with_reducible refine is_store _ _ _ ?_); (first | (refine u_store1 HA (by exact rfl) (by exact rfl) (by exact rfl) (by (repeat (first | exact MemL.here | refine MemL.next ?_))) (by (repeat (first | exact SplL.done | (apply SplL.put; exact rfl) | apply SplL.skip))) (by (repeat (first | exact PickL.here | apply PickL.next))) (by exact rfl) ?_) | (refine u_storeS HA (by exact rfl) (by exact rfl) (by (repeat (first | exact MemL.here | refine MemL.next ?_))) (by (repeat (first | exact SplL.done | (apply SplL.put; exact rfl) | apply SplL.skip))) (by (repeat (first | exact PickL.here | apply PickL.next))) (by exact rfl) (by exact rfl) ?_)); clear HA; intro wn HA) | ((with_reducible refine u_new HA ?_); clear HA; intro gn wn hg HA; (try rw [← hg]); clear hg) | ((with_reducible refine is_convert (t := 22) (s := 9) _ ?_); refine u_strof (by exact rfl) (Kd.C_below hC0 HA.below) Try.underlying22 Try.underlying5 Try.underlying9 ?_) | ((with_reducible refine is_convert (t := 22) (s := 9) _ ?_); refine u_strof (by exact rfl) (Kd.C_below hC1 HA.below) Try.underlying22 Try.underlying5 Try.underlying9 ?_) | ((with_reducible refine is_convert (t := 22) (s := 9) _ ?_); refine u_strof (by exact rfl) (Kd.C_below hC2 HA.below) Try.underlying22 Try.underlying5 Try.underlying9 ?_) | ((with_reducible refine is_convert (t := 22) (s := 9) _ ?_); refine u_strof (by exact rfl) (Kd.C_below hC3 HA.below) Try.underlying22 Try.underlying5 Try.underlying9 ?_) | ((with_reducible refine is_convert (t := 22) (s := 9) _ ?_); refine u_strof (by exact rfl) (Kd.C_below hC4 HA.below) Try.underlying22 Try.underlying5 Try.underlying9 ?_) | (go_at_call 13; refine (keelsonlaw01_lives.calls true _ rfl).mono ?_; rintro e wl ⟨rfl, hb⟩; have HA1 := HA.call hb; clear HA hb; have HA := HA1; clear HA1)); (first | exact HA | exact hK _ HA)); (try simp only [Act.put, List.setIfInBounds_toArray, List.set_cons_zero, List.set_cons_succ, Nat.zero_add, Nat.reduceAdd])) | (apply RSeq.turn; (· rfl); (· rfl); (· rfl); (· intro wq HA K hK; (try simp only [Act.put, List.setIfInBounds_toArray, List.set_cons_zero, List.set_cons_succ, Nat.zero_add, Nat.reduceAdd] at hK); go_wp2_with (first | ((with_reducible refine g_go ?_ ?_); exact rfl) | ((with_reducible refine is_load _ _ ?_); refine u_load HA (by exact rfl) (by (repeat (first | exact MemL.here | refine MemL.next ?_))) (by exact rfl) (by exact rfl) ?_) | ((with_reducible refine is_load _ _ ?_); refine u_seg HA (by exact rfl) (by (repeat (first | exact MemL.here | refine MemL.next ?_))) (by exact rfl) (by (repeat (first | exact SegL.done | apply SegL.take | apply SegL.skip))) ?_) | ((with_reducible refine is_store _ _ _ ?_); (first | (refine u_store1 HA (by exact rfl) (by exact rfl) (by exact rfl) (by (repeat (first | exact MemL.here | refine MemL.next ?_))) (by (repeat (first | exact SplL.done | (apply SplL.put; exact rfl) | apply SplL.skip))) (by (repeat (first | exact PickL.here | apply PickL.next))) (by exact rfl) ?_) | (refine u_storeS HA (by exact rfl) (by exact rfl) (by (repeat (first | exact MemL.here | refine MemL.next ?_))) (by (repeat (first | exact SplL.done | (apply SplL.put; exact rfl) | apply SplL.skip))) (by (repeat (first | exact PickL.here | apply PickL.next))) (by exact rfl) (by exact rfl) ?_)); clear HA; intro wn HA) | ((with_reducible refine u_new HA ?_); clear HA; intro gn wn hg HA; (try rw [← hg]); clear hg) | ((with_reducible refine is_convert (t := 22) (s := 9) _ ?_); refine u_strof (by exact rfl) (Kd.C_below hC0 HA.below) Try.underlying22 Try.underlying5 Try.underlying9 ?_) | ((with_reducible refine is_convert (t := 22) (s := 9) _ ?_); refine u_strof (by exact rfl) (Kd.C_below hC1 HA.below) Try.underlying22 Try.underlying5 Try.underlying9 ?_) | ((with_reducible refine is_convert (t := 22) (s := 9) _ ?_); refine u_strof (by exact rfl) (Kd.C_below hC2 HA.below) Try.underlying22 Try.underlying5 Try.underlying9 ?_) | ((with_reducible refine is_convert (t := 22) (s := 9) _ ?_); refine u_strof (by exact rfl) (Kd.C_below hC3 HA.below) Try.underlying22 Try.underlying5 Try.underlying9 ?_) | ((with_reducible refine is_convert (t := 22) (s := 9) _ ?_); refine u_strof (by exact rfl) (Kd.C_below hC4 HA.below) Try.underlying22 Try.underlying5 Try.underlying9 ?_) | (go_at_call 13; refine (keelsonlaw01_lives.calls true _ rfl).mono ?_; rintro e wl ⟨rfl, hb⟩; have HA1 := HA.call hb; clear HA hb; have HA := HA1; clear HA1)); (first | exact HA | exact hK _ HA)); (try simp only [Act.put, List.setIfInBounds_toArray, List.set_cons_zero, List.set_cons_succ, Nat.zero_add, Nat.reduceAdd])))); apply RSeq.done; intro wn HA
        go_wp2
        go_ret
        exact ⟨rfl, below_step HO HA.below⟩
end

/-- THE ONE PURE STATEMENT of keelsonlaw01_OctetPuts: yours. -/
def keelsonlaw01_OctetPuts.Pure : Prop := ∀ (l0 : List Int) (a1 : Int) (l2 : List Int) (a3 : ByteArray), l0.length ≤ maxLen → l0.length * 1 ≤ 140737488351232 → (∀ x ∈ l0, (Lit.int .u8 x).wf = true) → (Lit.int .i64 a1).wf = true → l2.length ≤ maxLen → l2.length * 8 ≤ 140737488351232 → (∀ x ∈ l2, (Lit.int .u64 x).wf = true) → a3.size ≤ 140737488351232 → ∃ k, keelsonlaw01_OctetPuts.f k l0 a1 l2 a3 = some true
theorem keelsonlaw01_OctetPuts.walk (P : keelsonlaw01_OctetPuts.Pure) (a0 : Option Addr) (len0 cap0 : Nat) (z0 : List Int) (a1 : Int) (a2 : Option Addr) (len2 cap2 : Nat) (z2 : List Int) (a3 : ByteArray) (w : World) (w0 : (a0 = none ∧ len0 = 0 ∧ cap0 = 0 ∧ z0 = []) ∨ ∃ x, a0 = some x ∧ len0 ≤ cap0 ∧ cap0 ≤ maxLen ∧ z0.length = cap0 ∧ (∀ i, i < z0.length → w.cell? (x.add i) = some (.int .u8 (z0.getD i 0))) ∧ ∀ n ∈ z0, (Lit.int .u8 n).wf = true) (y0 : len0 * 1 ≤ 140737488351232) (w1 : (Lit.int .i64 a1).wf = true) (w2 : (a2 = none ∧ len2 = 0 ∧ cap2 = 0 ∧ z2 = []) ∨ ∃ x, a2 = some x ∧ len2 ≤ cap2 ∧ cap2 ≤ maxLen ∧ z2.length = cap2 ∧ (∀ i, i < z2.length → w.cell? (x.add i) = some (.int .u64 (z2.getD i 0))) ∧ ∀ n ∈ z2, (Lit.int .u64 n).wf = true) (y2 : len2 * 8 ≤ 140737488351232) (w3 : a3.size ≤ 140737488351232) :
    Calls Try.prog 3 #[.slice a0 len0 cap0, .int .i64 a1, .slice a2 len2 cap2, .string a3] w fun e w' => e = .returned (.bool true) ∧ Below w.heap.size w w' := by
  obtain ⟨l0, rfl, hr0, hm0, hw0, hc0⟩ := ReadsInt.ofRowC w0
  obtain ⟨l2, rfl, hr2, hm2, hw2, hc2⟩ := ReadsInt.ofRowC w2
  obtain ⟨k, h⟩ := P l0 a1 l2 a3 hm0 y0 hw0 w1 hm2 y2 hw2 w3
  refine (keelsonlaw01_OctetPuts.calls k _ _ l0 a1 _ _ l2 a3 true w (Kd.C_of_reads (d := (0 : Int)) (h1 := fun _ => rfl) hr0) hc0 (Kd.C_of_reads (d := (0 : Int)) (h1 := fun _ => rfl) hr2) hc2 h).mono ?_
  rintro e w' ⟨rfl, hd⟩
  exact ⟨rfl, hd⟩

end Go.Proofs.Ytejflbmpokdhgaa.PPuts
