/- For whatever number, calls and place, AllocPlays returns true, and leaves its arguments as they were. No condition. -/
import Derived.Test.YtikogdkjmnpfcaaDoorRows
import Derived.Test.YtikogdkjmnpfcaaDoorCards
import Derived.Test.YtikogdkjmnpfcaaDoorTie
import Derived.LaidMore
import Derived.SevenTiedAt
import Derived.Test.YtikogdkjmnpfcaaDoorApRow
namespace Go.Proofs.YtikogdkjmnpfcaaDoor.allocPlays
open Go.ChangeShapes Go.WideShapes Go.ChangeAt Go.RowKit S
set_option linter.all false
set_option linter.unusedVariables false
theorem own : ownKnob Tryd.prog.godebug = none := by kernel_rfl
theorem laidOut : laidOutB Tryd.prog = true := by kernel_rfl
theorem door_met (os : Os) (args : Array Value) : laidMetH Tryd.prog Rows.allocPlaysRow.laid ((World.doorLaid Tryd.prog 600 os).forCall (fun _ _ => 0) ⟨#[], args, []⟩).memory :=
  laidMetH_of_parts3 (fuel := 8) (laidMet_of_run' 8 (by kernel_rfl) (by kernel_rfl)) (by kernel_rfl) (by kernel_rfl)
set_option maxRecDepth 100000 in
theorem lifted (os : Os) (started : os.Started) (H : Type) (enc : TypeId × Value → H) :
    ReturnsInHanded {} Tryd.checked os 4 .any (fun w args => (Rows.allocPlaysSpec.pre enc Tryd.prog Tryd.f4 [] false w args ∧ laidMetH Tryd.prog Rows.allocPlaysRow.laid w) ∧ sizedMet enc Tryd.prog Tryd.f4 (OpenSpec.ofChange Rows.allocPlaysSpec) false w args) (Rows.allocPlaysSpec.post enc Tryd.prog Tryd.f4 false true false false) := by
  refine returnsInHanded_of_change_and (C := Tryd.checked) (X := fun w _ => laidMetH Tryd.prog Rows.allocPlaysRow.laid w) (fun _ _ _ hh h => h.of_heap hh) own started (by kernel_rfl) Tryd.func4
    (ChangeSpec.witness_shaped (enc := enc) (C := Tryd.checked) (os := os) (X := fun w _ => laidMetH Tryd.prog Rows.allocPlaysRow.laid w) false (World.doorLaid Tryd.prog 600 os) #[.int .i64 0, .slice none 0 0, .int .i64 0] 8 rfl (World.shaped_of_RefB (by kernel_rfl) (by kernel_rfl)) (by kernel_rfl) (by kernel_rfl) (by kernel_rfl) (door_met os _)) ?_
  intro W base args ds gs before hval0 hW hcnd hsz1 hL hsz0
  have hgl := glob_of hL
  clear hL hsz1
  have hval : ∀ (j : Nat) t v, Tryd.f4.params[j]? = some t → args[j]? = some v → Value.okWide Tryd.prog W .any base t v := hval0
  have hW' := hW
  obtain ⟨p, q, hA0, hV, rfl, hfz, hnd⟩ := hW
  have hA : DataW.TrodAll enc Tryd.prog W 0 (fun _ => true) true Tryd.f4.params.toList args.toList ds p := hA0
  rw [Tryd.params4] at hA hval
  obtain ⟨v0, vs0, d0, ds0, p0, q0, hargs, rfl, rfl, h0, r0⟩ := trodAll_cons hA
  obtain ⟨v1, vs1, d1, ds1, p1, q1, rfl, rfl, rfl, h1, r1⟩ := trodAll_cons r0
  obtain ⟨v2, vs2, d2, ds2, p2, q2, rfl, rfl, rfl, h2, r2⟩ := trodAll_cons r1
  obtain ⟨rfl, rfl, rfl⟩ := trodAll_nil r2
  obtain rfl : args = #[v0, v1, v2] := by cases args; simp_all
  obtain ⟨rfl, rfl⟩ := trodVars_none hV
  obtain ⟨n0, rfl⟩ := okWide_int Tryd.underlying3 (hval 0 3 v0 rfl rfl)
  obtain ⟨a1, len1, cap1, rfl⟩ := okWide_slice Tryd.underlying22 (hval 1 22 v1 rfl rfl)
  obtain ⟨n2, rfl⟩ := okWide_int Tryd.underlying3 (hval 2 3 v2 rfl rfl)
  have k0 := h0
  have lt0 : ∀ x ∈ p0, x.block < W.heap.size := by obtain ⟨m, hm⟩ := k0; exact DataW.trod_lt m _ _ _ hm
  obtain ⟨f0, hf0⟩ := h0
  have k1 := h1
  have lt1 : ∀ x ∈ p1, x.block < W.heap.size := by obtain ⟨m, hm⟩ := k1; exact DataW.trod_lt m _ _ _ hm
  obtain ⟨f1, hf1⟩ := h1
  have k2 := h2
  have lt2 : ∀ x ∈ p2, x.block < W.heap.size := by obtain ⟨m, hm⟩ := k2; exact DataW.trod_lt m _ _ _ hm
  obtain ⟨f2, hf2⟩ := h2
  obtain ⟨x0, l0, i0, _⟩ := (open_sh 8 3 [.int .i64] _ _ _ (by kernel_rfl) hf0).2 0 _ _ rfl rfl
  obtain ⟨n, rfl, hn⟩ := av_int i0
  obtain ⟨x1, l1, i1, _⟩ := (open_sh 8 22 [.sl op13Sh] _ _ _ (by kernel_rfl) hf1).2 0 _ _ rfl rfl
  obtain ⟨xs1, rfl, hs1, hr1⟩ := av_sl i1
  obtain ⟨l, rfl, hl⟩ := rows_of op13 (fun _ => True) xs1 (fun row hrow => op13_of row (hr1 row hrow).1 (hr1 row hrow).2)
  have hl1 : l.length ≤ 9223372036854775807 := by have := hs1; simp [maxLen] at this; omega
  obtain ⟨x2, l2, i2, _⟩ := (open_sh 8 3 [.int .i64] _ _ _ (by kernel_rfl) hf2).2 0 _ _ rfl rfl
  obtain ⟨p, rfl, hp⟩ := av_int i2
  clear hA0 hval0 hsz0
  refine (law_calls (vs := #[.int .i64 n0, .slice a1 len1 cap1, .int .i64 n2]) hgl (plays_ n l hl1 p) rfl (fun j x v e1 e2 => ?_)).mono fun e W' ⟨he, bel⟩ => ?_
  · match j, e1, e2 with
    | 0, e1, e2 => simp at e1 e2; subst e1; subst e2; exact l0
    | 1, e1, e2 => simp at e1 e2; subst e1; subst e2; exact l1
    | 2, e1, e2 => simp at e1 e2; subst e1; subst e2; exact l2
  subst he
  exact ⟨_, rfl, _, _, _, [], _, [], hW', trodAll_mk1 (shut_bool Tryd.underlying4 _), (trodAll_cons_mk (Below.trod laidOut (by kernel_rfl) (of_decide_eq_true (by kernel_rfl)) k0 bel lt0) (trodAll_cons_mk (Below.trod laidOut (by kernel_rfl) (of_decide_eq_true (by kernel_rfl)) k1 bel lt1) (trodAll_cons_mk (Below.trod laidOut (by kernel_rfl) (of_decide_eq_true (by kernel_rfl)) k2 bel lt2) trodAll_mk0))), rfl, bel.frame _, fun h => by cases h⟩
theorem over : Rows.allocPlaysRow.holds Tryd.pinned (OpenSpec.ofChange Rows.allocPlaysSpec) :=
  OpenClaim.holds_of_wide 4 Tryd.f4 rfl rfl rfl rfl rfl rfl rfl ⟨rfl, rfl, rfl, rfl, rfl⟩ rfl rfl rfl rfl rfl (by kernel_rfl) Tryd.func4 (by kernel_rfl)
    (of_decide_eq_true (by kernel_rfl)) (by unfold Func.isWrapper; first | (rw [if_pos (by decide +kernel)]; kernel_rfl) | (rw [if_neg (by decide +kernel)]; exact ⟨rfl, rfl⟩))
    (fun os started H enc _ => lifted os started H enc)
theorem proved : Rows.AllocPlaysSaid := over
#print axioms proved
end Go.Proofs.YtikogdkjmnpfcaaDoor.allocPlays
namespace Go.Proofs.YtikogdkjmnpfcaaDoor
/-- The row, under a short name, for the claim. -/
theorem allocPlays_holds : Rows.AllocPlaysSaid := allocPlays.proved
end Go.Proofs.YtikogdkjmnpfcaaDoor
namespace Go.Proofs.YtikogdkjmnpfcaaDoor
open Go
theorem allocPlays_card : Rows.AllocPlaysCardSaid :=
  Claim7.holds_tied_plain_at .later [] [.data] true (true, "90f7eeb9b8efa1114cceb2c9c046c93c0568f57a8aa0c80293cc38fc96e112cc") false
    allocPlays_holds (fun _ h => by cases h) (by kernel_rfl) (fun _ h => by cases h) allocPlays_row_tie rfl ⟨rfl, rfl⟩ (by kernel_rfl) rfl
    (fun f fn hf hfn => by
      obtain rfl : f = 4 := Option.some.inj ((show Tryd.prog.funcNamed "keelson/keelsonlaw13.AllocPlays" = some 4 by kernel_rfl).symm.trans hf) |>.symm
      obtain rfl : fn = Tryd.f4 := (Option.some.inj (Tryd.func4.symm.trans hfn)).symm
      exact ⟨by kernel_rfl, fun j t ht => by
        rw [Tryd.params4] at ht
        have hm : t ∈ [3, 22, 3] := by simpa using Array.mem_of_getElem? ht
        have hall : ([3, 22, 3].all fun u => !Tryd.prog.wantsStandIn u) = true := by kernel_rfl
        exact (show Tryd.prog.wantsStandIn t = false by simpa using List.all_eq_true.1 hall t hm)⟩)
    (by kernel_rfl)
#print axioms allocPlays_card
end Go.Proofs.YtikogdkjmnpfcaaDoor
