/- For whatever entries, number and beginnings, OrderReplays returns true, and leaves its arguments as they were. The variable that the row lists starts as the text lays it. -/
import Derived.Test.YtlnafekmiidpkaaDoorRows
import Derived.Test.YtlnafekmiidpkaaDoorCards
import Derived.Test.YtlnafekmiidpkaaDoorTie
import Derived.LaidMore
import Derived.SevenTiedAt
import Derived.Test.YtlnafekmiidpkaaDoorOpRow
namespace Go.Proofs.YtlnafekmiidpkaaDoor.orderReplays
open Go.ChangeShapes Go.WideShapes Go.ChangeAt Go.RowKit S
set_option linter.all false
set_option linter.unusedVariables false
theorem own : ownKnob Tryd.prog.godebug = none := by kernel_rfl
theorem laidOut : laidOutB Tryd.prog = true := by kernel_rfl
theorem door_met (os : Os) (args : Array Value) : laidMetH Tryd.prog Rows.orderReplaysRow.laid ((World.doorLaid Tryd.prog 600 os).forCall (fun _ _ => 0) ⟨#[], args, []⟩).memory :=
  laidMetH_of_parts3 (fuel := 8) (laidMet_of_run' 8 (by kernel_rfl) (by kernel_rfl)) (by kernel_rfl) (by kernel_rfl)
set_option maxRecDepth 100000 in
theorem lifted (os : Os) (started : os.Started) (H : Type) (enc : TypeId × Value → H) :
    ReturnsInHanded {} Tryd.checked os 4 .any (fun w args => (Rows.orderReplaysSpec.pre enc Tryd.prog Tryd.f4 [] false w args ∧ laidMetH Tryd.prog Rows.orderReplaysRow.laid w) ∧ sizedMet enc Tryd.prog Tryd.f4 (OpenSpec.ofChange Rows.orderReplaysSpec) false w args) (Rows.orderReplaysSpec.post enc Tryd.prog Tryd.f4 false true false false) := by
  refine returnsInHanded_of_change_and (C := Tryd.checked) (X := fun w _ => laidMetH Tryd.prog Rows.orderReplaysRow.laid w) (fun _ _ _ hh h => h.of_heap hh) own started (by kernel_rfl) Tryd.func4
    (ChangeSpec.witness_shaped (enc := enc) (C := Tryd.checked) (os := os) (X := fun w _ => laidMetH Tryd.prog Rows.orderReplaysRow.laid w) false (World.doorLaid Tryd.prog 600 os) #[.slice none 0 0, .int .i64 0, .slice none 0 0, .slice none 0 0] 8 rfl (World.shaped_of_RefB (by kernel_rfl) (by kernel_rfl)) (by kernel_rfl) (by kernel_rfl) (by kernel_rfl) (door_met os _)) ?_
  intro W base args ds gs before hval0 hW hcnd hsz1 hL hsz0
  have hgl := glob_of hL
  clear hL hsz1
  have hval : ∀ (j : Nat) t v, Tryd.f4.params[j]? = some t → args[j]? = some v → Value.okWide Tryd.prog W .any base t v := hval0
  have hW' := hW
  obtain ⟨p, q, hA0, hV, rfl, hfz, hnd⟩ := hW
  have hA : DataW.TrodAll enc Tryd.prog W 0 (fun _ => true) true Tryd.f4.params.toList args.toList ds p := hA0
  rw [Tryd.params4] at hA hval
  obtain ⟨v0, vs0, d0, ds0, p0, q0, hargs, rfl, rfl, h0, r0⟩ := trodAll_cons hA
  obtain ⟨v1, vs1, d1, ds1, p1, q1, rfl, rfl, rfl, h1, r1⟩ := trodAll_cons r0
  obtain ⟨v2, vs2, d2, ds2, p2, q2, rfl, rfl, rfl, h2, r2⟩ := trodAll_cons r1
  obtain ⟨v3, vs3, d3, ds3, p3, q3, rfl, rfl, rfl, h3, r3⟩ := trodAll_cons r2
  obtain ⟨rfl, rfl, rfl⟩ := trodAll_nil r3
  obtain rfl : args = #[v0, v1, v2, v3] := by cases args; simp_all
  obtain ⟨rfl, rfl⟩ := trodVars_none hV
  obtain ⟨a0, len0, cap0, rfl⟩ := okWide_slice Tryd.underlying22 (hval 0 22 v0 rfl rfl)
  obtain ⟨n1, rfl⟩ := okWide_int Tryd.underlying3 (hval 1 3 v1 rfl rfl)
  obtain ⟨a2, len2, cap2, rfl⟩ := okWide_slice Tryd.underlying62 (hval 2 62 v2 rfl rfl)
  obtain ⟨a3, len3, cap3, rfl⟩ := okWide_slice Tryd.underlying62 (hval 3 62 v3 rfl rfl)
  have k0 := h0
  have lt0 : ∀ x ∈ p0, x.block < W.heap.size := by obtain ⟨m, hm⟩ := k0; exact DataW.trod_lt m _ _ _ hm
  obtain ⟨f0, hf0⟩ := h0
  have k1 := h1
  have lt1 : ∀ x ∈ p1, x.block < W.heap.size := by obtain ⟨m, hm⟩ := k1; exact DataW.trod_lt m _ _ _ hm
  obtain ⟨f1, hf1⟩ := h1
  have k2 := h2
  have lt2 : ∀ x ∈ p2, x.block < W.heap.size := by obtain ⟨m, hm⟩ := k2; exact DataW.trod_lt m _ _ _ hm
  obtain ⟨f2, hf2⟩ := h2
  have k3 := h3
  have lt3 : ∀ x ∈ p3, x.block < W.heap.size := by obtain ⟨m, hm⟩ := k3; exact DataW.trod_lt m _ _ _ hm
  obtain ⟨f3, hf3⟩ := h3
  obtain ⟨x0, l0, i0, _⟩ := (open_sh 8 22 [.sl enSh] _ _ _ (by kernel_rfl) hf0).2 0 _ _ rfl rfl
  obtain ⟨xs0, rfl, hs0, hr0⟩ := av_sl i0
  obtain ⟨l, rfl, hl⟩ := rows_of enR EnOK xs0 (fun row hrow => en_of row (hr0 row hrow).1 (hr0 row hrow).2)
  have hl0 : l.length ≤ 9223372036854775807 := by have := hs0; simp [maxLen] at this; omega
  obtain ⟨x1, l1, i1, _⟩ := (open_sh 8 3 [.int .i64] _ _ _ (by kernel_rfl) hf1).2 0 _ _ rfl rfl
  obtain ⟨n, rfl, hn⟩ := av_int i1
  obtain ⟨x2, l2, i2, _⟩ := (open_sh 8 62 [.sl [.bool]] _ _ _ (by kernel_rfl) hf2).2 0 _ _ rfl rfl
  obtain ⟨xs2, rfl, hs2, hr2⟩ := av_sl i2
  obtain ⟨fs, rfl, hfs⟩ := rows_of boR (fun _ => True) xs2 (fun row hrow => bo_of row (hr2 row hrow).1 (hr2 row hrow).2)
  have hl2 : fs.length ≤ 9223372036854775807 := by have := hs2; simp [maxLen] at this; omega
  obtain ⟨x3, l3, i3, _⟩ := (open_sh 8 62 [.sl [.bool]] _ _ _ (by kernel_rfl) hf3).2 0 _ _ rfl rfl
  obtain ⟨xs3, rfl, hs3, hr3⟩ := av_sl i3
  obtain ⟨ts, rfl, hts⟩ := rows_of boR (fun _ => True) xs3 (fun row hrow => bo_of row (hr3 row hrow).1 (hr3 row hrow).2)
  have hl3 : ts.length ≤ 9223372036854775807 := by have := hs3; simp [maxLen] at this; omega
  clear hA0 hval0 hsz0
  refine (law_calls (vs := #[.slice a0 len0 cap0, .int .i64 n1, .slice a2 len2 cap2, .slice a3 len3 cap3]) hgl (oreplays l n fs ts hl0 hl) rfl (fun j x v e1 e2 => ?_)).mono fun e W' ⟨he, bel⟩ => ?_
  · match j, e1, e2 with
    | 0, e1, e2 => simp at e1 e2; subst e1; subst e2; exact l0
    | 1, e1, e2 => simp at e1 e2; subst e1; subst e2; exact l1
    | 2, e1, e2 => simp at e1 e2; subst e1; subst e2; exact l2
    | 3, e1, e2 => simp at e1 e2; subst e1; subst e2; exact l3
  subst he
  exact ⟨_, rfl, _, _, _, [], _, [], hW', trodAll_mk1 (shut_bool Tryd.underlying4 _), (trodAll_cons_mk (Below.trod laidOut (by kernel_rfl) (of_decide_eq_true (by kernel_rfl)) k0 bel lt0) (trodAll_cons_mk (Below.trod laidOut (by kernel_rfl) (of_decide_eq_true (by kernel_rfl)) k1 bel lt1) (trodAll_cons_mk (Below.trod laidOut (by kernel_rfl) (of_decide_eq_true (by kernel_rfl)) k2 bel lt2) (trodAll_cons_mk (Below.trod laidOut (by kernel_rfl) (of_decide_eq_true (by kernel_rfl)) k3 bel lt3) trodAll_mk0)))), rfl, bel.frame _, fun h => by cases h⟩
theorem over : Rows.orderReplaysRow.holds Tryd.pinned (OpenSpec.ofChange Rows.orderReplaysSpec) :=
  OpenClaim.holds_of_wide 4 Tryd.f4 rfl rfl rfl rfl rfl rfl rfl ⟨rfl, rfl, rfl, rfl, rfl⟩ rfl rfl rfl rfl rfl (by kernel_rfl) Tryd.func4 (by kernel_rfl)
    (of_decide_eq_true (by kernel_rfl)) (by unfold Func.isWrapper; first | (rw [if_pos (by decide +kernel)]; kernel_rfl) | (rw [if_neg (by decide +kernel)]; exact ⟨rfl, rfl⟩))
    (fun os started H enc _ => lifted os started H enc)
theorem proved : Rows.OrderReplaysSaid := over
#print axioms proved
end Go.Proofs.YtlnafekmiidpkaaDoor.orderReplays
namespace Go.Proofs.YtlnafekmiidpkaaDoor
/-- The row, under a short name, for the claim. -/
theorem orderReplays_holds : Rows.OrderReplaysSaid := orderReplays.proved
end Go.Proofs.YtlnafekmiidpkaaDoor
namespace Go.Proofs.YtlnafekmiidpkaaDoor
open Go
theorem orderReplays_card : Rows.OrderReplaysCardSaid :=
  Claim7.holds_tied_plain_at .later [] [.data] true (true, "f026631d65bb03ae5a0df82067cca7ed35431af4ad69e273b773eb64b17faaa8") false
    orderReplays_holds (fun _ h => by cases h) (by kernel_rfl) (fun _ h => by cases h) orderReplays_row_tie rfl ⟨rfl, rfl⟩ (by kernel_rfl) rfl
    (fun f fn hf hfn => by
      obtain rfl : f = 4 := Option.some.inj ((show Tryd.prog.funcNamed "keelson/keelsonlaw22.OrderReplays" = some 4 by kernel_rfl).symm.trans hf) |>.symm
      obtain rfl : fn = Tryd.f4 := (Option.some.inj (Tryd.func4.symm.trans hfn)).symm
      exact ⟨by kernel_rfl, fun j t ht => by
        rw [Tryd.params4] at ht
        have hm : t ∈ [22, 3, 62, 62] := by simpa using Array.mem_of_getElem? ht
        have hall : ([22, 3, 62, 62].all fun u => !Tryd.prog.wantsStandIn u) = true := by kernel_rfl
        exact (show Tryd.prog.wantsStandIn t = false by simpa using List.all_eq_true.1 hall t hm)⟩)
    (by kernel_rfl)
#print axioms orderReplays_card
end Go.Proofs.YtlnafekmiidpkaaDoor
