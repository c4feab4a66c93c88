/- For whatever marks and number, MarksTells returns true, and leaves its arguments as they were. The variable that the row lists starts as the text lays it. -/
import Derived.Test.YtapfediapkklnaaDoorRows
import Derived.Test.YtapfediapkklnaaDoorCards
import Derived.Test.YtapfediapkklnaaDoorTie
import Derived.LaidMore
import Derived.SevenTiedAt
import Derived.Test.YtapfediapkklnaaDoorMk9
import Derived.Test.YtapfediapkklnaaDoorMkRow
namespace Go.Proofs.YtapfediapkklnaaDoor.marksTells
open Go.ChangeShapes Go.WideShapes Go.ChangeAt Go.RowKit S
set_option linter.all false
set_option linter.unusedVariables false
theorem own : ownKnob Tryd.prog.godebug = none := by kernel_rfl
theorem laidOut : laidOutB Tryd.prog = true := by kernel_rfl
theorem door_met (os : Os) (args : Array Value) : laidMetH Tryd.prog Rows.marksTellsRow.laid ((World.doorLaid Tryd.prog 600 os).forCall (fun _ _ => 0) ⟨#[], args, []⟩).memory :=
  laidMetH_of_parts3 (fuel := 8) (laidMet_of_run' 8 (by kernel_rfl) (by kernel_rfl)) (by kernel_rfl) (by kernel_rfl)
set_option maxRecDepth 100000 in
theorem lifted (os : Os) (started : os.Started) (H : Type) (enc : TypeId × Value → H) :
    ReturnsInHanded {} Tryd.checked os 6 .any (fun w args => (Rows.marksTellsSpec.pre enc Tryd.prog Tryd.f6 [] false w args ∧ laidMetH Tryd.prog Rows.marksTellsRow.laid w) ∧ sizedMet enc Tryd.prog Tryd.f6 (OpenSpec.ofChange Rows.marksTellsSpec) false w args) (Rows.marksTellsSpec.post enc Tryd.prog Tryd.f6 false true false false) := by
  refine returnsInHanded_of_change_and (C := Tryd.checked) (X := fun w _ => laidMetH Tryd.prog Rows.marksTellsRow.laid w) (fun _ _ _ hh h => h.of_heap hh) own started (by kernel_rfl) Tryd.func6
    (ChangeSpec.witness_shaped (enc := enc) (C := Tryd.checked) (os := os) (X := fun w _ => laidMetH Tryd.prog Rows.marksTellsRow.laid w) false (World.doorLaid Tryd.prog 600 os) #[.agg #[.int .u64 0, .int .u64 0], .int .u64 0] 8 rfl (World.shaped_of_RefB (by kernel_rfl) (by kernel_rfl)) (by kernel_rfl) (by kernel_rfl) (by kernel_rfl) (door_met os _)) ?_
  intro W base args ds gs before hval0 hW hcnd hsz1 hL hsz0
  have hgl := glob_of hL
  clear hL hsz1
  have hval : ∀ (j : Nat) t v, Tryd.f6.params[j]? = some t → args[j]? = some v → Value.okWide Tryd.prog W .any base t v := hval0
  have hW' := hW
  obtain ⟨p, q, hA0, hV, rfl, hfz, hnd⟩ := hW
  have hA : DataW.TrodAll enc Tryd.prog W 0 (fun _ => true) true Tryd.f6.params.toList args.toList ds p := hA0
  rw [Tryd.params6] at hA hval
  obtain ⟨v0, vs0, d0, ds0, p0, q0, hargs, rfl, rfl, h0, r0⟩ := trodAll_cons hA
  obtain ⟨v1, vs1, d1, ds1, p1, q1, rfl, rfl, rfl, h1, r1⟩ := trodAll_cons r0
  obtain ⟨rfl, rfl, rfl⟩ := trodAll_nil r1
  obtain rfl : args = #[v0, v1] := by cases args; simp_all
  obtain ⟨rfl, rfl⟩ := trodVars_none hV
  obtain ⟨n1, rfl⟩ := okWide_int Tryd.underlying22 (hval 1 22 v1 rfl rfl)
  have k0 := h0
  have lt0 : ∀ x ∈ p0, x.block < W.heap.size := by obtain ⟨m, hm⟩ := k0; exact DataW.trod_lt m _ _ _ hm
  obtain ⟨f0, hf0⟩ := h0
  have k1 := h1
  have lt1 : ∀ x ∈ p1, x.block < W.heap.size := by obtain ⟨m, hm⟩ := k1; exact DataW.trod_lt m _ _ _ hm
  obtain ⟨f1, hf1⟩ := h1
  obtain ⟨avs0, l0, hn0, hi0⟩ := open_agg Tryd.underlying24 rfl (hval 0 24 v0 rfl rfl) (n := 8) (sh := mkSh) (by kernel_rfl) hf0
  obtain ⟨m, rfl, hm⟩ := mk_of avs0 hn0 hi0
  obtain ⟨x1, l1, i1, _⟩ := (open_sh 8 22 [.int .u64] _ _ _ (by kernel_rfl) hf1).2 0 _ _ rfl rfl
  obtain ⟨i1n, rfl, w1⟩ := av_int i1
  obtain ⟨n, rfl, hn⟩ := nat_of w1
  clear hA0 hval0 hsz0
  refine (law_calls (vs := #[v0, .int .u64 n1]) hgl (mtells m n hm hn) rfl (fun j x v e1 e2 => ?_)).mono fun e W' ⟨he, bel⟩ => ?_
  · match j, e1, e2 with
    | 0, e1, e2 => simp at e1 e2; subst e1; subst e2; exact l0
    | 1, e1, e2 => simp at e1 e2; subst e1; subst e2; exact l1
  subst he
  exact ⟨_, rfl, _, _, _, [], _, [], hW', trodAll_mk1 (shut_bool Tryd.underlying4 _), (trodAll_cons_mk (Below.trod laidOut (by kernel_rfl) (of_decide_eq_true (by kernel_rfl)) k0 bel lt0) (trodAll_cons_mk (Below.trod laidOut (by kernel_rfl) (of_decide_eq_true (by kernel_rfl)) k1 bel lt1) trodAll_mk0)), rfl, bel.frame _, fun h => by cases h⟩
theorem over : Rows.marksTellsRow.holds Tryd.pinned (OpenSpec.ofChange Rows.marksTellsSpec) :=
  OpenClaim.holds_of_wide 6 Tryd.f6 rfl rfl rfl rfl rfl rfl rfl ⟨rfl, rfl, rfl, rfl, rfl⟩ rfl rfl rfl rfl rfl (by kernel_rfl) Tryd.func6 (by kernel_rfl)
    (of_decide_eq_true (by kernel_rfl)) (by unfold Func.isWrapper; first | (rw [if_pos (by decide +kernel)]; kernel_rfl) | (rw [if_neg (by decide +kernel)]; exact ⟨rfl, rfl⟩))
    (fun os started H enc _ => lifted os started H enc)
theorem proved : Rows.MarksTellsSaid := over
#print axioms proved
end Go.Proofs.YtapfediapkklnaaDoor.marksTells
namespace Go.Proofs.YtapfediapkklnaaDoor
/-- The row, under a short name, for the claim. -/
theorem marksTells_holds : Rows.MarksTellsSaid := marksTells.proved
end Go.Proofs.YtapfediapkklnaaDoor
namespace Go.Proofs.YtapfediapkklnaaDoor
open Go
theorem marksTells_card : Rows.MarksTellsCardSaid :=
  Claim7.holds_tied_plain_at .later [] [.data] true (true, "18d30e0360eda4c0155d2df232cbb8752b8c67cb5a3f12156a969777d8b0c93a") false
    marksTells_holds (fun _ h => by cases h) (by kernel_rfl) (fun _ h => by cases h) marksTells_row_tie rfl ⟨rfl, rfl⟩ (by kernel_rfl) rfl
    (fun f fn hf hfn => by
      obtain rfl : f = 6 := Option.some.inj ((show Tryd.prog.funcNamed "keelson/keelsonlaw04.MarksTells" = some 6 by kernel_rfl).symm.trans hf) |>.symm
      obtain rfl : fn = Tryd.f6 := (Option.some.inj (Tryd.func6.symm.trans hfn)).symm
      exact ⟨by kernel_rfl, fun j t ht => by
        rw [Tryd.params6] at ht
        have hm : t ∈ [24, 22] := by simpa using Array.mem_of_getElem? ht
        have hall : ([24, 22].all fun u => !Tryd.prog.wantsStandIn u) = true := by kernel_rfl
        exact (show Tryd.prog.wantsStandIn t = false by simpa using List.all_eq_true.1 hall t hm)⟩)
    (by kernel_rfl)
#print axioms marksTells_card
end Go.Proofs.YtapfediapkklnaaDoor
