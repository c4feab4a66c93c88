/- For whatever call, OctetNobody returns true, and leaves its argument as it was. No condition. -/
import Derived.Test.YtejflbmpokdhgaaRows
import Derived.Test.YtejflbmpokdhgaaOct6
import Derived.Test.YtejflbmpokdhgaaRowB
namespace Go.Proofs.Ytejflbmpokdhgaa.octetNobody
open Go.ChangeShapes Go.WideShapes Go.ChangeAt Go.RowKit S
set_option linter.all false
set_option linter.unusedVariables false
theorem own : ownKnob Try.prog.godebug = none := by kernel_rfl
theorem laidOut : laidOutB Try.prog = true := by kernel_rfl
set_option maxRecDepth 100000 in
theorem lifted (os : Os) (started : os.Started) (H : Type) (enc : TypeId × Value → H) :
    ReturnsInHanded {} Try.checked os 5 .any (Rows.octetNobodySpec.pre6 enc Try.prog Try.f5 Rows.octetNobodyRow.domain false) (Rows.octetNobodySpec.post enc Try.prog Try.f5 false true false false) := by
  refine returnsInHanded_of_change_sized (C := Try.checked) own started (by kernel_rfl) Try.func5
    (ChangeSpec.witness6 (enc := enc) (C := Try.checked) false ⟨#[], #[.agg #[.int .i64 0, .int .i64 0]], []⟩ 8 (by kernel_rfl) (by kernel_rfl) (by kernel_rfl) (by kernel_rfl)) ?_
  intro W base args ds gs before hval0 hW hcnd hsz0 _
  have hval : ∀ (j : Nat) t v, Try.f5.params[j]? = some t → args[j]? = some v → Value.okWide Try.prog W .any base t v := hval0
  have hW' := hW
  obtain ⟨p, q, hA0, hV, rfl, hfz, hnd⟩ := hW
  have hA : DataW.TrodAll enc Try.prog W 0 (fun _ => true) true Try.f5.params.toList args.toList ds p := hA0
  rw [Try.params5] at hA hval
  obtain ⟨v0, vs0, d0, ds0, p0, q0, hargs, rfl, rfl, h0, r0⟩ := trodAll_cons hA
  obtain ⟨rfl, rfl, rfl⟩ := trodAll_nil r0
  obtain rfl : args = #[v0] := by cases args; simp_all
  obtain ⟨rfl, rfl⟩ := trodVars_none hV
  have k0 := h0
  have lt0 : ∀ x ∈ p0, x.block < W.heap.size := by obtain ⟨m, hm⟩ := k0; exact DataW.trod_lt m _ _ _ hm
  obtain ⟨f0, hf0⟩ := h0
  obtain ⟨avs, l0, hn, hi⟩ := open_agg Try.underlying40 rfl (hval 0 40 v0 rfl rfl) (n := 8) (sh := [.int .i64, .int .i64]) (by kernel_rfl) hf0
  match avs, hn with
  | [x, y], _ =>
  obtain ⟨kd, rfl, _⟩ := av_int (hi 0 _ _ rfl rfl)
  obtain ⟨n, rfl, _⟩ := av_int (hi 1 _ _ rfl rfl)
  clear hA0 hval0 hsz0
  refine (law_calls (vs := #[v0]) (nobody_ kd n) rfl (fun j x v e1 e2 => ?_)).mono fun e W' ⟨he, bel⟩ => ?_
  · match j, e1, e2 with
    | 0, e1, e2 => simp at e1 e2; subst e1; subst e2; exact l0
  subst he
  exact ⟨_, rfl, _, _, _, [], _, [], hW', trodAll_mk1 (shut_bool Try.underlying4 _), (trodAll_cons_mk (Below.trod laidOut (by kernel_rfl) (of_decide_eq_true (by kernel_rfl)) k0 bel lt0) trodAll_mk0), rfl, bel.frame _, fun h => by cases h⟩
theorem over : Rows.octetNobodyRow.holds Try.pinned (OpenSpec.ofChange Rows.octetNobodySpec) :=
  OpenClaim.holds_of_wide 5 Try.f5 rfl rfl rfl rfl rfl rfl rfl ⟨rfl, rfl, rfl, rfl, rfl⟩ rfl rfl rfl rfl rfl (by kernel_rfl) Try.func5 (by kernel_rfl)
    (of_decide_eq_true (by kernel_rfl)) (by unfold Func.isWrapper; first | (rw [if_pos (by decide +kernel)]; kernel_rfl) | (rw [if_neg (by decide +kernel)]; exact ⟨rfl, rfl⟩))
    (fun os started H enc _ => lifted os started H enc)
theorem proved : Rows.OctetNobodySaid := over
#print axioms proved
end Go.Proofs.Ytejflbmpokdhgaa.octetNobody
namespace Go.Proofs.Ytejflbmpokdhgaa
/-- The row, under a short name, for the claim. -/
theorem octetNobody_holds : Rows.OctetNobodySaid := octetNobody.proved
end Go.Proofs.Ytejflbmpokdhgaa
