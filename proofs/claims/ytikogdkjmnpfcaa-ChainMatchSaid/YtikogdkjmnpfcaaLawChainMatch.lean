/- For whatever items and pieces, ChainMatch returns true, and leaves its arguments as they were. No condition. -/
import Derived.Test.YtikogdkjmnpfcaaRows
import Derived.Test.YtikogdkjmnpfcaaChRow2
namespace Go.Proofs.Ytikogdkjmnpfcaa.chainMatch
open Go.ChangeShapes Go.WideShapes Go.ChangeAt Go.RowKit S
set_option linter.all false
set_option linter.unusedVariables false
theorem own : ownKnob Try.prog.godebug = none := by kernel_rfl
theorem laidOut : laidOutB Try.prog = true := by kernel_rfl
set_option maxRecDepth 100000 in
theorem lifted (os : Os) (started : os.Started) (H : Type) (enc : TypeId × Value → H) :
    ReturnsInHanded {} Try.checked os 5 .any (Rows.chainMatchSpec.pre6 enc Try.prog Try.f5 Rows.chainMatchRow.domain false) (Rows.chainMatchSpec.post enc Try.prog Try.f5 false true false false) := by
  refine returnsInHanded_of_change_sized (C := Try.checked) own started (by kernel_rfl) Try.func5
    (ChangeSpec.witness6 (enc := enc) (C := Try.checked) false ⟨#[], #[.slice none 0 0, .slice none 0 0, .slice none 0 0], []⟩ 8 (by kernel_rfl) (by kernel_rfl) (by kernel_rfl) (by kernel_rfl)) ?_
  intro W base args ds gs before hval0 hW hcnd hsz0 _
  have hval : ∀ (j : Nat) t v, Try.f5.params[j]? = some t → args[j]? = some v → Value.okWide Try.prog W .any base t v := hval0
  have hW' := hW
  obtain ⟨p, q, hA0, hV, rfl, hfz, hnd⟩ := hW
  have hA : DataW.TrodAll enc Try.prog W 0 (fun _ => true) true Try.f5.params.toList args.toList ds p := hA0
  rw [Try.params5] at hA hval
  obtain ⟨v0, vs0, d0, ds0, p0, q0, hargs, rfl, rfl, h0, r0⟩ := trodAll_cons hA
  obtain ⟨v1, vs1, d1, ds1, p1, q1, rfl, rfl, rfl, h1, r1⟩ := trodAll_cons r0
  obtain ⟨v2, vs2, d2, ds2, p2, q2, rfl, rfl, rfl, h2, r2⟩ := trodAll_cons r1
  obtain ⟨rfl, rfl, rfl⟩ := trodAll_nil r2
  obtain rfl : args = #[v0, v1, v2] := by cases args; simp_all
  obtain ⟨rfl, rfl⟩ := trodVars_none hV
  obtain ⟨a0, len0, cap0, rfl⟩ := okWide_slice Try.underlying38 (hval 0 38 v0 rfl rfl)
  obtain ⟨a1, len1, cap1, rfl⟩ := okWide_slice Try.underlying39 (hval 1 39 v1 rfl rfl)
  obtain ⟨a2, len2, cap2, rfl⟩ := okWide_slice Try.underlying39 (hval 2 39 v2 rfl rfl)
  have k0 := h0
  have lt0 : ∀ x ∈ p0, x.block < W.heap.size := by obtain ⟨m, hm⟩ := k0; exact DataW.trod_lt m _ _ _ hm
  obtain ⟨f0, hf0⟩ := h0
  have k1 := h1
  have lt1 : ∀ x ∈ p1, x.block < W.heap.size := by obtain ⟨m, hm⟩ := k1; exact DataW.trod_lt m _ _ _ hm
  obtain ⟨f1, hf1⟩ := h1
  have k2 := h2
  have lt2 : ∀ x ∈ p2, x.block < W.heap.size := by obtain ⟨m, hm⟩ := k2; exact DataW.trod_lt m _ _ _ hm
  obtain ⟨f2, hf2⟩ := h2
  obtain ⟨x0, l0, i0, _⟩ := (open_sh 8 38 [.sl itSh] _ _ _ (by kernel_rfl) hf0).2 0 _ _ rfl rfl
  obtain ⟨xs0, rfl, hs0, hr0⟩ := av_sl i0
  obtain ⟨l, rfl, hl⟩ := rows_of itR (fun _ => True) xs0 (fun row hrow => it_of row (hr0 row hrow).1 (hr0 row hrow).2)
  have hl0 : l.length ≤ 9223372036854775807 := by have := hs0; simp [maxLen] at this; omega
  obtain ⟨x1, l1, i1, _⟩ := (open_sh 8 39 [.sl p2Sh] _ _ _ (by kernel_rfl) hf1).2 0 _ _ rfl rfl
  obtain ⟨xs1, rfl, hs1, hr1⟩ := av_sl i1
  obtain ⟨a, rfl, ha⟩ := rows_of p2R P2OK xs1 (fun row hrow => p2_of row (hr1 row hrow).1 (hr1 row hrow).2)
  have hl1 : a.length ≤ 9223372036854775807 := by have := hs1; simp [maxLen] at this; omega
  obtain ⟨x2, l2, i2, _⟩ := (open_sh 8 39 [.sl p2Sh] _ _ _ (by kernel_rfl) hf2).2 0 _ _ rfl rfl
  obtain ⟨xs2, rfl, hs2, hr2⟩ := av_sl i2
  obtain ⟨b, rfl, hb⟩ := rows_of p2R P2OK xs2 (fun row hrow => p2_of row (hr2 row hrow).1 (hr2 row hrow).2)
  have hl2 : b.length ≤ 9223372036854775807 := by have := hs2; simp [maxLen] at this; omega
  clear hA0 hval0 hsz0
  refine (law_calls (vs := #[.slice a0 len0 cap0, .slice a1 len1 cap1, .slice a2 len2 cap2]) (fun g c h => by simp [gtab] at h) (match_ l a b hl0 hl1 hl2 ha hb) rfl (fun j x v e1 e2 => ?_)).mono fun e W' ⟨he, bel⟩ => ?_
  · match j, e1, e2 with
    | 0, e1, e2 => simp at e1 e2; subst e1; subst e2; exact l0
    | 1, e1, e2 => simp at e1 e2; subst e1; subst e2; exact l1
    | 2, e1, e2 => simp at e1 e2; subst e1; subst e2; exact l2
  subst he
  exact ⟨_, rfl, _, _, _, [], _, [], hW', trodAll_mk1 (shut_bool Try.underlying4 _), (trodAll_cons_mk (Below.trod laidOut (by kernel_rfl) (of_decide_eq_true (by kernel_rfl)) k0 bel lt0) (trodAll_cons_mk (Below.trod laidOut (by kernel_rfl) (of_decide_eq_true (by kernel_rfl)) k1 bel lt1) (trodAll_cons_mk (Below.trod laidOut (by kernel_rfl) (of_decide_eq_true (by kernel_rfl)) k2 bel lt2) trodAll_mk0))), rfl, bel.frame _, fun h => by cases h⟩
theorem over : Rows.chainMatchRow.holds Try.pinned (OpenSpec.ofChange Rows.chainMatchSpec) :=
  OpenClaim.holds_of_wide 5 Try.f5 rfl rfl rfl rfl rfl rfl rfl ⟨rfl, rfl, rfl, rfl, rfl⟩ rfl rfl rfl rfl rfl (by kernel_rfl) Try.func5 (by kernel_rfl)
    (of_decide_eq_true (by kernel_rfl)) (by unfold Func.isWrapper; first | (rw [if_pos (by decide +kernel)]; kernel_rfl) | (rw [if_neg (by decide +kernel)]; exact ⟨rfl, rfl⟩))
    (fun os started H enc _ => lifted os started H enc)
theorem proved : Rows.ChainMatchSaid := over
#print axioms proved
end Go.Proofs.Ytikogdkjmnpfcaa.chainMatch
namespace Go.Proofs.Ytikogdkjmnpfcaa
/-- The row, under a short name, for the claim. -/
theorem chainMatch_holds : Rows.ChainMatchSaid := chainMatch.proved
end Go.Proofs.Ytikogdkjmnpfcaa
