/- For whatever nodes, numbers, base, entries and votes, BallotPlays returns true, and leaves its arguments as they were. No condition. -/
import Derived.Test.YtjkmnmpjcdanhaaRows
import Derived.Test.YtjkmnmpjcdanhaaBaRow
import Derived.Test.YtjkmnmpjcdanhaaBa9
namespace Go.Proofs.Ytjkmnmpjcdanhaa.ballotPlays
open Go.ChangeShapes Go.WideShapes Go.ChangeAt Go.RowKit S
set_option linter.all false
set_option linter.unusedVariables false
theorem own : ownKnob Try.prog.godebug = none := by kernel_rfl
theorem laidOut : laidOutB Try.prog = true := by kernel_rfl
set_option maxRecDepth 100000 in
theorem lifted (os : Os) (started : os.Started) (H : Type) (enc : TypeId × Value → H) :
    ReturnsInHanded {} Try.checked os 3 .any (Rows.ballotPlaysSpec.pre6 enc Try.prog Try.f3 Rows.ballotPlaysRow.domain false) (Rows.ballotPlaysSpec.post enc Try.prog Try.f3 false true false false) := by
  refine returnsInHanded_of_change_sized (C := Try.checked) own started (by kernel_rfl) Try.func3
    (ChangeSpec.witness6 (enc := enc) (C := Try.checked) false ⟨#[], #[.int .i64 0, .int .i64 0, .int .i64 0, .int .u64 0, .slice none 0 0, .slice none 0 0], []⟩ 8 (by kernel_rfl) (by kernel_rfl) (by kernel_rfl) (by kernel_rfl)) ?_
  intro W base args ds gs before hval0 hW hcnd hsz0 _
  have hval : ∀ (j : Nat) t v, Try.f3.params[j]? = some t → args[j]? = some v → Value.okWide Try.prog W .any base t v := hval0
  have hW' := hW
  obtain ⟨p, q, hA0, hV, rfl, hfz, hnd⟩ := hW
  have hA : DataW.TrodAll enc Try.prog W 0 (fun _ => true) true Try.f3.params.toList args.toList ds p := hA0
  rw [Try.params3] at hA hval
  obtain ⟨v0, vs0, d0, ds0, p0, q0, hargs, rfl, rfl, h0, r0⟩ := trodAll_cons hA
  obtain ⟨v1, vs1, d1, ds1, p1, q1, rfl, rfl, rfl, h1, r1⟩ := trodAll_cons r0
  obtain ⟨v2, vs2, d2, ds2, p2, q2, rfl, rfl, rfl, h2, r2⟩ := trodAll_cons r1
  obtain ⟨v3, vs3, d3, ds3, p3, q3, rfl, rfl, rfl, h3, r3⟩ := trodAll_cons r2
  obtain ⟨v4, vs4, d4, ds4, p4, q4, rfl, rfl, rfl, h4, r4⟩ := trodAll_cons r3
  obtain ⟨v5, vs5, d5, ds5, p5, q5, rfl, rfl, rfl, h5, r5⟩ := trodAll_cons r4
  obtain ⟨rfl, rfl, rfl⟩ := trodAll_nil r5
  obtain rfl : args = #[v0, v1, v2, v3, v4, v5] := by cases args; simp_all
  obtain ⟨rfl, rfl⟩ := trodVars_none hV
  obtain ⟨n0, rfl⟩ := okWide_int Try.underlying3 (hval 0 3 v0 rfl rfl)
  obtain ⟨n1, rfl⟩ := okWide_int Try.underlying3 (hval 1 3 v1 rfl rfl)
  obtain ⟨n2, rfl⟩ := okWide_int Try.underlying3 (hval 2 3 v2 rfl rfl)
  obtain ⟨n3, rfl⟩ := okWide_int Try.underlying22 (hval 3 22 v3 rfl rfl)
  obtain ⟨a4, len4, cap4, rfl⟩ := okWide_slice Try.underlying23 (hval 4 23 v4 rfl rfl)
  obtain ⟨a5, len5, cap5, rfl⟩ := okWide_slice Try.underlying24 (hval 5 24 v5 rfl rfl)
  have k0 := h0
  have lt0 : ∀ x ∈ p0, x.block < W.heap.size := by obtain ⟨m, hm⟩ := k0; exact DataW.trod_lt m _ _ _ hm
  obtain ⟨f0, hf0⟩ := h0
  have k1 := h1
  have lt1 : ∀ x ∈ p1, x.block < W.heap.size := by obtain ⟨m, hm⟩ := k1; exact DataW.trod_lt m _ _ _ hm
  obtain ⟨f1, hf1⟩ := h1
  have k2 := h2
  have lt2 : ∀ x ∈ p2, x.block < W.heap.size := by obtain ⟨m, hm⟩ := k2; exact DataW.trod_lt m _ _ _ hm
  obtain ⟨f2, hf2⟩ := h2
  have k3 := h3
  have lt3 : ∀ x ∈ p3, x.block < W.heap.size := by obtain ⟨m, hm⟩ := k3; exact DataW.trod_lt m _ _ _ hm
  obtain ⟨f3, hf3⟩ := h3
  have k4 := h4
  have lt4 : ∀ x ∈ p4, x.block < W.heap.size := by obtain ⟨m, hm⟩ := k4; exact DataW.trod_lt m _ _ _ hm
  obtain ⟨f4, hf4⟩ := h4
  have k5 := h5
  have lt5 : ∀ x ∈ p5, x.block < W.heap.size := by obtain ⟨m, hm⟩ := k5; exact DataW.trod_lt m _ _ _ hm
  obtain ⟨f5, hf5⟩ := h5
  obtain ⟨x0, l0, i0, _⟩ := (open_sh 8 3 [.int .i64] _ _ _ (by kernel_rfl) hf0).2 0 _ _ rfl rfl
  obtain ⟨nn, rfl, hnn⟩ := av_int i0
  obtain ⟨x1, l1, i1, _⟩ := (open_sh 8 3 [.int .i64] _ _ _ (by kernel_rfl) hf1).2 0 _ _ rfl rfl
  obtain ⟨s, rfl, hs⟩ := av_int i1
  obtain ⟨x2, l2, i2, _⟩ := (open_sh 8 3 [.int .i64] _ _ _ (by kernel_rfl) hf2).2 0 _ _ rfl rfl
  obtain ⟨n, rfl, hn⟩ := av_int i2
  obtain ⟨x3, l3, i3, _⟩ := (open_sh 8 22 [.int .u64] _ _ _ (by kernel_rfl) hf3).2 0 _ _ rfl rfl
  obtain ⟨base, rfl, hbase⟩ := av_int i3
  obtain ⟨x4, l4, i4, _⟩ := (open_sh 8 23 [.sl enSh] _ _ _ (by kernel_rfl) hf4).2 0 _ _ rfl rfl
  obtain ⟨xs4, rfl, hs4, hr4⟩ := av_sl i4
  obtain ⟨own, rfl, hown⟩ := rows_of enR EnOK xs4 (fun row hrow => en_of row (hr4 row hrow).1 (hr4 row hrow).2)
  have hl4 : own.length ≤ 9223372036854775807 := by have := hs4; simp [maxLen] at this; omega
  obtain ⟨x5, l5, i5, _⟩ := (open_sh 8 24 [.sl vtSh] _ _ _ (by kernel_rfl) hf5).2 0 _ _ rfl rfl
  obtain ⟨xs5, rfl, hs5, hr5⟩ := av_sl i5
  obtain ⟨l, rfl, hl⟩ := rows_of vtR VtOK xs5 (fun row hrow => vt_of row (hr5 row hrow).1 (hr5 row hrow).2)
  have hl5 : l.length ≤ 9223372036854775807 := by have := hs5; simp [maxLen] at this; omega
  clear hA0 hval0 hsz0
  refine (law_calls (vs := #[.int .i64 n0, .int .i64 n1, .int .i64 n2, .int .u64 n3, .slice a4 len4 cap4, .slice a5 len5 cap5]) (fun g c h => by simp [gtab] at h) (plays_26 nn s n base (u64_wf hbase).1 own l hl5 hl4 (fun v hv => (hl v hv).1) hown (fun v hv => (hl v hv).2)) rfl (fun j x v e1 e2 => ?_)).mono fun e W' ⟨he, bel⟩ => ?_
  · match j, e1, e2 with
    | 0, e1, e2 => simp at e1 e2; subst e1; subst e2; exact l0
    | 1, e1, e2 => simp at e1 e2; subst e1; subst e2; exact l1
    | 2, e1, e2 => simp at e1 e2; subst e1; subst e2; exact l2
    | 3, e1, e2 => simp at e1 e2; subst e1; subst e2; exact l3
    | 4, e1, e2 => simp at e1 e2; subst e1; subst e2; exact l4
    | 5, e1, e2 => simp at e1 e2; subst e1; subst e2; exact l5
  subst he
  exact ⟨_, rfl, _, _, _, [], _, [], hW', trodAll_mk1 (shut_bool Try.underlying4 _), (trodAll_cons_mk (Below.trod laidOut (by kernel_rfl) (of_decide_eq_true (by kernel_rfl)) k0 bel lt0) (trodAll_cons_mk (Below.trod laidOut (by kernel_rfl) (of_decide_eq_true (by kernel_rfl)) k1 bel lt1) (trodAll_cons_mk (Below.trod laidOut (by kernel_rfl) (of_decide_eq_true (by kernel_rfl)) k2 bel lt2) (trodAll_cons_mk (Below.trod laidOut (by kernel_rfl) (of_decide_eq_true (by kernel_rfl)) k3 bel lt3) (trodAll_cons_mk (Below.trod laidOut (by kernel_rfl) (of_decide_eq_true (by kernel_rfl)) k4 bel lt4) (trodAll_cons_mk (Below.trod laidOut (by kernel_rfl) (of_decide_eq_true (by kernel_rfl)) k5 bel lt5) trodAll_mk0)))))), rfl, bel.frame _, fun h => by cases h⟩
theorem over : Rows.ballotPlaysRow.holds Try.pinned (OpenSpec.ofChange Rows.ballotPlaysSpec) :=
  OpenClaim.holds_of_wide 3 Try.f3 rfl rfl rfl rfl rfl rfl rfl ⟨rfl, rfl, rfl, rfl, rfl⟩ rfl rfl rfl rfl rfl (by kernel_rfl) Try.func3 (by kernel_rfl)
    (of_decide_eq_true (by kernel_rfl)) (by unfold Func.isWrapper; first | (rw [if_pos (by decide +kernel)]; kernel_rfl) | (rw [if_neg (by decide +kernel)]; exact ⟨rfl, rfl⟩))
    (fun os started H enc _ => lifted os started H enc)
theorem proved : Rows.BallotPlaysSaid := over
#print axioms proved
end Go.Proofs.Ytjkmnmpjcdanhaa.ballotPlays
namespace Go.Proofs.Ytjkmnmpjcdanhaa
/-- The row, under a short name, for the claim. -/
theorem ballotPlays_holds : Rows.BallotPlaysSaid := ballotPlays.proved
end Go.Proofs.Ytjkmnmpjcdanhaa
