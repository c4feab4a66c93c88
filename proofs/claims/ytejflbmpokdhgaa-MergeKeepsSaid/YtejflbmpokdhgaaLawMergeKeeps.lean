/- For whatever base, term, number, lists and entry, MergeKeeps returns true, and leaves its arguments as they were. No condition. -/
import Derived.Test.YtejflbmpokdhgaaRows
import Derived.Test.YtejflbmpokdhgaaMgRow
import Derived.Test.YtejflbmpokdhgaaMg12
namespace Go.Proofs.Ytejflbmpokdhgaa.mergeKeeps
open Go.ChangeShapes Go.WideShapes Go.ChangeAt Go.RowKit S
set_option linter.all false
set_option linter.unusedVariables false
theorem own : ownKnob Try.prog.godebug = none := by kernel_rfl
theorem laidOut : laidOutB Try.prog = true := by kernel_rfl
set_option maxRecDepth 100000 in
theorem lifted (os : Os) (started : os.Started) (H : Type) (enc : TypeId × Value → H) :
    ReturnsInHanded {} Try.checked os 7 .any (Rows.mergeKeepsSpec.pre6 enc Try.prog Try.f7 Rows.mergeKeepsRow.domain false) (Rows.mergeKeepsSpec.post enc Try.prog Try.f7 false true false false) := by
  refine returnsInHanded_of_change_sized (C := Try.checked) own started (by kernel_rfl) Try.func7
    (ChangeSpec.witness6 (enc := enc) (C := Try.checked) false ⟨#[], #[.int .u64 0, .int .u64 0, .int .i64 0, .slice none 0 0, .agg #[.int .u64 0, .int .u64 0, .int .u64 0, .int .i64 0, .int .u64 0, .int .u64 0, .int .u32 0, .int .u32 0, .string ⟨#[]⟩, .slice none 0 0]], []⟩ 8 (by kernel_rfl) (by kernel_rfl) (by kernel_rfl) (by kernel_rfl)) ?_
  intro W base args ds gs before hval0 hW hcnd hsz0 _
  have hval : ∀ (j : Nat) t v, Try.f7.params[j]? = some t → args[j]? = some v → Value.okWide Try.prog W .any base t v := hval0
  have hW' := hW
  obtain ⟨p, q, hA0, hV, rfl, hfz, hnd⟩ := hW
  have hA : DataW.TrodAll enc Try.prog W 0 (fun _ => true) true Try.f7.params.toList args.toList ds p := hA0
  rw [Try.params7] at hA hval
  obtain ⟨v0, vs0, d0, ds0, p0, q0, hargs, rfl, rfl, h0, r0⟩ := trodAll_cons hA
  obtain ⟨v1, vs1, d1, ds1, p1, q1, rfl, rfl, rfl, h1, r1⟩ := trodAll_cons r0
  obtain ⟨v2, vs2, d2, ds2, p2, q2, rfl, rfl, rfl, h2, r2⟩ := trodAll_cons r1
  obtain ⟨v3, vs3, d3, ds3, p3, q3, rfl, rfl, rfl, h3, r3⟩ := trodAll_cons r2
  obtain ⟨v4, vs4, d4, ds4, p4, q4, rfl, rfl, rfl, h4, r4⟩ := trodAll_cons r3
  obtain ⟨rfl, rfl, rfl⟩ := trodAll_nil r4
  obtain rfl : args = #[v0, v1, v2, v3, v4] := by cases args; simp_all
  obtain ⟨rfl, rfl⟩ := trodVars_none hV
  obtain ⟨n0, rfl⟩ := okWide_int Try.underlying41 (hval 0 41 v0 rfl rfl)
  obtain ⟨n1, rfl⟩ := okWide_int Try.underlying41 (hval 1 41 v1 rfl rfl)
  obtain ⟨n2, rfl⟩ := okWide_int Try.underlying3 (hval 2 3 v2 rfl rfl)
  obtain ⟨a3, len3, cap3, rfl⟩ := okWide_slice Try.underlying53 (hval 3 53 v3 rfl rfl)
  have k0 := h0
  have lt0 : ∀ x ∈ p0, x.block < W.heap.size := by obtain ⟨m, hm⟩ := k0; exact DataW.trod_lt m _ _ _ hm
  obtain ⟨f0, hf0⟩ := h0
  have k1 := h1
  have lt1 : ∀ x ∈ p1, x.block < W.heap.size := by obtain ⟨m, hm⟩ := k1; exact DataW.trod_lt m _ _ _ hm
  obtain ⟨f1, hf1⟩ := h1
  have k2 := h2
  have lt2 : ∀ x ∈ p2, x.block < W.heap.size := by obtain ⟨m, hm⟩ := k2; exact DataW.trod_lt m _ _ _ hm
  obtain ⟨f2, hf2⟩ := h2
  have k3 := h3
  have lt3 : ∀ x ∈ p3, x.block < W.heap.size := by obtain ⟨m, hm⟩ := k3; exact DataW.trod_lt m _ _ _ hm
  obtain ⟨f3, hf3⟩ := h3
  have k4 := h4
  have lt4 : ∀ x ∈ p4, x.block < W.heap.size := by obtain ⟨m, hm⟩ := k4; exact DataW.trod_lt m _ _ _ hm
  obtain ⟨f4, hf4⟩ := h4
  obtain ⟨x0, l0, i0, _⟩ := (open_sh 8 41 [.int .u64] _ _ _ (by kernel_rfl) hf0).2 0 _ _ rfl rfl
  obtain ⟨base, rfl, hbase⟩ := av_int i0
  obtain ⟨x1, l1, i1, _⟩ := (open_sh 8 41 [.int .u64] _ _ _ (by kernel_rfl) hf1).2 0 _ _ rfl rfl
  obtain ⟨term, rfl, hterm⟩ := av_int i1
  obtain ⟨x2, l2, i2, _⟩ := (open_sh 8 3 [.int .i64] _ _ _ (by kernel_rfl) hf2).2 0 _ _ rfl rfl
  obtain ⟨n, rfl, hn⟩ := av_int i2
  obtain ⟨x3, l3, i3, _⟩ := (open_sh 8 53 [.sl liSh] _ _ _ (by kernel_rfl) hf3).2 0 _ _ rfl rfl
  obtain ⟨xs3, rfl, hs3, hr3⟩ := av_sl i3
  obtain ⟨all, rfl, hall⟩ := rows_of (fun l => [AV.ro 10 (List.map enR l)]) LiOK xs3 (fun row hrow => li_of row (hr3 row hrow).1 (hr3 row hrow).2)
  have hl3 : all.length ≤ 9223372036854775807 := by have := hs3; simp [maxLen] at this; omega
  obtain ⟨avs4, l4, hn4, hi4⟩ := open_agg Try.underlying62 rfl (hval 4 62 v4 rfl rfl) (n := 8) (sh := enSh) (by kernel_rfl) hf4
  obtain ⟨x, rfl, hx⟩ := en_of avs4 hn4 hi4
  clear hA0 hval0 hsz0
  refine (law_calls2 (args := [.int .u64 base, .int .u64 term, .int .i64 n, .ro 1 (all.map (fun l => [AV.ro 10 (List.map enR l)])), .arr (enR x)]) (vs := #[.int .u64 n0, .int .u64 n1, .int .i64 n2, .slice a3 len3 cap3, v4]) (fun g c h => by simp [gtab] at h) (keeps_ base term n (u64_wf hbase) all hl3 (li_len hall) (li_ok hall) x hx) (by simp [mtcL, mtc, mtc0, enA, enR, listsR]) rfl (fun j x v e1 e2 => ?_)).mono fun e W' ⟨he, bel⟩ => ?_
  · match j, e1, e2 with
    | 0, e1, e2 => simp at e1 e2; subst e1; subst e2; exact l0
    | 1, e1, e2 => simp at e1 e2; subst e1; subst e2; exact l1
    | 2, e1, e2 => simp at e1 e2; subst e1; subst e2; exact l2
    | 3, e1, e2 => simp at e1 e2; subst e1; subst e2; exact l3
    | 4, e1, e2 => simp at e1 e2; subst e1; subst e2; exact l4
  subst he
  exact ⟨_, rfl, _, _, _, [], _, [], hW', trodAll_mk1 (shut_bool Try.underlying4 _), (trodAll_cons_mk (Below.trod laidOut (by kernel_rfl) (of_decide_eq_true (by kernel_rfl)) k0 bel lt0) (trodAll_cons_mk (Below.trod laidOut (by kernel_rfl) (of_decide_eq_true (by kernel_rfl)) k1 bel lt1) (trodAll_cons_mk (Below.trod laidOut (by kernel_rfl) (of_decide_eq_true (by kernel_rfl)) k2 bel lt2) (trodAll_cons_mk (Below.trod laidOut (by kernel_rfl) (of_decide_eq_true (by kernel_rfl)) k3 bel lt3) (trodAll_cons_mk (Below.trod laidOut (by kernel_rfl) (of_decide_eq_true (by kernel_rfl)) k4 bel lt4) trodAll_mk0))))), rfl, bel.frame _, fun h => by cases h⟩
theorem over : Rows.mergeKeepsRow.holds Try.pinned (OpenSpec.ofChange Rows.mergeKeepsSpec) :=
  OpenClaim.holds_of_wide 7 Try.f7 rfl rfl rfl rfl rfl rfl rfl ⟨rfl, rfl, rfl, rfl, rfl⟩ rfl rfl rfl rfl rfl (by kernel_rfl) Try.func7 (by kernel_rfl)
    (of_decide_eq_true (by kernel_rfl)) (by unfold Func.isWrapper; first | (rw [if_pos (by decide +kernel)]; kernel_rfl) | (rw [if_neg (by decide +kernel)]; exact ⟨rfl, rfl⟩))
    (fun os started H enc _ => lifted os started H enc)
theorem proved : Rows.MergeKeepsSaid := over
#print axioms proved
end Go.Proofs.Ytejflbmpokdhgaa.mergeKeeps
namespace Go.Proofs.Ytejflbmpokdhgaa
/-- The row, under a short name, for the claim. -/
theorem mergeKeeps_holds : Rows.MergeKeepsSaid := mergeKeeps.proved
end Go.Proofs.Ytejflbmpokdhgaa
