/- For whatever image, span, text and block, ImagePuts returns true, and leaves its arguments as they were. No condition. -/
import Derived.Test.YtlnafekmiidpkaaRows
import Derived.Test.YtlnafekmiidpkaaImRow
import Derived.Test.YtlnafekmiidpkaaIm9
namespace Go.Proofs.Ytlnafekmiidpkaa.imagePuts
open Go.ChangeShapes Go.WideShapes Go.ChangeAt Go.RowKit S
set_option linter.all false
set_option linter.unusedVariables false
theorem own : ownKnob Try.prog.godebug = none := by kernel_rfl
theorem laidOut : laidOutB Try.prog = true := by kernel_rfl
set_option maxRecDepth 100000 in
theorem lifted (os : Os) (started : os.Started) (H : Type) (enc : TypeId × Value → H) :
    ReturnsInHanded {} Try.checked os 9 .any (Rows.imagePutsSpec.pre6 enc Try.prog Try.f9 Rows.imagePutsRow.domain false) (Rows.imagePutsSpec.post enc Try.prog Try.f9 false true false false) := by
  refine returnsInHanded_of_change_sized (C := Try.checked) own started (by kernel_rfl) Try.func9
    (ChangeSpec.witness6 (enc := enc) (C := Try.checked) false ⟨#[], #[.agg #[.int .u64 0, .int .u64 0, .string ⟨#[]⟩, .int .u64 0, .int .u16 0, .int .u64 0, .int .u16 0, .int .u64 0, .int .u16 0, .int .u64 0, .int .u16 0, .int .u64 0, .int .u16 0, .int .u64 0, .int .u16 0, .int .u64 0, .int .u16 0, .int .u64 0, .int .u16 0], .agg #[.int .u32 0, .int .u32 0], .string ⟨#[]⟩, .int .u32 0], []⟩ 8 (by kernel_rfl) (by kernel_rfl) (by kernel_rfl) (by kernel_rfl)) ?_
  intro W base args ds gs before hval0 hW hcnd hsz0 _
  have hval : ∀ (j : Nat) t v, Try.f9.params[j]? = some t → args[j]? = some v → Value.okWide Try.prog W .any base t v := hval0
  have hW' := hW
  obtain ⟨p, q, hA0, hV, rfl, hfz, hnd⟩ := hW
  have hA : DataW.TrodAll enc Try.prog W 0 (fun _ => true) true Try.f9.params.toList args.toList ds p := hA0
  rw [Try.params9] at hA hval
  obtain ⟨v0, vs0, d0, ds0, p0, q0, hargs, rfl, rfl, h0, r0⟩ := trodAll_cons hA
  obtain ⟨v1, vs1, d1, ds1, p1, q1, rfl, rfl, rfl, h1, r1⟩ := trodAll_cons r0
  obtain ⟨v2, vs2, d2, ds2, p2, q2, rfl, rfl, rfl, h2, r2⟩ := trodAll_cons r1
  obtain ⟨v3, vs3, d3, ds3, p3, q3, rfl, rfl, rfl, h3, r3⟩ := trodAll_cons r2
  obtain ⟨rfl, rfl, rfl⟩ := trodAll_nil r3
  obtain rfl : args = #[v0, v1, v2, v3] := by cases args; simp_all
  obtain ⟨rfl, rfl⟩ := trodVars_none hV
  obtain ⟨n2, rfl⟩ := okWide_string Try.underlying9 (hval 2 9 v2 rfl rfl)
  obtain ⟨n3, rfl⟩ := okWide_int Try.underlying58 (hval 3 58 v3 rfl rfl)
  have k0 := h0
  have lt0 : ∀ x ∈ p0, x.block < W.heap.size := by obtain ⟨m, hm⟩ := k0; exact DataW.trod_lt m _ _ _ hm
  obtain ⟨f0, hf0⟩ := h0
  have k1 := h1
  have lt1 : ∀ x ∈ p1, x.block < W.heap.size := by obtain ⟨m, hm⟩ := k1; exact DataW.trod_lt m _ _ _ hm
  obtain ⟨f1, hf1⟩ := h1
  have k2 := h2
  have lt2 : ∀ x ∈ p2, x.block < W.heap.size := by obtain ⟨m, hm⟩ := k2; exact DataW.trod_lt m _ _ _ hm
  obtain ⟨f2, hf2⟩ := h2
  have k3 := h3
  have lt3 : ∀ x ∈ p3, x.block < W.heap.size := by obtain ⟨m, hm⟩ := k3; exact DataW.trod_lt m _ _ _ hm
  obtain ⟨f3, hf3⟩ := h3
  obtain ⟨avs0, l0, hn0, hi0⟩ := open_agg Try.underlying57 rfl (hval 0 57 v0 rfl rfl) (n := 8) (sh := imSh) (by kernel_rfl) hf0
  obtain ⟨x, rfl, hx⟩ := im_of avs0 hn0 hi0
  obtain ⟨avs1, l1, hn1, hi1⟩ := open_agg Try.underlying87 rfl (hval 1 87 v1 rfl rfl) (n := 8) (sh := spSh) (by kernel_rfl) hf1
  obtain ⟨p, rfl, hp⟩ := sp_of avs1 hn1 hi1
  obtain ⟨x2, l2, i2, _⟩ := (open_sh 8 9 [.str] _ _ _ (by kernel_rfl) hf2).2 0 _ _ rfl rfl
  obtain ⟨d, rfl, hd⟩ := av_str i2
  obtain ⟨x3, l3, i3, _⟩ := (open_sh 8 58 [.int .u32] _ _ _ (by kernel_rfl) hf3).2 0 _ _ rfl rfl
  obtain ⟨k, rfl, hk⟩ := av_int i3
  clear hA0 hval0 hsz0
  refine (law_calls (vs := #[v0, v1, .string n2, .int .u32 n3]) (fun g c h => by simp [gtab] at h) (puts15I x hx p hp d k (u32_wf hk)) rfl (fun j x v e1 e2 => ?_)).mono fun e W' ⟨he, bel⟩ => ?_
  · match j, e1, e2 with
    | 0, e1, e2 => simp at e1 e2; subst e1; subst e2; exact l0
    | 1, e1, e2 => simp at e1 e2; subst e1; subst e2; exact l1
    | 2, e1, e2 => simp at e1 e2; subst e1; subst e2; exact l2
    | 3, e1, e2 => simp at e1 e2; subst e1; subst e2; exact l3
  subst he
  exact ⟨_, rfl, _, _, _, [], _, [], hW', trodAll_mk1 (shut_bool Try.underlying4 _), (trodAll_cons_mk (Below.trod laidOut (by kernel_rfl) (of_decide_eq_true (by kernel_rfl)) k0 bel lt0) (trodAll_cons_mk (Below.trod laidOut (by kernel_rfl) (of_decide_eq_true (by kernel_rfl)) k1 bel lt1) (trodAll_cons_mk (Below.trod laidOut (by kernel_rfl) (of_decide_eq_true (by kernel_rfl)) k2 bel lt2) (trodAll_cons_mk (Below.trod laidOut (by kernel_rfl) (of_decide_eq_true (by kernel_rfl)) k3 bel lt3) trodAll_mk0)))), rfl, bel.frame _, fun h => by cases h⟩
theorem over : Rows.imagePutsRow.holds Try.pinned (OpenSpec.ofChange Rows.imagePutsSpec) :=
  OpenClaim.holds_of_wide 9 Try.f9 rfl rfl rfl rfl rfl rfl rfl ⟨rfl, rfl, rfl, rfl, rfl⟩ rfl rfl rfl rfl rfl (by kernel_rfl) Try.func9 (by kernel_rfl)
    (of_decide_eq_true (by kernel_rfl)) (by unfold Func.isWrapper; first | (rw [if_pos (by decide +kernel)]; kernel_rfl) | (rw [if_neg (by decide +kernel)]; exact ⟨rfl, rfl⟩))
    (fun os started H enc _ => lifted os started H enc)
theorem proved : Rows.ImagePutsSaid := over
#print axioms proved
end Go.Proofs.Ytlnafekmiidpkaa.imagePuts
namespace Go.Proofs.Ytlnafekmiidpkaa
/-- The row, under a short name, for the claim. -/
theorem imagePuts_holds : Rows.ImagePutsSaid := imagePuts.proved
end Go.Proofs.Ytlnafekmiidpkaa
