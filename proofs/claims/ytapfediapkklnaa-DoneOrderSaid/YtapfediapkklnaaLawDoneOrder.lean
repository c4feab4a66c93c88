/- For every list of requests, the law DoneOrder returns true and leaves its argument as it was. No condition. -/
import Derived.Test.YtapfediapkklnaaRows
import Derived.Test.YtapfediapkklnaaDoneOrd
import Derived.Test.YtapfediapkklnaaDoneOpen
namespace Go.Proofs.Ytapfediapkklnaa.doneOrder
open Go.ChangeShapes Go.WideShapes Go.ChangeAt Go.RowKit K Go.Deep
set_option linter.unusedVariables false
set_option maxRecDepth 100000 in
theorem lies {H : Type} {enc : TypeId × Value → H} {W : World} {spare : Nat → Bool} {held : Bool} {a : Option Addr} {len cap : Nat} {d : DataW H} {p : List MemPlace}
    (h : DataW.Trod enc Try.prog W 0 spare held 39 (.slice a len cap) d p) : ∃ X, Lies W a len X ∧ len ≤ maxLen := by
  obtain ⟨fuel, hf⟩ := h
  rcases open_slice Try.underlying39 hf with ⟨e, _⟩ | ⟨ad, l, c, m, n, D, Pl, e, _, hlc, hcm, hm, _, hi⟩
  · simp [Value.cells] at e
    obtain ⟨rfl, rfl, rfl⟩ := e
    exact ⟨fun _ => (0, 0), ⟨fun i h => by omega, fun i h => by omega⟩, by omega⟩
  · simp [Value.cells] at e
    obtain ⟨rfl, rfl, rfl⟩ := e
    have hlm : len ≤ m := by rw [hm]; split <;> omega
    have c2 : Try.prog.cellsOf 40 = 2 := by kernel_rfl
    have c1 : Try.prog.cellsOf 22 = 1 := by kernel_rfl
    have key : ∀ i, i < len → ∃ x : Int × Int, (U64 x.1 ∧ U64 x.2) ∧ ∀ (j : Nat) v, ([Value.int .u64 x.1, Value.int .u64 x.2] : List Value)[j]? = some v → W.cell? ((ad.add (i * 2)).add j) = some v := by
      intro i hil
      obtain ⟨cs', h1, h2⟩ := hi i (by omega)
      rw [c2] at h1
      obtain ⟨_, hlen, hat⟩ := World.cells?_some h1
      obtain ⟨xs, n', _, _, _, hxs, hel⟩ := DataW.trod_array Try.underlying40 h2
      match cs', hlen with
      | [u, v], _ =>
        have g0 := hel 0 (by omega)
        have g1 := hel 1 (by omega)
        rw [c1, List.getElem?_eq_getElem (by omega)] at g0 g1
        simp only [Nat.zero_mul, List.drop_zero, Nat.one_mul, List.take_succ_cons, List.take_zero, List.drop_succ_cons] at g0 g1
        obtain ⟨x, e0, _, w0⟩ := DataW.trod_int Try.underlying22 g0
        obtain ⟨y, e1, _, w1⟩ := DataW.trod_int Try.underlying22 g1
        injection e0 with e0
        injection e1 with e1
        subst e0
        subst e1
        simp only [Lit.wf, Bool.and_eq_true, decide_eq_true_eq] at w0 w1
        refine ⟨(x, y), ⟨w0, w1⟩, fun j v hj => ?_⟩
        have hj2 : j < 2 := by simpa using (List.getElem?_eq_some_iff.1 hj).1
        rw [hat j (by omega)]
        exact hj
    obtain ⟨X, hX⟩ := choose_lt key
    exact ⟨X, ⟨fun i h => (hX i h).1, fun i h => ⟨ad, rfl, (hX i h).2⟩⟩, by omega⟩
set_option maxRecDepth 100000 in
theorem lifted (os : Os) (started : os.Started) (H : Type) (enc : TypeId × Value → H) :
    ReturnsInHanded {} Try.checked os 4 .any (Rows.doneOrderSpec.pre6 enc Try.prog Try.f4 Rows.doneOrderRow.domain false) (Rows.doneOrderSpec.post enc Try.prog Try.f4 false true false false) := by
  refine returnsInHanded_of_change_sized (C := Try.checked) own started (by kernel_rfl) Try.func4
    (ChangeSpec.witness6 (enc := enc) (C := Try.checked) false ⟨#[], #[.slice none 0 0], []⟩ 8 (by kernel_rfl) (by kernel_rfl) (by kernel_rfl) (by kernel_rfl)) ?_
  intro W base args ds gs before hval0 hW hcnd hsz0 _
  have hval : ∀ (j : Nat) t v, Try.f4.params[j]? = some t → args[j]? = some v → Value.okWide Try.prog W .any base t v := hval0
  have hW' := hW
  obtain ⟨p, q, hA0, hV, rfl, hfz, hnd⟩ := hW
  have hA : DataW.TrodAll enc Try.prog W 0 (fun _ => true) true Try.f4.params.toList args.toList ds p := hA0
  rw [Try.params4] at hA hval
  obtain ⟨v0, vs0, d0, ds0, p0, q0, hargs, rfl, rfl, h0, r0⟩ := trodAll_cons hA
  obtain ⟨rfl, rfl, rfl⟩ := trodAll_nil r0
  obtain rfl : args = #[v0] := by cases args; simp_all
  obtain ⟨rfl, rfl⟩ := trodVars_none hV
  have k0 := h0
  have lt0 : ∀ x ∈ p0, x.block < W.heap.size := by obtain ⟨m, hm⟩ := k0; exact DataW.trod_lt m _ _ _ hm
  obtain ⟨a, len, cap, rfl⟩ := okWide_slice Try.underlying39 (hval 0 39 v0 rfl rfl)
  obtain ⟨X, hX, hl⟩ := lies h0
  clear hA0 hval0 hsz0
  refine (order_walk a len cap X W hX).mono fun e W' ⟨he, bel⟩ => ?_
  subst he
  exact ⟨_, rfl, _, _, _, [], _, [], hW', trodAll_mk1 (shut_bool Try.underlying4 _), (trodAll_cons_mk (Below.trod laidOut (by kernel_rfl) (of_decide_eq_true (by kernel_rfl)) k0 bel lt0) trodAll_mk0), rfl, bel.frame _, fun h => by cases h⟩
theorem over : Rows.doneOrderRow.holds Try.pinned (OpenSpec.ofChange Rows.doneOrderSpec) :=
  OpenClaim.holds_of_wide 4 Try.f4 rfl rfl rfl rfl rfl rfl rfl ⟨rfl, rfl, rfl, rfl, rfl⟩ rfl rfl rfl rfl rfl (by kernel_rfl) Try.func4 (by kernel_rfl)
    (of_decide_eq_true (by kernel_rfl)) (by unfold Func.isWrapper; first | (rw [if_pos (by decide +kernel)]; kernel_rfl) | (rw [if_neg (by decide +kernel)]; exact ⟨rfl, rfl⟩))
    (fun os started H enc _ => lifted os started H enc)
theorem proved : Rows.DoneOrderSaid := over
#print axioms proved
end Go.Proofs.Ytapfediapkklnaa.doneOrder
namespace Go.Proofs.Ytapfediapkklnaa
theorem doneOrder_holds : Rows.DoneOrderSaid := doneOrder.proved
end Go.Proofs.Ytapfediapkklnaa
