/- A table as an argument. -/
import Derived.Test.YtapfediapkklnaaDone
import Derived.Test.YtapfediapkklnaaOpen
namespace Go.Proofs.Ytapfediapkklnaa
open Go.ChangeShapes Go.WideShapes Go.ChangeAt Go.RowKit K
set_option linter.unusedVariables false
theorem own : ownKnob Try.prog.godebug = none := by kernel_rfl
theorem laidOut : laidOutB Try.prog = true := by kernel_rfl
theorem leaves_table : Try.prog.cellTypes Try.prog.depth 27 = some [22, 23, 22, 23, 22, 23, 22, 23, 22, 23, 22, 23, 22, 23, 22, 23] := by kernel_rfl
theorem cellsOf_table : Try.prog.cellsOf 27 = 16 := by kernel_rfl
theorem open_table {w : World} {r : Reach} {base : Nat} {v : Value} (h : Value.okWide Try.prog w r base 27 v) : ∃ t, TOk t ∧ v = .agg (cells t) := by
  obtain ⟨cs, rfl, hsz, hrow⟩ := agg_of Try.underlying27 rfl h
  rw [cellsOf_table] at hsz
  have h64 : ∀ i, i < 8 → ∃ n, cs[i * 2]? = some (.int .u64 n) ∧ U64 n := by
    intro i hi
    obtain ⟨v, hv, ho⟩ := row_cell hrow leaves_table (i * 2) (by omega) (u := 22) (by
      have : i = 0 ∨ i = 1 ∨ i = 2 ∨ i = 3 ∨ i = 4 ∨ i = 5 ∨ i = 6 ∨ i = 7 := by omega
      rcases this with rfl | rfl | rfl | rfl | rfl | rfl | rfl | rfl <;> rfl)
    obtain ⟨n, rfl, h1, h2⟩ := cell_int Try.underlying22 ho
    exact ⟨n, hv, h1, h2⟩
  have h16 : ∀ i, i < 8 → ∃ n, cs[i * 2 + 1]? = some (.int .u16 n) ∧ U16 n := by
    intro i hi
    obtain ⟨v, hv, ho⟩ := row_cell hrow leaves_table (i * 2 + 1) (by omega) (u := 23) (by
      have : i = 0 ∨ i = 1 ∨ i = 2 ∨ i = 3 ∨ i = 4 ∨ i = 5 ∨ i = 6 ∨ i = 7 := by omega
      rcases this with rfl | rfl | rfl | rfl | rfl | rfl | rfl | rfl <;> rfl)
    obtain ⟨n, rfl, h1, h2⟩ := cell_int Try.underlying23 ho
    exact ⟨n, hv, h1, h2⟩
  obtain ⟨f, hf⟩ := Go.Deep.choose_lt h64
  obtain ⟨g, hg⟩ := Go.Deep.choose_lt h16
  refine ⟨(List.range 8).map fun i => (f i, g i), ⟨by simp, fun x hx => ?_⟩, ?_⟩
  · obtain ⟨i, hi, rfl⟩ := List.mem_map.1 hx
    exact ⟨(hf i (List.mem_range.1 hi)).2, (hg i (List.mem_range.1 hi)).2⟩
  · congr 1
    apply Array.ext_getElem?
    intro j
    by_cases hj : j < 16
    · obtain ⟨i, hi, e | e⟩ : ∃ i, i < 8 ∧ (j = i * 2 ∨ j = i * 2 + 1) := ⟨j / 2, by omega, by omega⟩
      · subst e
        have h1 := (tcs_at ((List.range 8).map fun i => (f i, g i)) i (by simpa using hi)).1
        rw [(hf i hi).1]
        simp [cells, h1, List.getD_eq_getElem?_getD, hi]
      · subst e
        have h1 := (tcs_at ((List.range 8).map fun i => (f i, g i)) i (by simpa using hi)).2
        rw [(hg i hi).1]
        simp [cells, h1, List.getD_eq_getElem?_getD, hi]
    · rw [Array.getElem?_eq_none (by omega), Array.getElem?_eq_none (by simp [cells, tcs_len]; omega)]
end Go.Proofs.Ytapfediapkklnaa
