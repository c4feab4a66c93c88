/- What a typed value looks like, cell by cell. -/
import Derived.WalkKit
import Derived.ProofKit
import Derived.OpenShut
import Derived.ShutString
import Derived.ChangeOld
import Derived.Below
import Derived.SizedLaws
import Derived.Deep.Slices
namespace Go.Proofs.YtlnafekmiidpkaaDoor.K
open Go.ChangeShapes Go.WideShapes Go.ChangeAt Go.RowKit
set_option linter.unusedVariables false
theorem cell_int {P : Program} {w : World} {r : Reach} {base : Nat} {u : TypeId} {v : Value} {k : IntKind} (hk : P.underlying u = some (.int k)) (ho : Cell.okWide P w r base u v) : ∃ n, v = .int k n ∧ k.min ≤ n ∧ n ≤ k.max := by
  cases v <;> simp [Cell.okWide, Cell.ok, hk, IntKind.has] at ho
  exact ⟨_, by rw [ho.1], ho.2⟩
theorem cell_bool {P : Program} {w : World} {r : Reach} {base : Nat} {u : TypeId} {v : Value} (hk : P.underlying u = some .bool) (ho : Cell.okWide P w r base u v) : ∃ b, v = .bool b := by
  cases v <;> simp [Cell.okWide, Cell.ok, hk] at ho
  exact ⟨_, rfl⟩
theorem row_cell {P : Program} {w : World} {r : Reach} {base : Nat} {t : TypeId} {cs : Array Value} (h : Row.okWide P w r base t cs) {ts : List TypeId} (hts : P.cellTypes P.depth t = some ts) (i : Nat) (hi : i < cs.size) {u : TypeId} (hu : ts[i % ts.length]? = some u) :
    ∃ v, cs[i]? = some v ∧ Cell.okWide P w r base u v := by
  obtain ⟨ts', h1, _, h3⟩ := h
  rw [hts] at h1
  injection h1 with h1
  subst h1
  obtain ⟨u', hu', ho⟩ := h3 i cs[i] (by simp [hi])
  rw [hu] at hu'
  injection hu' with hu'
  subst hu'
  exact ⟨cs[i], by simp [hi], ho⟩
theorem agg_of {P : Program} {w : World} {r : Reach} {base : Nat} {t : TypeId} {v : Value} {d : TypeDesc} (hu : P.underlying t = some d) (hd : (match d with | .struct _ | .array _ _ => true | _ => false) = true) (h : Value.okWide P w r base t v) :
    ∃ cs, v = .agg cs ∧ cs.size = P.cellsOf t ∧ Row.okWide P w r base t cs := by
  unfold Value.okWide at h
  rw [hu] at h
  cases d <;> simp at hd
  · exact h
  · exact h
end Go.Proofs.YtlnafekmiidpkaaDoor.K
