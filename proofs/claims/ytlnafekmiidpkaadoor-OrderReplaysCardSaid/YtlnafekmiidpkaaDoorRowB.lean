/- A typed struct as an abstract value. -/
import Derived.Test.YtlnafekmiidpkaaDoorRowA
import Derived.Test.YtlnafekmiidpkaaDoorOpen
namespace Go.Proofs.YtlnafekmiidpkaaDoor.S
open Go.ChangeShapes Go.WideShapes Go.ChangeAt Go.RowKit Go.Deep
set_option linter.all false
theorem open_agg {H : Type} {enc : TypeId × Value → H} {P : Program} {w : World} {r : Reach} {b0 base : Nat} {sp : Nat → Bool} {hd : Bool} {t : TypeId} {v : Value} {td : TypeDesc} {n fuel : Nat} {sh : List Tsh} {x : DataW H × List MemPlace} (hu : P.underlying t = some td) (hk : (match td with | .struct _ | .array _ _ => true | _ => false) = true)
    (hv : Value.okWide P w r b0 t v) (hs : shOf P n t = some sh) (hx : DataW.trod enc P w base sp hd fuel t v.cells.toList = some x) : ∃ avs, Lf (allB w) w (.arr avs) v ∧ avs.length = sh.length ∧ ∀ (j : Nat) s a, sh[j]? = some s → avs[j]? = some a → IsAV s a := by
  obtain ⟨cs, rfl, hsz, _⟩ := K.agg_of hu hk hv
  obtain ⟨h1, h2⟩ := open_sh n t sh fuel _ x hs hx
  have h1 : cs.size = sh.length := by simpa [Value.cells] using h1
  haveI : Inhabited AV := ⟨.any⟩
  have each : ∀ j, j < cs.size → ∃ a, ∀ s v, sh[j]? = some s → cs[j]? = some v → Lf (allB w) w a v ∧ IsAV s a ∧ v.oneCell' = true := by
    intro j hj
    obtain ⟨a, g1, g2, g3⟩ := h2 j sh[j] cs[j] (List.getElem?_eq_getElem (by omega)) (by simp [Value.cells, hj])
    refine ⟨a, fun s v e1 e2 => ?_⟩
    rw [List.getElem?_eq_getElem (by omega)] at e1
    rw [Array.getElem?_eq_getElem hj] at e2
    injection e1 with e1; injection e2 with e2
    subst e1; subst e2
    exact ⟨g1, g2, g3⟩
  obtain ⟨F, hF⟩ := choose_lt each
  have get : ∀ (j : Nat) a, ((List.range cs.size).map F)[j]? = some a → j < cs.size ∧ a = F j := by
    intro j a e
    simp only [List.getElem?_map, Option.map_eq_some_iff] at e
    obtain ⟨j', e1, rfl⟩ := e
    obtain ⟨a1, a2⟩ := List.getElem?_eq_some_iff.1 e1
    simp at a1 a2
    exact ⟨a1, by rw [a2]⟩
  refine ⟨(List.range cs.size).map F, .arr _ cs (by simp) (fun j a v e1 e2 => ?_) (fun v hv => ?_), by simp [h1], fun j s a e1 e2 => ?_⟩
  · obtain ⟨hj, rfl⟩ := get j a e1
    exact (hF j hj sh[j] v (List.getElem?_eq_getElem (by omega)) e2).1
  · obtain ⟨j, hj⟩ := List.getElem?_of_mem hv
    have hj' : cs[j]? = some v := by simpa using hj
    have hlt := (Array.getElem?_eq_some_iff.1 hj').1
    exact (hF j hlt sh[j] v (List.getElem?_eq_getElem (by omega)) hj').2.2
  · obtain ⟨hj, rfl⟩ := get j a e2
    exact (hF j hj s cs[j] e1 (Array.getElem?_eq_getElem hj)).2.1
end Go.Proofs.YtlnafekmiidpkaaDoor.S
