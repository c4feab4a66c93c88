/- What is listed of math/bits, as the evaluation wants it. -/
import Derived.Test.YtikogdkjmnpfcaaDoorAp11
import Derived.Test.YtikogdkjmnpfcaaDoorRows
import Derived.Test.YtikogdkjmnpfcaaDoorRowB
import Derived.ProofKit
import Derived.LaidMore
import Derived.OpenShut
import Derived.Stop.Joined
namespace Go.Proofs.YtikogdkjmnpfcaaDoor.S
open Go.ChangeShapes Go.WideShapes Go.ChangeAt Go.RowKit Go.Deep
set_option linter.all false
set_option maxRecDepth 100000
theorem gBruijn : Tryd.prog.globalNamed "math/bits.deBruijn64tab" = some 0 := by kernel_rfl
theorem tBruijn : (Tryd.prog.globals[0]?).map (·.type) = some 66 := by kernel_rfl
theorem glob_of {W : World} (h : laidMetH Tryd.prog Rows.allocPlaysRow.laid W) : GlobOK (allB W) W := by
  rw [MakeChecks.laidMetH_plain _ _ _ (by kernel_rfl)] at h
  obtain ⟨ps, ⟨g0, t0, cs0, f0, p0, q0, hg0, ht0, hv0, hd0, _⟩, _⟩ := h
  obtain rfl := Option.some.inj (gBruijn.symm.trans hg0)
  obtain rfl := Option.some.inj (tBruijn.symm.trans ht0)
  obtain ⟨xs, m1, rfl, hx1, hlen, hn3, hel⟩ := DataW.trod_array Tryd.underlying66 hd0
  have c1 : Tryd.prog.cellsOf 5 = 1 := by kernel_rfl
  have c64 : Tryd.prog.cellsOf 66 = 64 := by kernel_rfl
  simp only [Prod.mk.injEq] at hx1
  have hx := hx1.1
  have all : ∀ (j : Nat) (b : Nat), j < 64 → (Lib.deBruijn64tab)[j]? = some b → W.cell? (at_ 0 j) = some (.int .u8 (b : Nat)) := by
    intro j b hj hb
    have hj2 := hel j hj
    have hjx : j < xs.length := by omega
    rw [List.getElem?_eq_getElem hjx] at hj2
    obtain ⟨k, e1, e2, _⟩ := DataW.trod_int Tryd.underlying5 hj2
    have hd : (xs.map (·.1))[j]? = some (.lit (.int .u8 (b : Nat))) := by
      have : (xs.map (·.1)) = Lib.deBruijn64tab.map fun n => .lit (.int .u8 (n : Nat)) := by
        have := hx
        injection this with this
        rw [← this]
        rfl
      rw [this, List.getElem?_map, hb]
      rfl
    rw [List.getElem?_map, List.getElem?_eq_getElem hjx] at hd
    have hk : k = (b : Nat) := by
      rw [e2] at hd
      simpa using hd
    subst hk
    have hv := World.var?_cell hg0 hv0 j
    show W.cell? ⟨0, j, none⟩ = _
    rw [hv]
    rw [c1, Nat.mul_one] at e1
    have : cs0.toList[j]? = some (.int .u8 (b : Nat)) := by
      have h3 : ((cs0.toList.drop j).take 1)[0]? = some (.int .u8 (b : Nat)) := by rw [e1]; rfl
      rw [List.getElem?_take_of_lt (by omega), List.getElem?_drop] at h3
      simpa using h3
    simpa using this
  intro g c hg
  have hg' : g = 0 ∧ c = Lib.deBruijn64tab.map fun n => AV.int .u8 (n : Nat) := by
    unfold gtab at hg
    split at hg
    · injection hg with hg
      exact ⟨rfl, hg.symm⟩
    · cases hg
  obtain ⟨rfl, rfl⟩ := hg'
  refine ⟨?_, fun j a ha => ?_⟩
  · have := all 0 0 (by omega) rfl
    exact (cell_blk this).1
  · rw [List.getElem?_map] at ha
    have hj : j < Lib.deBruijn64tab.length := by
      apply Decidable.byContradiction
      intro h
      rw [List.getElem?_eq_none (by omega)] at ha
      cases ha
    rw [List.getElem?_eq_getElem hj] at ha
    simp only [Option.map_some, Option.some.injEq] at ha
    subst ha
    exact ⟨_, all j _ hj (List.getElem?_eq_getElem hj), rfl, .int _ _⟩
def op13Sh : List Tsh := [.int .i64, .int .i64]
theorem op13_of (row : List AV) (h1 : row.length = 2) (h2 : ∀ (j : Nat) s a, op13Sh[j]? = some s → row[j]? = some a → IsAV s a) : ∃ x : Op13, row = op13 x ∧ True := by
  match row, h1 with
  | [a, b], _ =>
    obtain ⟨n0, rfl, w0⟩ := av_int (h2 0 _ _ rfl rfl)
    obtain ⟨n1, rfl, w1⟩ := av_int (h2 1 _ _ rfl rfl)
    exact ⟨⟨n0, n1⟩, rfl, trivial⟩
end Go.Proofs.YtikogdkjmnpfcaaDoor.S
