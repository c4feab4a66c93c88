/- What is listed of math/bits, as the evaluation wants it; typed marks and numbers as abstract ones. -/
import Derived.Test.YtlnafekmiidpkaaDoorOp4
import Derived.Test.YtlnafekmiidpkaaDoorRows
import Derived.Test.YtlnafekmiidpkaaDoorRowB
import Derived.ProofKit
import Derived.LaidMore
import Derived.OpenShut
import Derived.Stop.Joined
namespace Go.Proofs.YtlnafekmiidpkaaDoor.S
open Go.ChangeShapes Go.WideShapes Go.ChangeAt Go.RowKit Go.Deep
set_option linter.all false
set_option maxRecDepth 100000
theorem gBruijn : Tryd.prog.globalNamed "math/bits.deBruijn64tab" = some 0 := by kernel_rfl
theorem tBruijn : (Tryd.prog.globals[0]?).map (·.type) = some 125 := by kernel_rfl
theorem glob_of {W : World} (h : laidMetH Tryd.prog Rows.orderReplaysRow.laid W) : GlobOK (allB W) W := by
  rw [MakeChecks.laidMetH_plain _ _ _ (by kernel_rfl)] at h
  obtain ⟨ps, ⟨g0, t0, cs0, f0, p0, q0, hg0, ht0, hv0, hd0, _⟩, _⟩ := h
  obtain rfl := Option.some.inj (gBruijn.symm.trans hg0)
  obtain rfl := Option.some.inj (tBruijn.symm.trans ht0)
  obtain ⟨xs, m1, rfl, hx1, hlen, hn3, hel⟩ := DataW.trod_array Tryd.underlying125 hd0
  have c1 : Tryd.prog.cellsOf 5 = 1 := by kernel_rfl
  have c64 : Tryd.prog.cellsOf 125 = 64 := by kernel_rfl
  simp only [Prod.mk.injEq] at hx1
  have hx := hx1.1
  have all : ∀ (j : Nat) (b : Nat), j < 64 → (Lib.deBruijn64tab)[j]? = some b → W.cell? (at_ 0 j) = some (.int .u8 (b : Nat)) := by
    intro j b hj hb
    have hj2 := hel j hj
    have hjx : j < xs.length := by omega
    rw [List.getElem?_eq_getElem hjx] at hj2
    obtain ⟨k, e1, e2, _⟩ := DataW.trod_int Tryd.underlying5 hj2
    have hd : (xs.map (·.1))[j]? = some (.lit (.int .u8 (b : Nat))) := by
      have : (xs.map (·.1)) = Lib.deBruijn64tab.map fun n => .lit (.int .u8 (n : Nat)) := by
        have := hx
        injection this with this
        rw [← this]
        rfl
      rw [this, List.getElem?_map, hb]
      rfl
    rw [List.getElem?_map, List.getElem?_eq_getElem hjx] at hd
    have hk : k = (b : Nat) := by
      rw [e2] at hd
      simpa using hd
    subst hk
    have hv := World.var?_cell hg0 hv0 j
    show W.cell? ⟨0, j, none⟩ = _
    rw [hv]
    rw [c1, Nat.mul_one] at e1
    have : cs0.toList[j]? = some (.int .u8 (b : Nat)) := by
      have h3 : ((cs0.toList.drop j).take 1)[0]? = some (.int .u8 (b : Nat)) := by rw [e1]; rfl
      rw [List.getElem?_take_of_lt (by omega), List.getElem?_drop] at h3
      simpa using h3
    simpa using this
  intro g c hg
  have hg' : g = 0 ∧ c = Lib.deBruijn64tab.map fun n => AV.int .u8 (n : Nat) := by
    unfold gtab at hg
    split at hg
    · injection hg with hg
      exact ⟨rfl, hg.symm⟩
    · cases hg
  obtain ⟨rfl, rfl⟩ := hg'
  refine ⟨?_, fun j a ha => ?_⟩
  · have := all 0 0 (by omega) rfl
    exact (cell_blk this).1
  · rw [List.getElem?_map] at ha
    have hj : j < Lib.deBruijn64tab.length := by
      apply Decidable.byContradiction
      intro h
      rw [List.getElem?_eq_none (by omega)] at ha
      cases ha
    rw [List.getElem?_eq_getElem hj] at ha
    simp only [Option.map_some, Option.some.injEq] at ha
    subst ha
    exact ⟨_, all j _ hj (List.getElem?_eq_getElem hj), rfl, .int _ _⟩
def lkSh : List Tsh := [.int .u64, .int .u64, .int .u32, .int .u32]
def enSh : List Tsh := [.int .u64, .int .u64, .int .u64, .int .i64, .int .u64, .int .u64, .int .u32, .int .u32, .str, .sl lkSh]
theorem u64_wf {n : Int} (h : (Lit.int .u64 n).wf = true) : U64 n := by
  have := wf_range h
  simp [IntKind.min, IntKind.max, IntKind.signed, IntKind.bits] at this
  exact ⟨this.1, by omega⟩
theorem u32_wf {n : Int} (h : (Lit.int .u32 n).wf = true) : U32 n := by
  have := wf_range h
  simp [IntKind.min, IntKind.max, IntKind.signed, IntKind.bits] at this
  exact ⟨this.1, by omega⟩
theorem lk_of (row : List AV) (h1 : row.length = 4) (h2 : ∀ (j : Nat) s a, lkSh[j]? = some s → row[j]? = some a → IsAV s a) : ∃ x : Lk, row = lkR x ∧ LkOK x := by
  match row, h1 with
  | [a, b, c, d], _ =>
    obtain ⟨n0, rfl, w0⟩ := av_int (h2 0 _ _ rfl rfl)
    obtain ⟨n1, rfl, w1⟩ := av_int (h2 1 _ _ rfl rfl)
    obtain ⟨n2, rfl, w2⟩ := av_int (h2 2 _ _ rfl rfl)
    obtain ⟨n3, rfl, w3⟩ := av_int (h2 3 _ _ rfl rfl)
    exact ⟨⟨n0, n1, n2, n3⟩, rfl, u64_wf w0, u64_wf w1, u32_wf w2, u32_wf w3⟩
theorem en_of (row : List AV) (h1 : row.length = 10) (h2 : ∀ (j : Nat) s a, enSh[j]? = some s → row[j]? = some a → IsAV s a) : ∃ e : En, row = enR e ∧ EnOK e := by
  match row, h1 with
  | [a0, a1, a2, a3, a4, a5, a6, a7, a8, a9], _ =>
    obtain ⟨n0, rfl, w0⟩ := av_int (h2 0 _ _ rfl rfl)
    obtain ⟨n1, rfl, w1⟩ := av_int (h2 1 _ _ rfl rfl)
    obtain ⟨n2, rfl, w2⟩ := av_int (h2 2 _ _ rfl rfl)
    obtain ⟨n3, rfl, w3⟩ := av_int (h2 3 _ _ rfl rfl)
    obtain ⟨n4, rfl, w4⟩ := av_int (h2 4 _ _ rfl rfl)
    obtain ⟨n5, rfl, w5⟩ := av_int (h2 5 _ _ rfl rfl)
    obtain ⟨n6, rfl, w6⟩ := av_int (h2 6 _ _ rfl rfl)
    obtain ⟨n7, rfl, w7⟩ := av_int (h2 7 _ _ rfl rfl)
    obtain ⟨s, rfl, _⟩ := av_str (h2 8 _ _ rfl rfl)
    obtain ⟨xs, rfl, hl, hr⟩ := av_sl (h2 9 _ _ rfl rfl)
    obtain ⟨b, rfl, hb⟩ := rows_of lkR LkOK xs (fun row hrow => lk_of row (hr row hrow).1 (hr row hrow).2)
    have hl : b.length ≤ maxLen := by simpa using hl
    exact ⟨⟨n0, n1, n2, n3, ⟨n4, n5, n6, n7⟩, s, b⟩, rfl, u64_wf w0, ⟨u64_wf w4, u64_wf w5, u32_wf w6, u32_wf w7⟩, hb, by unfold maxLen at hl; omega⟩
theorem bo_of (row : List AV) (h1 : row.length = 1) (h2 : ∀ (j : Nat) s a, [Tsh.bool][j]? = some s → row[j]? = some a → IsAV s a) : ∃ b : Bool, row = boR b ∧ True := by
  match row, h1 with
  | [a], _ =>
    obtain ⟨b, rfl⟩ := av_bool (h2 0 _ _ rfl rfl)
    exact ⟨b, rfl, trivial⟩
end Go.Proofs.YtlnafekmiidpkaaDoor.S
