/- What is listed of math/bits, as the evaluation wants it; typed marks and numbers as abstract ones. -/
import Derived.Test.YtlnafekmiidpkaaDoorOr9
import Derived.Test.YtlnafekmiidpkaaDoorRows
import Derived.Test.YtlnafekmiidpkaaDoorRowB
import Derived.ProofKit
import Derived.LaidMore
import Derived.OpenShut
import Derived.Stop.Joined
namespace Go.Proofs.YtlnafekmiidpkaaDoor.S
open Go.ChangeShapes Go.WideShapes Go.ChangeAt Go.RowKit Go.Deep
set_option linter.all false
set_option maxRecDepth 100000
theorem gBruijn : Tryd.prog.globalNamed "math/bits.deBruijn64tab" = some 0 := by kernel_rfl
theorem tBruijn : (Tryd.prog.globals[0]?).map (·.type) = some 125 := by kernel_rfl
theorem glob_of {W : World} (h : laidMetH Tryd.prog Rows.orderTellsRow.laid W) : GlobOK (allB W) W := by
  rw [MakeChecks.laidMetH_plain _ _ _ (by kernel_rfl)] at h
  obtain ⟨ps, ⟨g0, t0, cs0, f0, p0, q0, hg0, ht0, hv0, hd0, _⟩, _⟩ := h
  obtain rfl := Option.some.inj (gBruijn.symm.trans hg0)
  obtain rfl := Option.some.inj (tBruijn.symm.trans ht0)
  obtain ⟨xs, m1, rfl, hx1, hlen, hn3, hel⟩ := DataW.trod_array Tryd.underlying125 hd0
  have c1 : Tryd.prog.cellsOf 5 = 1 := by kernel_rfl
  have c64 : Tryd.prog.cellsOf 125 = 64 := by kernel_rfl
  simp only [Prod.mk.injEq] at hx1
  have hx := hx1.1
  have all : ∀ (j : Nat) (b : Nat), j < 64 → (Lib.deBruijn64tab)[j]? = some b → W.cell? (at_ 0 j) = some (.int .u8 (b : Nat)) := by
    intro j b hj hb
    have hj2 := hel j hj
    have hjx : j < xs.length := by omega
    rw [List.getElem?_eq_getElem hjx] at hj2
    obtain ⟨k, e1, e2, _⟩ := DataW.trod_int Tryd.underlying5 hj2
    have hd : (xs.map (·.1))[j]? = some (.lit (.int .u8 (b : Nat))) := by
      have : (xs.map (·.1)) = Lib.deBruijn64tab.map fun n => .lit (.int .u8 (n : Nat)) := by
        have := hx
        injection this with this
        rw [← this]
        rfl
      rw [this, List.getElem?_map, hb]
      rfl
    rw [List.getElem?_map, List.getElem?_eq_getElem hjx] at hd
    have hk : k = (b : Nat) := by
      rw [e2] at hd
      simpa using hd
    subst hk
    have hv := World.var?_cell hg0 hv0 j
    show W.cell? ⟨0, j, none⟩ = _
    rw [hv]
    rw [c1, Nat.mul_one] at e1
    have : cs0.toList[j]? = some (.int .u8 (b : Nat)) := by
      have h3 : ((cs0.toList.drop j).take 1)[0]? = some (.int .u8 (b : Nat)) := by rw [e1]; rfl
      rw [List.getElem?_take_of_lt (by omega), List.getElem?_drop] at h3
      simpa using h3
    simpa using this
  intro g c hg
  have hg' : g = 0 ∧ c = Lib.deBruijn64tab.map fun n => AV.int .u8 (n : Nat) := by
    unfold gtab at hg
    split at hg
    · injection hg with hg
      exact ⟨rfl, hg.symm⟩
    · cases hg
  obtain ⟨rfl, rfl⟩ := hg'
  refine ⟨?_, fun j a ha => ?_⟩
  · have := all 0 0 (by omega) rfl
    exact (cell_blk this).1
  · rw [List.getElem?_map] at ha
    have hj : j < Lib.deBruijn64tab.length := by
      apply Decidable.byContradiction
      intro h
      rw [List.getElem?_eq_none (by omega)] at ha
      cases ha
    rw [List.getElem?_eq_getElem hj] at ha
    simp only [Option.map_some, Option.some.injEq] at ha
    subst ha
    exact ⟨_, all j _ hj (List.getElem?_eq_getElem hj), rfl, .int _ _⟩
theorem nat_of {n : Int} (h : (Lit.int .u64 n).wf = true) : ∃ k : Nat, n = (k : Int) ∧ k < 18446744073709551616 := by
  have := wf_range h
  simp [IntKind.min, IntKind.max, IntKind.signed, IntKind.bits] at this
  exact ⟨n.toNat, by omega, by omega⟩
def mkSh : List Tsh := [.int .u64, .int .u64]
def mkRow (m : Mk) : List AV := [.int .u64 (m.l : Int), .int .u64 (m.b : Int)]
theorem mk_of (row : List AV) (h1 : row.length = 2) (h2 : ∀ (j : Nat) s a, mkSh[j]? = some s → row[j]? = some a → IsAV s a) : ∃ m : Mk, row = mkRow m ∧ MkOK m := by
  match row, h1 with
  | [a, b], _ =>
    obtain ⟨n0, rfl, w0⟩ := av_int (h2 0 _ _ rfl rfl)
    obtain ⟨n1, rfl, w1⟩ := av_int (h2 1 _ _ rfl rfl)
    obtain ⟨k0, rfl, v0⟩ := nat_of w0
    obtain ⟨k1, rfl, v1⟩ := nat_of w1
    exact ⟨⟨k0, k1⟩, rfl, v0, v1⟩
def u64R (n : Nat) : List AV := [.int .u64 (n : Int)]
theorem u64_of (row : List AV) (h1 : row.length = 1) (h2 : ∀ (j : Nat) s a, ([Tsh.int .u64])[j]? = some s → row[j]? = some a → IsAV s a) : ∃ n : Nat, row = u64R n ∧ n < 18446744073709551616 := by
  match row, h1 with
  | [a], _ =>
    obtain ⟨n0, rfl, w0⟩ := av_int (h2 0 _ _ rfl rfl)
    obtain ⟨k0, rfl, v0⟩ := nat_of w0
    exact ⟨k0, rfl, v0⟩
def lkSh : List Tsh := [.int .u64, .int .u64, .int .u32, .int .u32]
def enSh : List Tsh := [.int .u64, .int .u64, .int .u64, .int .i64, .int .u64, .int .u64, .int .u32, .int .u32, .str, .sl lkSh]
theorem u64_wf {n : Int} (h : (Lit.int .u64 n).wf = true) : U64 n := by
  have := wf_range h
  simp [IntKind.min, IntKind.max, IntKind.signed, IntKind.bits] at this
  exact ⟨this.1, by omega⟩
theorem u32_wf {n : Int} (h : (Lit.int .u32 n).wf = true) : U32 n := by
  have := wf_range h
  simp [IntKind.min, IntKind.max, IntKind.signed, IntKind.bits] at this
  exact ⟨this.1, by omega⟩
theorem lk_of (row : List AV) (h1 : row.length = 4) (h2 : ∀ (j : Nat) s a, lkSh[j]? = some s → row[j]? = some a → IsAV s a) : ∃ x : Lk, row = lkR x ∧ LkOK x := by
  match row, h1 with
  | [a, b, c, d], _ =>
    obtain ⟨n0, rfl, w0⟩ := av_int (h2 0 _ _ rfl rfl)
    obtain ⟨n1, rfl, w1⟩ := av_int (h2 1 _ _ rfl rfl)
    obtain ⟨n2, rfl, w2⟩ := av_int (h2 2 _ _ rfl rfl)
    obtain ⟨n3, rfl, w3⟩ := av_int (h2 3 _ _ rfl rfl)
    exact ⟨⟨n0, n1, n2, n3⟩, rfl, u64_wf w0, u64_wf w1, u32_wf w2, u32_wf w3⟩
theorem en_of (row : List AV) (h1 : row.length = 10) (h2 : ∀ (j : Nat) s a, enSh[j]? = some s → row[j]? = some a → IsAV s a) : ∃ e : En, row = enR e ∧ EnOK e := by
  match row, h1 with
  | [a0, a1, a2, a3, a4, a5, a6, a7, a8, a9], _ =>
    obtain ⟨n0, rfl, w0⟩ := av_int (h2 0 _ _ rfl rfl)
    obtain ⟨n1, rfl, w1⟩ := av_int (h2 1 _ _ rfl rfl)
    obtain ⟨n2, rfl, w2⟩ := av_int (h2 2 _ _ rfl rfl)
    obtain ⟨n3, rfl, w3⟩ := av_int (h2 3 _ _ rfl rfl)
    obtain ⟨n4, rfl, w4⟩ := av_int (h2 4 _ _ rfl rfl)
    obtain ⟨n5, rfl, w5⟩ := av_int (h2 5 _ _ rfl rfl)
    obtain ⟨n6, rfl, w6⟩ := av_int (h2 6 _ _ rfl rfl)
    obtain ⟨n7, rfl, w7⟩ := av_int (h2 7 _ _ rfl rfl)
    obtain ⟨s, rfl, _⟩ := av_str (h2 8 _ _ rfl rfl)
    obtain ⟨xs, rfl, hl, hr⟩ := av_sl (h2 9 _ _ rfl rfl)
    obtain ⟨b, rfl, hb⟩ := rows_of lkR LkOK xs (fun row hrow => lk_of row (hr row hrow).1 (hr row hrow).2)
    have hl : b.length ≤ maxLen := by simpa using hl
    exact ⟨⟨n0, n1, n2, n3, ⟨n4, n5, n6, n7⟩, s, b⟩, rfl, u64_wf w0, ⟨u64_wf w4, u64_wf w5, u32_wf w6, u32_wf w7⟩, hb, by unfold maxLen at hl; omega⟩
def tabSh : List Tsh := [.int .u64, .int .u16, .int .u64, .int .u16, .int .u64, .int .u16, .int .u64, .int .u16, .int .u64, .int .u16, .int .u64, .int .u16, .int .u64, .int .u16, .int .u64, .int .u16]
theorem tab_pairs : ∀ (n : Nat) (row : List AV), row.length = 2 * n → (∀ (j : Nat) a, j < n → row[2 * j]? = some a → IsAV (.int .u64) a) → (∀ (j : Nat) a, j < n → row[2 * j + 1]? = some a → IsAV (.int .u16) a) → ∃ t : List (Int × Int), row = cellsT t ∧ t.length = n ∧ (∀ c ∈ t, K.U64 c.1 ∧ K.U16 c.2)
  | 0, row, h, _, _ => by
    have : row = [] := by simpa using h
    subst this
    exact ⟨[], rfl, rfl, fun c hc => by simp at hc⟩
  | n + 1, row, h, h1, h2 => by
    match row, h with
    | x :: y :: row, h =>
      obtain ⟨a, rfl, wa⟩ := av_int (h1 0 x (by omega) rfl)
      obtain ⟨b, rfl, wb⟩ := av_int (h2 0 y (by omega) rfl)
      obtain ⟨t, rfl, ht, hk⟩ := tab_pairs n row (by simp at h; omega) (fun j v hj e => h1 (j + 1) v (by omega) (by rw [show 2 * (j + 1) = 2 * j + 1 + 1 by omega]; simpa using e)) (fun j v hj e => h2 (j + 1) v (by omega) (by rw [show 2 * (j + 1) + 1 = 2 * j + 1 + 1 + 1 by omega]; simpa using e))
      refine ⟨(a, b) :: t, rfl, by simp [ht], fun c hc => ?_⟩
      rcases List.mem_cons.1 hc with rfl | hc
      · have w1 := wf_range wa
        have w2 := wf_range wb
        simp [IntKind.min, IntKind.max, IntKind.signed, IntKind.bits] at w1 w2
        exact ⟨⟨w1.1, by omega⟩, w2.1, by omega⟩
      · exact hk c hc
theorem tab_of (row : List AV) (h1 : row.length = 16) (h2 : ∀ (j : Nat) s a, tabSh[j]? = some s → row[j]? = some a → IsAV s a) : ∃ t : List (Int × Int), row = cellsT t ∧ t.length = 8 ∧ (∀ c ∈ t, K.U64 c.1 ∧ K.U16 c.2) := by
  refine tab_pairs 8 row h1 (fun j a hj e => h2 (2 * j) _ a ?_ e) (fun j a hj e => h2 (2 * j + 1) _ a ?_ e)
  all_goals (match j, hj with | 0, _ | 1, _ | 2, _ | 3, _ | 4, _ | 5, _ | 6, _ | 7, _ => rfl)
abbrev Im := Mk × ByteArray × List (Int × Int)
def imR (x : Im) : List AV := imC x.1 x.2.1 x.2.2
def ImOK (x : Im) : Prop := MkOK x.1 ∧ TOk x.2.2 ∧ x.2.1.size ≤ 9223372036854775807
def imSh : List Tsh := .int .u64 :: .int .u64 :: .str :: tabSh
theorem im_of (row : List AV) (h1 : row.length = 19) (h2 : ∀ (j : Nat) s a, imSh[j]? = some s → row[j]? = some a → IsAV s a) : ∃ x : Im, row = imR x ∧ ImOK x := by
  match row, h1 with
  | a :: b :: c :: r, h1 =>
    obtain ⟨n0, rfl, w0⟩ := av_int (h2 0 _ _ rfl rfl)
    obtain ⟨n1, rfl, w1⟩ := av_int (h2 1 _ _ rfl rfl)
    obtain ⟨s, rfl, hsz⟩ := av_str (h2 2 _ _ rfl rfl)
    obtain ⟨t, rfl, k1, k2⟩ := tab_of r (by simpa using h1) (fun j s a e1 e2 => h2 (j + 3) s a (by simpa [imSh] using e1) (by simpa using e2))
    have w0 := wf_range w0
    have w1 := wf_range w1
    simp [IntKind.min, IntKind.max, IntKind.signed, IntKind.bits] at w0 w1
    obtain ⟨m0, rfl⟩ : ∃ m : Nat, n0 = m := ⟨n0.toNat, by omega⟩
    obtain ⟨m1, rfl⟩ : ∃ m : Nat, n1 = m := ⟨n1.toNat, by omega⟩
    exact ⟨(⟨m0, m1⟩, s, t), rfl, ⟨by show m0 < _; omega, by show m1 < _; omega⟩, ⟨k1, k2⟩, by unfold maxLen at hsz; show s.size ≤ _; omega⟩
theorem otellsI (l : List En) (a d : Mk) (x : Im) (hl : l.length ≤ 9223372036854775807) (hok : ∀ e ∈ l, EnOK e) (ha : MkOK a) (hd : MkOK d) (hx : ImOK x) : ACalls Tryd.prog 3 [.ro 10 (l.map enR), .arr (mkRow a), .arr (mkRow d), .arr (imR x)] [] (fun r hs => r = .bool true ∧ hs = []) :=
  otells l a d x.1 x.2.1 x.2.2 hl hok ha hd hx.1 hx.2.2 hx.2.1
end Go.Proofs.YtlnafekmiidpkaaDoor.S
