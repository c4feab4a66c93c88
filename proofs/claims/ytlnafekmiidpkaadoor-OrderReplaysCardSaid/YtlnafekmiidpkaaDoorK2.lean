/- My own words for walks: the known blocks of the call's own, in one fact. -/
import Derived.Test.YtlnafekmiidpkaaDoorKs
import Derived.WalkKit
import Derived.WalkSpells
import Derived.Laws.CopyRow
import Derived.Laws.Rows
import Derived.Deep.Draws
import Derived.Orders
import Derived.Laws.StructEq
namespace Go.Proofs.YtlnafekmiidpkaaDoor.K
open Go.RowKit

/-- One known block: its number, its cells, its type. -/
structure Bk where
  g : Nat
  cs : Array Value
  t : TypeId

/-- Cells with others written over them from a place on. -/
def spl (cs : Array Value) (o : Nat) (vs : List Value) : Array Value := (cs.toList.take o ++ vs ++ cs.toList.drop (o + vs.length)).toArray

theorem spl_size (cs : Array Value) (o : Nat) (vs : List Value) (h : o + vs.length ≤ cs.size) : (spl cs o vs).size = cs.size := by
  simp [spl]; omega

/-- The world w, out of w0: the blocks L are known, each another, each from B on or in S; of what is below B, and not in S, nothing has turned. -/
structure Hp (B : Nat) (S : Nat → Prop) (w0 w : World) (L : List Bk) : Prop where
  os : w.os = w0.os
  tape : w.tape = w0.tape
  output : w.output = w0.output
  size0 : w0.heap.size ≤ w.heap.size
  size : B ≤ w.heap.size
  old : ∀ k, k < B → ¬ S k → w.heap[k]? = w0.heap[k]?
  at_ : ∀ (i : Nat) (b : Bk), L[i]? = some b → w.heap[b.g]? = some (.cells b.cs b.t (0, 0)) ∧ (B ≤ b.g ∨ S b.g)
  apart : ∀ (i j : Nat) (b c : Bk), L[i]? = some b → L[j]? = some c → b.g = c.g → i = j

section
variable {B : Nat} {S : Nat → Prop} {w0 w w1 : World} {L : List Bk} {b : Bk} {i : Nat}

theorem Hp.start (w : World) : Hp w.heap.size (fun _ => False) w w [] :=
  ⟨rfl, rfl, rfl, Nat.le_refl _, Nat.le_refl _, fun _ _ _ => rfl, fun _ _ h => by simp at h, fun _ _ _ _ h => by simp at h⟩

theorem Hp.below (h : Hp w0.heap.size (fun _ => False) w0 w L) : Below w0.heap.size w0 w :=
  ⟨h.os, h.tape, h.output, h.size0, fun k hk => h.old k hk (fun hf => hf)⟩

theorem Hp.lt (h : Hp B S w0 w L) (hi : L[i]? = some b) : b.g < w.heap.size := (Array.getElem?_eq_some_iff.1 (h.at_ i b hi).1).1

/-- What a call did that turned nothing that was there. -/
theorem Hp.call (h : Hp B S w0 w L) (hb : Below w.heap.size w w1) : Hp B S w0 w1 L :=
  ⟨hb.os.trans h.os, hb.tape.trans h.tape, hb.output.trans h.output, Nat.le_trans h.size0 hb.size, Nat.le_trans h.size hb.size,
    fun k hk hs => (hb.block k (Nat.lt_of_lt_of_le hk h.size)).trans (h.old k hk hs),
    fun i b hi => ⟨(hb.block _ (h.lt hi)).trans (h.at_ i b hi).1, (h.at_ i b hi).2⟩, h.apart⟩

theorem Hp.alloc (h : Hp B S w0 w L) (cs : Array Value) (t : TypeId) : Hp B S w0 (w.alloc (.cells cs t)) (L ++ [⟨w.heap.size, cs, t⟩]) := by
  have h1 := h.call ((Below.refl w.heap.size w).alloc (Nat.le_refl _) (.cells cs t))
  refine ⟨h1.os, h1.tape, h1.output, h1.size0, h1.size, h1.old, fun i b hi => ?_, fun i j b c hi hj e => ?_⟩
  · by_cases hl : i < L.length
    · rw [List.getElem?_append_left hl] at hi
      exact h1.at_ i b hi
    · rw [List.getElem?_append_right (by omega)] at hi
      obtain ⟨hz, rfl⟩ : i - L.length = 0 ∧ b = ⟨w.heap.size, cs, t⟩ := by
        cases hq : i - L.length with
        | zero => rw [hq] at hi; simp at hi; exact ⟨rfl, hi.symm⟩
        | succ n => rw [hq] at hi; simp at hi
      exact ⟨heap_alloc_new _ _, .inl h.size⟩
  · by_cases hl : i < L.length <;> by_cases hm : j < L.length
    · rw [List.getElem?_append_left hl] at hi
      rw [List.getElem?_append_left hm] at hj
      exact h.apart i j b c hi hj e
    · rw [List.getElem?_append_left hl] at hi
      rw [List.getElem?_append_right (by omega)] at hj
      cases hq : j - L.length with
      | zero => rw [hq] at hj; simp at hj; subst hj; have := h.lt hi; simp at e; omega
      | succ n => rw [hq] at hj; simp at hj
    · rw [List.getElem?_append_right (by omega)] at hi
      rw [List.getElem?_append_left hm] at hj
      cases hq : i - L.length with
      | zero => rw [hq] at hi; simp at hi; subst hi; have := h.lt hj; simp at e; omega
      | succ n => rw [hq] at hi; simp at hi
    · have h2 := (List.getElem?_eq_some_iff.1 hi).1
      have h3 := (List.getElem?_eq_some_iff.1 hj).1
      simp at h2 h3
      omega

theorem Hp.take {M : List Bk} (h : Hp B S w0 w (L ++ M)) : Hp B S w0 w L := by
  refine ⟨h.os, h.tape, h.output, h.size0, h.size, h.old, fun i b hi => h.at_ i b ?_, fun i j b c hi hj => h.apart i j b c ?_ ?_⟩ <;>
    (rw [List.getElem?_append_left (List.getElem?_eq_some_iff.1 (by assumption)).1]; assumption)
theorem Hp.swap {b c : Bk} (h : Hp B S w0 w (L ++ [b, c])) : Hp B S w0 w (L ++ [c, b]) := by
  have key : ∀ (i : Nat) d, (L ++ [c, b])[i]? = some d → ∃ j, (L ++ [b, c])[j]? = some d ∧ (i < L.length → j = i) ∧ (i = L.length → j = L.length + 1) ∧ (i = L.length + 1 → j = L.length) ∧ i < L.length + 2 := by
    intro i d hi
    by_cases h1 : i < L.length
    · rw [List.getElem?_append_left h1] at hi
      exact ⟨i, by rw [List.getElem?_append_left h1]; exact hi, by omega, by omega, by omega, by omega⟩
    · rw [List.getElem?_append_right (by omega)] at hi
      have h2 : i - L.length < 2 := by simpa using (List.getElem?_eq_some_iff.1 hi).1
      rcases (show i - L.length = 0 ∨ i - L.length = 1 by omega) with e | e
      · rw [e] at hi
        refine ⟨L.length + 1, ?_, by omega, by omega, by omega, by omega⟩
        rw [List.getElem?_append_right (by omega)]
        simpa using hi
      · rw [e] at hi
        refine ⟨L.length, ?_, by omega, by omega, by omega, by omega⟩
        rw [List.getElem?_append_right (by omega)]
        simpa using hi
  refine ⟨h.os, h.tape, h.output, h.size0, h.size, h.old, fun i d hi => ?_, fun i j d e hi hj hg => ?_⟩
  · obtain ⟨j, hj, _⟩ := key i d hi
    exact h.at_ j d hj
  · obtain ⟨i', hi', a1, a2, a3, a4⟩ := key i d hi
    obtain ⟨j', hj', b1, b2, b3, b4⟩ := key j e hj
    have := h.apart i' j' d e hi' hj' hg
    omega
theorem Hp.drew (h : Hp B S w0 w L) : Hp B S w0 w.drew L := ⟨h.os, h.tape, h.output, h.size0, h.size, h.old, h.at_, h.apart⟩
theorem Hp.drewN (h : Hp B S w0 w L) (n : Nat) : Hp B S w0 (w.drewN n) L := ⟨h.os, h.tape, h.output, h.size0, h.size, h.old, h.at_, h.apart⟩

theorem Hp.setRow (h : Hp B S w0 w L) (hi : L[i]? = some b) (cs : Array Value) : Hp B S w0 (w.setRow b.g cs) (L.set i ⟨b.g, cs, b.t⟩) := by
  have hin := (h.at_ i b hi).1
  refine ⟨h.os, h.tape, h.output, by simpa using h.size0, by simpa using h.size, fun k hk hs => ?_, fun j c hj => ?_, fun j k c d hj hk e => ?_⟩
  · rw [setRow_other w b.g k cs (fun e => by rcases (h.at_ i b hi).2 with h2 | h2; · omega
                                             · exact hs (e ▸ h2))]
    exact h.old k hk hs
  · by_cases hij : i = j
    · subst hij
      rw [List.getElem?_set_self (List.getElem?_eq_some_iff.1 hi).1] at hj
      injection hj with hj
      subst hj
      exact ⟨setRow_heap w b.g b.cs cs b.t (0, 0) hin, (h.at_ i b hi).2⟩
    · rw [List.getElem?_set_ne hij] at hj
      refine ⟨?_, (h.at_ j c hj).2⟩
      rw [setRow_other w b.g c.g cs (fun e => hij (h.apart i j b c hi hj e.symm))]
      exact (h.at_ j c hj).1
  · have pick : ∀ (j : Nat) c, (L.set i ⟨b.g, cs, b.t⟩)[j]? = some c → ∃ c', L[j]? = some c' ∧ c'.g = c.g := by
      intro j c hj
      by_cases hij : i = j
      · subst hij
        rw [List.getElem?_set_self (List.getElem?_eq_some_iff.1 hi).1] at hj
        injection hj with hj
        subst hj
        exact ⟨b, hi, rfl⟩
      · rw [List.getElem?_set_ne hij] at hj
        exact ⟨c, hj, rfl⟩
    obtain ⟨c', hc', e1⟩ := pick j c hj
    obtain ⟨d', hd', e2⟩ := pick k d hk
    exact h.apart j k c' d' hc' hd' (by rw [e1, e2, e])

theorem Hp.cell (h : Hp B S w0 w L) {i : Nat} (hi : L[i]? = some b) (off : Nat) : w.cell? ⟨b.g, off, none⟩ = b.cs[off]? := cell_of_row w b.g off b.cs b.t (0, 0) (h.at_ i b hi).1

theorem Hp.oldcell (h : Hp B S w0 w L) {ad : Addr} {v : Value} (hc : w0.cell? ad = some v) (hlt : ad.block < B) (hs : ¬ S ad.block) : w.cell? ad = some v :=
  (World.cell?_of_block (w := w0) (h.old ad.block hlt hs)).trans hc

/-- A cell that was there when the call began. -/
theorem Hp.was (h : Hp w0.heap.size (fun _ => False) w0 w L) {ad : Addr} {v : Value} (hc : w0.cell? ad = some v) : w.cell? ad = some v :=
  h.oldcell hc (World.block_lt_of_cell? w0 _ hc) (fun hf => hf)
end

/-! ### Steps of a walk. -/
section
variable {P : Program} {ops : Array Oper} {rest : List Oper} {o : Oper} {a : Act} {Q : Exit → Act → World → Prop}
variable {B : Nat} {S : Nat → Prop} {w0 w : World} {L : List Bk} {b : Bk}

theorem wanted_step (hw : Region.wanted o (yielded ops a.tmps) = true) (h : ∀ K : Act → World → Prop, (∀ a w, wpList P ops Q rest a w → K a w) → o.wp P a w K Q) : wpList P ops Q (o :: rest) a w :=
  wpList_step fun K hK => by rw [if_pos hw]; exact h K hK

theorem ret_b {x y : Bool} (h : x = true ↔ y = true) : Ending.returned (.bool x) = .returned (.bool y) := by rw [Bool.eq_iff_iff.2 h]
theorem ret_i {k : IntKind} {x y : Int} (h : x = y) : Ending.returned (.int k x) = .returned (.int k y) := by rw [h]
def U64 (x : Int) : Prop := 0 ≤ x ∧ x ≤ 18446744073709551615
def U32 (x : Int) : Prop := 0 ≤ x ∧ x ≤ 4294967295
def U16 (x : Int) : Prop := 0 ≤ x ∧ x ≤ 65535
def U8 (x : Int) : Prop := 0 ≤ x ∧ x ≤ 255
def I64 (x : Int) : Prop := -9223372036854775808 ≤ x ∧ x ≤ 9223372036854775807

/-- The walk stands still here. -/
structure Stopped (p : Prop) : Prop where mk :: (out : p)
theorem k_stop {op : Op} (_ho : o.op = op) (h : Stopped (wpList P ops Q (o :: rest) a w)) : wpList P ops Q (o :: rest) a w := h.out

/-- The operation that is next, by its text alone: an arm that is not for it fails at once. -/
theorem is_load {dst : Option Tmp} {t' : TypeId} {pos : String} {af : Array Edge} (ty : TypeId) (x : Operand) (h : wpList P ops Q (⟨dst, .load ty x, t', pos, af, none⟩ :: rest) a w) : wpList P ops Q (⟨dst, .load ty x, t', pos, af, none⟩ :: rest) a w := h
theorem is_store {dst : Option Tmp} {t' : TypeId} {pos : String} {af : Array Edge} (ty : TypeId) (x y : Operand) (h : wpList P ops Q (⟨dst, .store ty x y, t', pos, af, none⟩ :: rest) a w) : wpList P ops Q (⟨dst, .store ty x y, t', pos, af, none⟩ :: rest) a w := h
/-- A guarded operation that is not wanted; one that is. -/
theorem g_skip {dst : Option Tmp} {op : Op} {t' : TypeId} {pos : String} {af : Array Edge} {j : Nat} {b : Bool} (hw : Region.wanted ⟨dst, op, t', pos, af, some (j, b)⟩ (yielded ops a.tmps) = false) (h : wpList P ops Q rest (a.put dst undef) w) : wpList P ops Q (⟨dst, op, t', pos, af, some (j, b)⟩ :: rest) a w := by
  unfold wpList
  rw [if_neg (by rw [hw]; exact Bool.false_ne_true)]
  exact h
theorem g_go {dst : Option Tmp} {op : Op} {t' : TypeId} {pos : String} {af : Array Edge} {j : Nat} {b : Bool} (hw : Region.wanted ⟨dst, op, t', pos, af, some (j, b)⟩ (yielded ops a.tmps) = true) (h : wpList P ops Q (⟨dst, op, t', pos, af, none⟩ :: rest) a w) : wpList P ops Q (⟨dst, op, t', pos, af, some (j, b)⟩ :: rest) a w := by
  unfold wpList at h ⊢
  rw [if_pos hw]
  have e : Region.wanted ⟨dst, op, t', pos, af, none⟩ (yielded ops a.tmps) = true := rfl
  rw [if_pos e] at h
  exact h
theorem is_one (h : wpList P ops Q [o] a w) : wpList P ops Q [o] a w := h
theorem is_wp (h : wpList P ops Q (o :: rest) a w) : wpList P ops Q (o :: rest) a w := h
/-- A new block: the world gets a name. -/
theorem kn0 {K : Act → World → Prop} {cs : Array Value} {t : TypeId} (H : Hp B S w0 w []) (h : ∀ g w1, g = w.heap.size → Hp B S w0 w1 [⟨g, cs, t⟩] → K a w1) : K a (w.alloc (.cells cs t)) := h _ _ rfl (H.alloc cs t)
theorem kn1 {K : Act → World → Prop} {b0 : Bk} {cs : Array Value} {t : TypeId} (H : Hp B S w0 w [b0]) (h : ∀ g w1, g = w.heap.size → Hp B S w0 w1 [b0, ⟨g, cs, t⟩] → K a w1) : K a (w.alloc (.cells cs t)) := h _ _ rfl (H.alloc cs t)
theorem kn2 {K : Act → World → Prop} {b0 : Bk} {b1 : Bk} {cs : Array Value} {t : TypeId} (H : Hp B S w0 w [b0, b1]) (h : ∀ g w1, g = w.heap.size → Hp B S w0 w1 [b0, b1, ⟨g, cs, t⟩] → K a w1) : K a (w.alloc (.cells cs t)) := h _ _ rfl (H.alloc cs t)
theorem kn3 {K : Act → World → Prop} {b0 : Bk} {b1 : Bk} {b2 : Bk} {cs : Array Value} {t : TypeId} (H : Hp B S w0 w [b0, b1, b2]) (h : ∀ g w1, g = w.heap.size → Hp B S w0 w1 [b0, b1, b2, ⟨g, cs, t⟩] → K a w1) : K a (w.alloc (.cells cs t)) := h _ _ rfl (H.alloc cs t)
theorem kn4 {K : Act → World → Prop} {b0 : Bk} {b1 : Bk} {b2 : Bk} {b3 : Bk} {cs : Array Value} {t : TypeId} (H : Hp B S w0 w [b0, b1, b2, b3]) (h : ∀ g w1, g = w.heap.size → Hp B S w0 w1 [b0, b1, b2, b3, ⟨g, cs, t⟩] → K a w1) : K a (w.alloc (.cells cs t)) := h _ _ rfl (H.alloc cs t)
theorem kn5 {K : Act → World → Prop} {b0 : Bk} {b1 : Bk} {b2 : Bk} {b3 : Bk} {b4 : Bk} {cs : Array Value} {t : TypeId} (H : Hp B S w0 w [b0, b1, b2, b3, b4]) (h : ∀ g w1, g = w.heap.size → Hp B S w0 w1 [b0, b1, b2, b3, b4, ⟨g, cs, t⟩] → K a w1) : K a (w.alloc (.cells cs t)) := h _ _ rfl (H.alloc cs t)
theorem kn6 {K : Act → World → Prop} {b0 : Bk} {b1 : Bk} {b2 : Bk} {b3 : Bk} {b4 : Bk} {b5 : Bk} {cs : Array Value} {t : TypeId} (H : Hp B S w0 w [b0, b1, b2, b3, b4, b5]) (h : ∀ g w1, g = w.heap.size → Hp B S w0 w1 [b0, b1, b2, b3, b4, b5, ⟨g, cs, t⟩] → K a w1) : K a (w.alloc (.cells cs t)) := h _ _ rfl (H.alloc cs t)
theorem kn7 {K : Act → World → Prop} {b0 : Bk} {b1 : Bk} {b2 : Bk} {b3 : Bk} {b4 : Bk} {b5 : Bk} {b6 : Bk} {cs : Array Value} {t : TypeId} (H : Hp B S w0 w [b0, b1, b2, b3, b4, b5, b6]) (h : ∀ g w1, g = w.heap.size → Hp B S w0 w1 [b0, b1, b2, b3, b4, b5, b6, ⟨g, cs, t⟩] → K a w1) : K a (w.alloc (.cells cs t)) := h _ _ rfl (H.alloc cs t)
theorem kn8 {K : Act → World → Prop} {b0 : Bk} {b1 : Bk} {b2 : Bk} {b3 : Bk} {b4 : Bk} {b5 : Bk} {b6 : Bk} {b7 : Bk} {cs : Array Value} {t : TypeId} (H : Hp B S w0 w [b0, b1, b2, b3, b4, b5, b6, b7]) (h : ∀ g w1, g = w.heap.size → Hp B S w0 w1 [b0, b1, b2, b3, b4, b5, b6, b7, ⟨g, cs, t⟩] → K a w1) : K a (w.alloc (.cells cs t)) := h _ _ rfl (H.alloc cs t)

theorem run_one (H : Hp B S w0 w L) {i : Nat} (hi : L[i]? = some b) (ty : TypeId) (off : Nat) (d : TypeDesc) (hu : P.underlying ty = some d) (hd : (match d with | .struct _ | .array _ _ => true | _ => false) = false) (v : Value) (hv : b.cs[off]? = some v) :
    (loadVar ty ⟨b.g, off, none⟩).run P w = .ok v w := by
  have hc : w.cell? ⟨b.g, off, none⟩ = some v := by rw [cell_of_row w b.g off b.cs b.t (0, 0) (H.at_ i b hi).1]; exact hv
  have hagg : (isAgg ty).run P w = .ok false w := by
    unfold isAgg
    rw [Sem.run_bind, run_underlying hu w]
    cases d <;> simp_all
  simp [loadVar, Sem.run_bind, hagg, hc, load, Sem.run]

theorem run_seg (H : Hp B S w0 w L) {i : Nat} (hi : L[i]? = some b) (ty : TypeId) (off : Nat) (d : TypeDesc) (hu : P.underlying ty = some d) (hd : (match d with | .struct _ | .array _ _ => true | _ => false) = true) (n : Nat) (hn : (P.info? ty).map (·.size) = some n)
    (seg : List Value) (hs : seg.length = n) (hv : ∀ j v, seg[j]? = some v → b.cs[off + j]? = some v) :
    (loadVar ty ⟨b.g, off, none⟩).run P w = .ok (.agg seg.toArray) w := by
  subst hs
  have hl : (loadCells ⟨b.g, off, none⟩ seg.length).run P w = .ok seg.toArray w :=
    run_loadCells_list (P := P) w ⟨b.g, off, none⟩ seg (fun j v hj => by
      have hadd : (⟨b.g, off, none⟩ : Addr).add j = ⟨b.g, off + j, none⟩ := by unfold Addr.add; split <;> simp_all
      rw [hadd, cell_of_row w b.g (off + j) b.cs b.t (0, 0) (H.at_ i b hi).1]
      exact hv j v hj)
  cases hq : P.info? ty with
  | none => simp [hq] at hn
  | some i =>
    have hs : i.size = seg.length := by simpa [hq] using hn
    have hagg : (isAgg ty).run P w = .ok true w := by
      unfold isAgg
      rw [Sem.run_bind, run_underlying hu w]
      cases d <;> simp_all
    simp [loadVar, Sem.run_bind, hagg, sizeOf, typeInfo, hq, hs, hl]

/-- A load of one cell out of a known block. -/
theorem k_load (H : Hp B S w0 w L) (i : Nat) (hi : L[i]? = some b) (ty : TypeId) (x : Operand) (ho : o.op = .load ty x) (hw : Region.wanted o (yielded ops a.tmps) = true) (off : Nat)
    (hx : a.eval x = .pointer (some ⟨b.g, off, none⟩)) (d : TypeDesc) (hu : P.underlying ty = some d) (hd : (match d with | .struct _ | .array _ _ => true | _ => false) = false) (v : Value) (hv : b.cs[off]? = some v)
    (h : wpList P ops Q rest (a.put o.dst v) w) : wpList P ops Q (o :: rest) a w := by
  refine wanted_step hw fun K hK => ?_
  unfold Oper.wp execOp
  simp only [ho, hx, Instr.loadAt, Instr.sureAddr, Sem.run_bind, Sem.run_pure, Result.andThen_ok, run_one H hi ty off d hu hd v hv]
  exact hK _ _ h

/-- A load of one cell that was there when the call began. -/
theorem k_was {w0 w : World} {L : List Bk} (H : Hp w0.heap.size (fun _ => False) w0 w L) {ad : Addr} {v : Value} (hc : w0.cell? ad = some v) (ty : TypeId) (x : Operand) (ho : o.op = .load ty x) (hw : Region.wanted o (yielded ops a.tmps) = true)
    (hx : a.eval x = .pointer (some ad)) (d : TypeDesc) (hu : P.underlying ty = some d) (hd : (match d with | .struct _ | .array _ _ => true | _ => false) = false)
    (h : wpList P ops Q rest (a.put o.dst v) w) : wpList P ops Q (o :: rest) a w := by
  refine wanted_step hw fun K hK => ?_
  have hc1 := H.was hc
  have hagg : (isAgg ty).run P w = .ok false w := by
    unfold isAgg
    rw [Sem.run_bind, run_underlying hu w]
    cases d <;> simp_all
  have hrun : (loadVar ty ad).run P w = .ok v w := by simp [loadVar, Sem.run_bind, hagg, hc1, load, Sem.run]
  unfold Oper.wp execOp
  simp only [ho, hx, Instr.loadAt, Instr.sureAddr, Sem.run_bind, Sem.run_pure, Result.andThen_ok, hrun]
  exact hK _ _ h

/-- A load of several cells. -/
theorem k_seg (H : Hp B S w0 w L) (i : Nat) (hi : L[i]? = some b) (ty : TypeId) (x : Operand) (ho : o.op = .load ty x) (hw : Region.wanted o (yielded ops a.tmps) = true) (off : Nat)
    (hx : a.eval x = .pointer (some ⟨b.g, off, none⟩)) (d : TypeDesc) (hu : P.underlying ty = some d) (hd : (match d with | .struct _ | .array _ _ => true | _ => false) = true) (n : Nat) (hn : (P.info? ty).map (·.size) = some n)
    (seg : List Value) (hs : seg.length = n) (hv : ∀ j v, seg[j]? = some v → b.cs[off + j]? = some v)
    (h : wpList P ops Q rest (a.put o.dst (.agg seg.toArray)) w) : wpList P ops Q (o :: rest) a w := by
  refine wanted_step hw fun K hK => ?_
  unfold Oper.wp execOp
  simp only [ho, hx, Instr.loadAt, Instr.sureAddr, Sem.run_bind, Sem.run_pure, Result.andThen_ok, run_seg H hi ty off d hu hd n hn seg hs hv]
  exact hK _ _ h

theorem run_segw {w : World} (ty : TypeId) (ad : Addr) (d : TypeDesc) (hu : P.underlying ty = some d) (hd : (match d with | .struct _ | .array _ _ => true | _ => false) = true) (n : Nat) (hn : (P.info? ty).map (·.size) = some n)
    (seg : List Value) (hs : seg.length = n) (hv : ∀ j v, seg[j]? = some v → w.cell? (ad.add j) = some v) :
    (loadVar ty ad).run P w = .ok (.agg seg.toArray) w := by
  subst hs
  have hl : (loadCells ad seg.length).run P w = .ok seg.toArray w := run_loadCells_list (P := P) w ad seg hv
  cases hq : P.info? ty with
  | none => simp [hq] at hn
  | some i =>
    have hs : i.size = seg.length := by simpa [hq] using hn
    have hagg : (isAgg ty).run P w = .ok true w := by
      unfold isAgg
      rw [Sem.run_bind, run_underlying hu w]
      cases d <;> simp_all
    simp [loadVar, Sem.run_bind, hagg, sizeOf, typeInfo, hq, hs, hl]
/-- A load of several cells, wherever they lie. -/
theorem k_segw {w : World} (ty : TypeId) (x : Operand) (ho : o.op = .load ty x) (hw : Region.wanted o (yielded ops a.tmps) = true) {ad : Addr}
    (hx : a.eval x = .pointer (some ad)) (d : TypeDesc) (hu : P.underlying ty = some d) (hd : (match d with | .struct _ | .array _ _ => true | _ => false) = true) (n : Nat) (hn : (P.info? ty).map (·.size) = some n)
    (seg : List Value) (hs : seg.length = n) (hv : ∀ j v, seg[j]? = some v → w.cell? (ad.add j) = some v)
    (h : wpList P ops Q rest (a.put o.dst (.agg seg.toArray)) w) : wpList P ops Q (o :: rest) a w := by
  refine wanted_step hw fun K hK => ?_
  unfold Oper.wp execOp
  simp only [ho, hx, Instr.loadAt, Instr.sureAddr, Sem.run_bind, Sem.run_pure, Result.andThen_ok, run_segw ty ad d hu hd n hn seg hs hv]
  exact hK _ _ h

/-- A load of a whole block. -/
theorem k_row (H : Hp B S w0 w L) (i : Nat) (hi : L[i]? = some b) (ty : TypeId) (x : Operand) (ho : o.op = .load ty x) (hw : Region.wanted o (yielded ops a.tmps) = true)
    (hx : a.eval x = .pointer (some ⟨b.g, 0, none⟩)) (d : TypeDesc) (hu : P.underlying ty = some d) (hd : (match d with | .struct _ | .array _ _ => true | _ => false) = true) (hn : (P.info? ty).map (·.size) = some b.cs.size)
    (h : wpList P ops Q rest (a.put o.dst (.agg b.cs)) w) : wpList P ops Q (o :: rest) a w :=
  k_seg H i hi ty x ho hw 0 hx d hu hd b.cs.size hn b.cs.toList (by simp) (fun j v hj => by simpa using hj) (by simpa using h)

/-- A store into a known block. -/
theorem k_store (H : Hp B S w0 w L) (i : Nat) (hi : L[i]? = some b) (ty : TypeId) (x y : Operand) (ho : o.op = .store ty x y) (hN : o.dst = none) (hw : Region.wanted o (yielded ops a.tmps) = true) (off : Nat)
    (hx : a.eval x = .pointer (some ⟨b.g, off, none⟩)) (v : Value) (hy : a.eval y = v) (hn : (P.info? ty).map (·.size) = some v.cells.size) (hl : off + v.cells.size ≤ b.cs.size) (h1 : ∀ u ∈ v.cells.toList, u.oneCell' = true) (cs' : Array Value) (hcs : spl b.cs off v.cells.toList = cs')
    (h : ∀ w1, Hp B S w0 w1 (L.set i ⟨b.g, cs', b.t⟩) → wpList P ops Q rest a w1) : wpList P ops Q (o :: rest) a w := by
  subst hcs
  refine wanted_step hw fun K hK => ?_
  have hst := run_storeCells_at P b.g off b.t v.cells.toList 0 b.cs w (H.at_ i b hi).1 (by simpa using hl) h1
  cases hq : P.info? ty with
  | none => simp [hq] at hn
  | some inf =>
    have hs : inf.size = v.cells.size := by simpa [hq] using hn
    have hrun : (storeVar ty ⟨b.g, off, none⟩ v).run P w = .ok () (w.setRow b.g (spl b.cs off v.cells.toList)) := by
      simp [storeVar, Sem.run_bind, sizeOf, typeInfo, hq, hs, hst, spl]
    unfold Oper.wp execOp
    simp only [ho, hx, hy, Instr.storeAt, Instr.sureAddr, Sem.run_bind, Sem.run_pure, Result.andThen_ok, hrun]
    have := hK _ _ (h _ (H.setRow hi (spl b.cs off v.cells.toList)))
    simpa [Oper.upon, Act.put, hN] using this

/-- A store over a whole block. -/
theorem k_over (H : Hp B S w0 w L) (i : Nat) (hi : L[i]? = some b) (ty : TypeId) (x y : Operand) (ho : o.op = .store ty x y) (hN : o.dst = none) (hw : Region.wanted o (yielded ops a.tmps) = true)
    (hx : a.eval x = .pointer (some ⟨b.g, 0, none⟩)) (cs : Array Value) (hy : a.eval y = .agg cs) (hn : (P.info? ty).map (·.size) = some cs.size) (hl : cs.size = b.cs.size) (h1 : ∀ u ∈ cs.toList, u.oneCell' = true)
    (h : ∀ w1, Hp B S w0 w1 (L.set i ⟨b.g, cs, b.t⟩) → wpList P ops Q rest a w1) : wpList P ops Q (o :: rest) a w := by
  refine k_store H i hi ty x y ho hN hw 0 hx (.agg cs) hy hn (by simpa [Value.cells] using Nat.le_of_eq hl) h1 cs ?_ h
  have e : spl b.cs 0 (Value.agg cs).cells.toList = cs := by
    have : b.cs.toList.drop cs.size = [] := List.drop_eq_nil_of_le (by simp; omega)
    simp [spl, Value.cells, this]
  exact e
end
/-! ### '==' of arrays. -/
section
variable {P : Program}
theorem eqIn_array (w : World) (d : Nat) (t : TypeId) (xs ys : Array Value) (len : Nat) (elem : TypeId) (n : Nat) (ht : P.underlying t = some (.array len elem)) (hn : (P.info? elem).map (·.size) = some n)
    (px py : Nat → Value) (q : Nat → Bool) (hx : ∀ i, i < len → (part elem xs (i * n)).run P w = .ok (px i) w) (hy : ∀ i, i < len → (part elem ys (i * n)).run P w = .ok (py i) w)
    (he : ∀ i, i < len → (Op.equalIn d elem (px i) (py i)).run P w = .ok (q i) w) :
    (Op.equalIn (d + 1) t (.agg xs) (.agg ys)).run P w = .ok ((List.range len).all q) w := by
  simp only [Op.equalIn, Sem.run_bind, run_underlying ht, Result.andThen_ok]
  have hs : (sizeOf elem).run P w = .ok n w := by
    cases hq : P.info? elem with
    | none => simp [hq] at hn
    | some i =>
      have : i.size = n := by simpa [hq] using hn
      simp [sizeOf, Sem.run_bind, typeInfo, hq, this]
  rw [hs, Result.andThen_ok, Std.Legacy.Range.forIn_eq_forIn_range']
  simp only [Std.Legacy.Range.size, Nat.sub_zero, Nat.add_sub_cancel, Nat.div_one]
  rw [← List.range_eq_range']
  have hl : ∀ i ∈ List.range len, i < len := fun i hi => List.mem_range.1 hi
  generalize List.range len = l at hl ⊢
  induction l with
  | nil => simp
  | cons i l ih =>
    have hi := hl i (by simp)
    simp only [List.forIn_cons, Sem.run_bind, hx i hi, hy i hi, he i hi, Result.andThen_ok, List.all_cons]
    cases hq : q i with
    | false => simp
    | true =>
      simp only [Bool.not_true, Bool.false_eq_true, if_false, Sem.run_pure, Result.andThen_ok, Bool.true_and]
      exact ih (fun j hj => hl j (by simp [hj]))
theorem run_part_agg (w : World) (t : TypeId) (d : TypeDesc) (hu : P.underlying t = some d) (hd : (match d with | .struct _ | .array _ _ => true | _ => false) = true) (n : Nat) (hn : (P.info? t).map (·.size) = some n) (xs : Array Value) (off : Nat) :
    (part t xs off).run P w = .ok (.agg (xs.extract off (off + n))) w := by
  have hs : (sizeOf t).run P w = .ok n w := by
    cases hq : P.info? t with
    | none => simp [hq] at hn
    | some i =>
      have : i.size = n := by simpa [hq] using hn
      simp [sizeOf, Sem.run_bind, typeInfo, hq, this]
  have hagg : (isAgg t).run P w = .ok true w := by
    unfold isAgg
    rw [Sem.run_bind, run_underlying hu w]
    cases d <;> simp_all
  simp [part, Sem.run_bind, hagg, hs]
theorem run_part_one (w : World) (t : TypeId) (d : TypeDesc) (hu : P.underlying t = some d) (hd : (match d with | .struct _ | .array _ _ => true | _ => false) = false) (xs : Array Value) (off : Nat) (v : Value) (hv : xs[off]? = some v) :
    (part t xs off).run P w = .ok v w := by
  have hagg : (isAgg t).run P w = .ok false w := by
    unfold isAgg
    rw [Sem.run_bind, run_underlying hu w]
    cases d <;> simp_all
  simp [part, Sem.run_bind, hagg, hv]
end
/-! ### '==' of structs, field by field. -/
section
variable {P : Program} {d : Nat} {xs ys : Array Value} {f : Field} {fs : List Field} {u v : Value} {p q : Bool} {w : World}
theorem sf_cons (hn : (f.name == "_") = false) (hx : (part f.type xs f.offset).run P w = .ok u w) (hy : (part f.type ys f.offset).run P w = .ok v w) (he : (Op.equalIn d f.type u v).run P w = .ok p w) (hr : (Op.eqFields d xs ys fs).run P w = .ok q w) :
    (Op.eqFields d xs ys (f :: fs)).run P w = .ok (p && q) w := by
  have hn' : f.name ≠ "_" := by simpa using hn
  unfold Op.eqFields
  simp only [if_pos hn', Sem.run_bind, hx, hy, he, Result.andThen_ok]
  cases p
  · simp
  · simpa using hr
theorem sf_nil : (Op.eqFields d xs ys []).run P w = .ok true w := by simp [Op.eqFields]
theorem eqIn_struct {t : TypeId} {fs : Array Field} (hu : P.underlying t = some (.struct fs)) (hp : P.stoodInHeld t = false) (h : (Op.eqFields d xs ys fs.toList).run P w = .ok p w) : (Op.equalIn (d + 1) t (.agg xs) (.agg ys)).run P w = .ok p w := by
  have hf : P.fieldsOf t = fs := by simp [Program.fieldsOf, hu]
  rw [run_equalIn_struct (P := P) w d t xs ys (by rw [hf]; exact hu) hp, hf]
  exact h
end
theorem one_i (k : IntKind) (x : Int) : ∀ u ∈ (Value.int k x).cells.toList, u.oneCell' = true := by intro u hu; simp [Value.cells] at hu; subst hu; rfl
theorem one_b (x : Bool) : ∀ u ∈ (Value.bool x).cells.toList, u.oneCell' = true := by intro u hu; simp [Value.cells] at hu; subst hu; rfl
theorem one_ii (k k' : IntKind) (x y : Int) : ∀ u ∈ (Value.agg #[.int k x, .int k' y]).cells.toList, u.oneCell' = true := by intro u hu; simp [Value.cells] at hu; rcases hu with rfl | rfl <;> rfl

theorem kmax2 (k k' : IntKind) (x y : Int) : Builtin.max2 (.int k x) (.int k' y) = pure (.int k (if x < y then y else x)) := by simp only [Builtin.max2, gt_iff_lt]
theorem kmin2 (k k' : IntKind) (x y : Int) : Builtin.min2 (.int k x) (.int k' y) = pure (.int k (if y < x then y else x)) := by simp only [Builtin.min2]

theorem kmax_two (ats : Array TypeId) (ty : TypeId) (a b : Value) : Builtin.max_ ats ty #[a, b] = (Builtin.max2 a b >>= fun s => pure s) := rfl
theorem kmin_two (ats : Array TypeId) (ty : TypeId) (a b : Value) : Builtin.min_ ats ty #[a, b] = (Builtin.min2 a b >>= fun s => pure s) := rfl
theorem p2 (j : Nat) : (0 : Int) < 2 ^ j := Int.pow_pos (by decide)

/-! ### Results. -/
section
variable {P : Program} {fn : Func} {tmps : Array Value} {B : Nat} {S : Nat → Prop} {w0 w : World} {L : List Bk} {b : Bk}
/-- What a result's place holds. -/
def RV (P : Program) (tmps : Array Value) (w : World) : ResultVar → Value → Prop
  | .tmp t, v => tmps.getD t undef = v
  | .cell p ty, v => ∃ ad, tmps.getD p undef = .pointer (some ad) ∧ (loadVar ty ad).run P w = .ok v w
theorem rv_tmp (t : Tmp) : RV P tmps w (.tmp t) (tmps.getD t undef) := rfl
theorem rv_row (H : Hp B S w0 w L) (i : Nat) (hi : L[i]? = some b) {p : Tmp} {ty : TypeId} (hp : tmps.getD p undef = .pointer (some ⟨b.g, 0, none⟩)) {d : TypeDesc} (hu : P.underlying ty = some d) (hd : (match d with | .struct _ | .array _ _ => true | _ => false) = true) (hn : (P.info? ty).map (·.size) = some b.cs.size) :
    RV P tmps w (.cell p ty) (.agg b.cs) :=
  ⟨_, hp, by simpa using run_seg H hi ty 0 d hu hd b.cs.size hn b.cs.toList (by simp) (fun j v hj => by simpa using hj)⟩
theorem rv_one (H : Hp B S w0 w L) (i : Nat) (hi : L[i]? = some b) {p : Tmp} {ty : TypeId} (hp : tmps.getD p undef = .pointer (some ⟨b.g, 0, none⟩)) {d : TypeDesc} (hu : P.underlying ty = some d) (hd : (match d with | .struct _ | .array _ _ => true | _ => false) = false) {v : Value} (hv : b.cs[0]? = some v) :
    RV P tmps w (.cell p ty) v :=
  ⟨_, hp, run_one H hi ty 0 d hu hd v hv⟩
theorem rv_unt {t : Tmp} {v : Value} (h : RV P tmps w (.tmp t) v) : tmps[t]?.getD undef = v := by simpa [RV] using h
theorem rv_unc {p : Tmp} {ty : TypeId} {v : Value} (h : RV P tmps w (.cell p ty) v) : ∃ ad, tmps[p]?.getD undef = .pointer (some ad) ∧ (loadVar ty ad).run P w = .ok v w := by simpa [RV] using h
theorem res1 {r : ResultVar} {v : Value} (h : fn.results = #[r]) (h1 : RV P tmps w r v) : (results fn tmps).run P w = .ok v w := by
  cases r with
  | tmp t => simp [results, h, rv_unt h1]
  | cell p ty => obtain ⟨ad, e, e'⟩ := rv_unc h1; simp [results, h, e, e', asAddr]
theorem res2 {r s : ResultVar} {v u : Value} (h : fn.results = #[r, s]) (h1 : RV P tmps w r v) (h2 : RV P tmps w s u) : (results fn tmps).run P w = .ok (.tuple #[v, u]) w := by
  cases r with
  | tmp t =>
    cases s with
    | tmp t' => simp [results, h, rv_unt h1, rv_unt h2]
    | cell p ty => obtain ⟨ad, e, e'⟩ := rv_unc h2; simp [results, h, rv_unt h1, e, e', asAddr]
  | cell p ty =>
    obtain ⟨ad, e, e'⟩ := rv_unc h1
    cases s with
    | tmp t' => simp [results, h, e, e', rv_unt h2, asAddr]
    | cell p ty => obtain ⟨ad, f, f'⟩ := rv_unc h2; simp [results, h, e, e', f, f', asAddr]
theorem res3 {r s q : ResultVar} {v u x : Value} (h : fn.results = #[r, s, q]) (h1 : RV P tmps w r v) (h2 : RV P tmps w s u) (h3 : RV P tmps w q x) : (results fn tmps).run P w = .ok (.tuple #[v, u, x]) w := by
  cases r with
  | tmp t =>
    cases s with
    | tmp t' =>
      cases q with
      | tmp t'' => simp [results, h, rv_unt h1, rv_unt h2, rv_unt h3]
      | cell p ty => obtain ⟨ad, g, g'⟩ := rv_unc h3; simp [results, h, rv_unt h1, rv_unt h2, g, g', asAddr]
    | cell p ty =>
      obtain ⟨ad, f, f'⟩ := rv_unc h2
      cases q with
      | tmp t'' => simp [results, h, rv_unt h1, f, f', rv_unt h3, asAddr]
      | cell p ty => obtain ⟨ad, g, g'⟩ := rv_unc h3; simp [results, h, rv_unt h1, f, f', g, g', asAddr]
  | cell p ty =>
    obtain ⟨ad, e, e'⟩ := rv_unc h1
    cases s with
    | tmp t' =>
      cases q with
      | tmp t'' => simp [results, h, e, e', rv_unt h2, rv_unt h3, asAddr]
      | cell p ty => obtain ⟨ad, g, g'⟩ := rv_unc h3; simp [results, h, e, e', rv_unt h2, g, g', asAddr]
    | cell p ty =>
      obtain ⟨ad, f, f'⟩ := rv_unc h2
      cases q with
      | tmp t'' => simp [results, h, e, e', f, f', rv_unt h3, asAddr]
      | cell p ty => obtain ⟨ad, g, g'⟩ := rv_unc h3; simp [results, h, e, e', f, f', g, g', asAddr]
end

/-! ### A region of open order. -/
/-- Some slots filled. -/
def fillL : List (Tmp × Value) → Act → Act
  | [], a => a
  | e :: r, a => fillL r (a.put (some e.1) e.2)

def dstOf (ops : Array Oper) (i : Nat) : Option Tmp := (ops[i]?).bind (·.dst)

def regOk (ops : Array Oper) (m : Nat) : Bool :=
  Region.noSelect ops && decide (m ≤ ops.size) &&
  (List.range m).all (fun i => match ops[i]? with
    | some o => (needs o).all (fun j => decide (j < i)) && (List.range m).all (fun j => match dstOf ops j with
          | some t => !(o.looksAt ops).contains t || (needs o).contains j
          | none => true)
    | none => false) &&
  (List.range ops.size).all (fun i => decide (i < m) || match ops[i]? with
    | some o => (List.range m).all (fun j => (needs o).contains j)
    | none => false)

/-- What may stand behind a region's way out, if no panic may come. -/
def QOut (Q : Exit → Act → World → Prop) : Exit → Act → World → Prop
  | .outgrown, _, _ => LetsOut Q
  | _, _, _ => False

theorem fillL_size (L : List (Tmp × Value)) : ∀ a : Act, (fillL L a).tmps.size = a.tmps.size ∧ (fillL L a).defers = a.defers := by
  induction L with
  | nil => intro a; exact ⟨rfl, rfl⟩
  | cons e r ih =>
    intro a
    obtain ⟨h1, h2⟩ := ih (a.put (some e.1) e.2)
    exact ⟨by rw [fillL, h1]; simp [Act.put], by rw [fillL, h2]; rfl⟩
theorem fillL_off (L : List (Tmp × Value)) (t : Tmp) : ∀ a : Act, (∀ e : Tmp × Value, e ∈ L → e.1 ≠ t) → (fillL L a).tmps[t]? = a.tmps[t]? := by
  induction L with
  | nil => intro a _; rfl
  | cons e r ih =>
    intro a h
    rw [fillL, ih _ (fun x hx => h x (by simp [hx]))]
    have := h e (by simp)
    simp [Act.put, Array.getElem?_setIfInBounds_ne this]

theorem LetsOut_QOut {Q : Exit → Act → World → Prop} (h : LetsOut (QOut Q)) : LetsOut Q := by
  obtain ⟨a, w, h⟩ := h
  exact h

section
variable {P : Program} {ops : Array Oper} {Q : Exit → Act → World → Prop}

/-- Every slot of which all that write it are listed holds what it holds in the end. -/
def Told (ops : Array Oper) (m : Nat) (aF : Act) (listed : Array Bool) (a : Act) : Prop :=
  a.defers = aF.defers ∧ a.tmps.size = aF.tmps.size ∧ ∀ t, (∀ i, i < m → dstOf ops i = some t → listed.getD i false = true) → a.tmps[t]? = aF.tmps[t]?

theorem Told.all {m : Nat} {aF a : Act} {listed : Array Bool} (h : Told ops m aF listed a) (hl : ∀ i, i < m → listed.getD i false = true) : a = aF := by
  obtain ⟨h1, h2, h3⟩ := h
  have e : a.tmps = aF.tmps := Array.ext_getElem? fun t => h3 t (fun i hi _ => hl i hi)
  cases a; cases aF; simp_all

theorem told_step {m i : Nat} {o : Oper} {aF a : Act} {listed : Array Bool} {J : Act → World → Prop} {w : World} {K : Act → World → Prop} (ho : ops[i]? = some o) (hns : ∀ cs b, o.op ≠ .select cs b)
    (hlk : ∀ t ∈ o.looksAt ops, ∀ j, j < m → dstOf ops j = some t → listed.getD j false = true)
    (ht : Told ops m aF listed a)
    (good : wpOp P ops (QOut Q) i J aF w) (hdf : ∀ a' w', J a' w' → a'.defers = aF.defers)
    (next : ∀ aF' a' w', Told ops m aF' (listed.setIfInBounds i true) a' → J aF' w' → K a' w') : wpOp P ops Q i K a w := by
  obtain ⟨h1, h2, h3⟩ := ht
  have hev : ∀ x ∈ o.op.operands, a.eval x = aF.eval x := by
    intro x hx
    cases x with
    | tmp t =>
      have hm : t ∈ o.looksAt ops := List.mem_append_left _ (List.mem_filterMap.2 ⟨.tmp t, by simpa using hx, rfl⟩)
      have := h3 t (fun j hj hd => hlk t hm j hj hd)
      simp [Act.eval, this]
    | const v => rfl
    | global g => rfl
    | func f => rfl
  have hex : execOp a.eval o = execOp aF.eval o := execOp_congr o hns hev
  have hwa : Region.wanted o (yielded ops a.tmps) = Region.wanted o (yielded ops aF.tmps) := by
    unfold Region.wanted
    cases hg : o.guard with
    | none => rfl
    | some gw =>
      obtain ⟨g, want⟩ := gw
      have hy : yielded ops a.tmps g = yielded ops aF.tmps g := by
        unfold yielded
        cases hd : (ops[g]?).bind (·.dst) with
        | none => rfl
        | some t =>
          have hm : t ∈ o.looksAt ops := List.mem_append_right _ (by simp [hg, hd])
          have := h3 t (fun j hj hd => hlk t hm j hj hd)
          simp [this]
      simp only [hy]
  have hput : ∀ u : Value, Told ops m (aF.put o.dst u) (listed.setIfInBounds i true) (a.put o.dst u) := by
    intro u
    cases hd : o.dst with
    | none =>
      refine ⟨h1, h2, fun t hall => h3 t (fun j hj hdj => ?_)⟩
      by_cases hij : i = j
      · subst hij; simp [dstOf, ho, hd] at hdj
      · have := hall j hj hdj
        rwa [getD_set_ne false hij] at this
    | some t =>
      refine ⟨h1, by simpa [Act.put] using h2, fun t' hall => ?_⟩
      simp only [Act.put]
      by_cases htt : t = t'
      · subst htt
        by_cases hlt : t < aF.tmps.size
        · rw [Array.getElem?_setIfInBounds_self_of_lt (by rw [h2]; exact hlt), Array.getElem?_setIfInBounds_self_of_lt hlt]
        · rw [Array.getElem?_eq_none (by simp only [Array.size_setIfInBounds, h2]; exact Nat.le_of_not_lt hlt), Array.getElem?_eq_none (by simp only [Array.size_setIfInBounds]; exact Nat.le_of_not_lt hlt)]
      · rw [Array.getElem?_setIfInBounds_ne htt, Array.getElem?_setIfInBounds_ne htt]
        refine h3 t' (fun j hj hdj => ?_)
        by_cases hij : i = j
        · subst hij
          simp [dstOf, ho, hd] at hdj
          exact absurd hdj htt
        · have := hall j hj hdj
          rwa [getD_set_ne false hij] at this
  unfold wpOp at good ⊢
  simp only [ho] at good ⊢
  rw [hwa]
  split
  · rename_i hw
    simp only [hw, if_true] at good
    rcases good with good | ⟨hasks, hlets⟩
    case inr => exact .inr ⟨by unfold Oper.asks at *; rw [hex]; exact hasks, LetsOut_QOut hlets⟩
    refine .inl ?_
    unfold Oper.wp at *
    rw [hex]
    generalize (execOp aF.eval o).run P w = r at *
    cases r with
    | ok n w' =>
      cases n <;> simp only [Oper.upon] at good ⊢
      case value u => exact next _ _ _ (hput u) good
      case skip => exact next _ _ _ (hput undef) good
      case defer d =>
        have := congrArg List.length (hdf _ _ good)
        cases hd : o.dst <;> simp [Act.put, hd] at this
      case enter f args =>
        refine Calls.mono good fun e w'' he => ?_
        cases e with
        | returned u => exact next _ _ _ (hput u) he
        | panicked c => exact he.elim
        | outgrown => exact LetsOut_QOut he
      case row row args => exact Rows.mono good fun u w'' he => next _ _ _ (hput u) he
    | halt x w' =>
      cases x <;> simp only [Oper.upon] at good ⊢
      case panic u => exact good.elim
  · rename_i hw
    simp only [hw] at good
    exact next _ _ _ (hput undef) good

theorem k_front {m : Nat} {I : (Nat → Bool) → Act → World → Prop} (hk : regOk ops m = true) (hdf : ∀ f g a a' w w', I f a w → I g a' w' → a'.defers = a.defers)
    (good : ∀ i, i < m → ∀ f a w, Turn ops f i → I f a w → wpOp P ops (QOut Q) i (I (up f i)) a w)
    (rest : ∀ a w, I (fOf ((Array.replicate m true) ++ (Array.replicate (ops.size - m) false))) a w → wpAny P .any ops Q (ops.size - m) ((Array.replicate m true) ++ (Array.replicate (ops.size - m) false)) a w) :
    ∀ (left : Nat) (listed : Array Bool) (aF a : Act) (w : World), listed.size = ops.size → (∀ i, m ≤ i → i < ops.size → listed.getD i true = false) → ((List.range m).filter fun i => !listed.getD i true).length = left →
      Shut ops (fOf listed) → Told ops m aF listed a → I (fOf listed) aF w → wpAny P .any ops Q (left + (ops.size - m)) listed a w := by
  simp only [regOk, Bool.and_eq_true, List.all_eq_true, decide_eq_true_eq] at hk
  obtain ⟨⟨⟨hns, hm⟩, hc⟩, hd⟩ := hk
  intro left
  induction left with
  | zero =>
    intro listed aF a w hsz hlate hleft hsh ht hI
    have hall : ∀ i, i < m → listed.getD i false = true := by
      intro i hi
      have h0 : ((List.range m).filter fun i => !listed.getD i true) = [] := List.eq_nil_of_length_eq_zero hleft
      have h1 := List.filter_eq_nil_iff.1 h0 i (List.mem_range.2 hi)
      have hlt : i < listed.size := by omega
      simp [Array.getD, hlt] at h1 ⊢
      exact h1
    have hae := ht.all hall
    subst hae
    have hle : listed = (Array.replicate m true) ++ (Array.replicate (ops.size - m) false) := by
      apply Array.ext
      · simp; omega
      · intro i h1 h2
        by_cases hi : i < m
        · have := hall i hi
          simp [Array.getD, h1] at this
          rw [this, Array.getElem_append_left (by simpa using hi)]
          simp
        · have := hlate i (by omega) (by omega)
          simp [Array.getD, h1] at this
          rw [this, Array.getElem_append_right (by simpa using Nat.le_of_not_lt hi)]
          simp
    rw [hle] at hI ⊢
    rw [Nat.zero_add]
    exact rest _ w hI
  | succ left ih =>
    intro listed aF a w hsz hlate hleft hsh ht hI
    have hsome : ∃ i, i < m ∧ listed.getD i true = false := by
      have h0 : ((List.range m).filter fun i => !listed.getD i true) ≠ [] := fun h => by rw [h] at hleft; simp at hleft
      obtain ⟨i, hi⟩ := List.exists_mem_of_ne_nil _ h0
      simp at hi
      exact ⟨i, hi.1, by simpa using hi.2⟩
    have hfr : ∀ i ∈ Region.ready .any ops listed, i < m := by
      intro i hi
      rw [mem_ready] at hi
      obtain ⟨h1, o, ho, hr⟩ := hi
      by_cases him : i < m
      · exact him
      · exfalso
        have hlt := (Array.getElem?_eq_some_iff.1 ho).1
        have h2 := hd i (List.mem_range.2 hlt)
        simp only [Bool.or_eq_true, decide_eq_true_eq, him, false_or, ho, List.all_eq_true] at h2
        obtain ⟨j, hj, hjf⟩ := hsome
        have h3 := needs_mem (h2 j (List.mem_range.2 hj)) hr
        have hlt : j < listed.size := by omega
        simp [Array.getD, hlt] at h3 hjf
        rw [h3] at hjf
        cases hjf
    have hf1 : left + 1 + (ops.size - m) = (left + (ops.size - m)) + 1 := by omega
    rw [hf1]
    refine ⟨fun hre => ?_, fun i hi => ?_⟩
    · exfalso
      obtain ⟨i, ⟨him, hif⟩, hleast⟩ := exists_least hsome
      have hlt : i < ops.size := by omega
      have h2 := (hc i (List.mem_range.2 him))
      rw [Array.getElem?_eq_getElem hlt] at h2
      simp only [Bool.and_eq_true, List.all_eq_true, decide_eq_true_eq] at h2
      have : i ∈ Region.ready .any ops listed := by
        rw [mem_ready]
        refine ⟨hif, ops[i], Array.getElem?_eq_getElem hlt, fun e he hb => ?_⟩
        have hej : e.on ∈ needs ops[i] := by
          simp only [needs, List.mem_map, List.mem_filter]
          exact ⟨e, ⟨by simpa using he, hb⟩, rfl⟩
        have hlt2 := h2.1 _ hej
        cases hq : listed.getD e.on true with
        | false => have := hleast e.on ⟨by omega, hq⟩; omega
        | true =>
          have hl : e.on < listed.size := by omega
          simp [Array.getD, hl] at hq ⊢
          exact hq
      rw [hre] at this
      cases this
    · have him := hfr i hi
      rw [mem_ready] at hi
      obtain ⟨h1, o, ho, hr⟩ := hi
      have h2 := hc i (List.mem_range.2 him)
      have hil : i < listed.size := by omega
      simp only [ho, Bool.and_eq_true, List.all_eq_true] at h2
      have hself : fOf listed i = false := by
        unfold fOf
        simp [Array.getD, hil] at h1 ⊢
        exact h1
      have hearly : ∀ j, (needs o).contains j = true → fOf listed j = true := fun j hj => needs_mem hj hr
      have hturn : Turn ops (fOf listed) i := by
        refine ⟨hself, fun s p hp hn => ?_, fun p hp j hj => ?_, hsh⟩
        · cases hq : fOf listed s with
          | false => rfl
          | true =>
            have := hsh s p hp hq i (List.contains_iff_mem.1 hn)
            rw [hself] at this
            cases this
        · rw [ho] at hp
          injection hp with hp
          subst hp
          exact hearly j hj
      refine told_step ho (Region.noSelect_spec hns i o · · ho) (fun t htl j hj hdj => ?_) ht (good i him (fOf listed) aF w hturn hI) (fun a' w' h => hdf _ _ _ _ _ _ hI h) (fun aF' a' w' ht' hI' => ?_)
      · have h3 := h2.2 j (List.mem_range.2 hj)
        rw [hdj] at h3
        simp only [Bool.or_eq_true, Bool.not_eq_true'] at h3
        rcases h3 with h3 | h3
        · rw [List.contains_iff_mem.2 htl] at h3; cases h3
        · exact needs_mem h3 hr
      · refine ih _ aF' a' w' (by simpa using hsz) (fun j hj hjs => ?_) ?_ ?_ ht' (by rw [fOf_set hil]; exact hI')
        · rw [getD_set_ne true (by omega)]; exact hlate j hj hjs
        · have e1 : ((List.range m).filter fun j => !(listed.setIfInBounds i true).getD j true) = ((List.range m).filter fun j => !listed.getD j true).erase i := by
            rw [List.Nodup.erase_eq_filter (List.nodup_range.filter _), List.filter_filter]
            refine List.filter_congr (fun j _ => ?_)
            by_cases hij : i = j
            · subst hij
              by_cases hl : i < listed.size
              · simp [Array.getD, hl]
              · simp [Array.getD, hl]
            · rw [getD_set_ne true hij]
              have : (j != i) = true := by simpa using fun h => hij h.symm
              rw [this, Bool.true_and]
          rw [e1, List.length_erase_of_mem (List.mem_filter.2 ⟨List.mem_range.2 him, by rw [h1]; rfl⟩), hleft]
          rfl
        · rw [fOf_set hil]
          intro s p hp hs j hj
          unfold up at hs ⊢
          by_cases hsi : s = i
          · subst hsi
            rw [ho] at hp
            injection hp with hp
            subst hp
            have := hearly j (List.contains_iff_mem.2 hj)
            split
            · rfl
            · exact this
          · rw [if_neg hsi] at hs
            have := hsh s p hp hs j hj
            split
            · rfl
            · exact this

/-- THE REGION: the first m operations in whatever order, then the rest. 'aF': the frame in which all of them have told (what is not listed yet may stand there as it will). 'I': what the world, and that frame, are, by what is listed. -/
theorem k_regO {id : Nat} {a : Act} {w : World} (aF : Act) (I : (Nat → Bool) → Act → World → Prop) (m : Nat) (V : List (Tmp × Value)) (hm : P.follows .mixedOrders = true) (hk : regOk ops m = true) (hF : fillL V a = aF)
    (hL : (V.all fun e => (List.range m).any fun i => dstOf ops i == some e.1) = true) (hI : I (fun _ => false) aF w.drew) (hdf : ∀ f g a a' w w', I f a w → I g a' w' → a'.defers = a.defers)
    (good : ∀ i, i < m → ∀ f a w, Turn ops f i → I f a w → wpOp P ops (QOut Q) i (I (up f i)) a w)
    (rest : ∀ a w, I (fOf ((Array.replicate m true) ++ (Array.replicate (ops.size - m) false))) a w → wpAny P .any ops Q (ops.size - m) ((Array.replicate m true) ++ (Array.replicate (ops.size - m) false)) a w) :
    (Code.region id ops true).wp P Q a w := by
  have hle : m ≤ ops.size := by
    have h := hk
    simp only [regOk, Bool.and_eq_true, decide_eq_true_eq] at h
    exact h.1.1.2
  have hf0 : fOf (Array.replicate ops.size false) = fun _ => false := by
    funext j
    unfold fOf
    by_cases h : j < ops.size <;> simp [Array.getD, h]
  refine wp_region_any hm ?_
  have key := k_front (I := I) hk hdf good rest m (Array.replicate ops.size false) aF a w.drew (by simp) (fun i _ hi => by simp [Array.getD, hi]) (by
      rw [List.filter_eq_self.2 (fun i hi => ?_), List.length_range]
      have := List.mem_range.1 hi
      have h2 : i < ops.size := by omega
      simp [Array.getD, h2]) (by rw [hf0]; intro s o _ h; cases h) (by
      obtain ⟨h1, h2⟩ := fillL_size V a
      rw [hF] at h1 h2
      refine ⟨h2.symm, h1.symm, fun t ht => ?_⟩
      rw [← hF]
      refine (fillL_off V t a (fun e he het => ?_)).symm
      have h3 := List.all_eq_true.1 hL e he
      obtain ⟨i, hi, hd⟩ := List.any_eq_true.1 h3
      have h4 := ht i (List.mem_range.1 hi) (by rw [beq_iff_eq] at hd; rw [hd, het])
      have h5 : i < ops.size := by have := List.mem_range.1 hi; omega
      simp [Array.getD, h5] at h4) (by rw [hf0]; exact hI)
  have e : m + (ops.size - m) = ops.size := by omega
  rw [e] at key
  exact key
theorem k_regI {id : Nat} {a : Act} {w : World} (aF : Act) (I : (Nat → Bool) → Act → World → Prop) (m : Nat) (V : List (Tmp × Value)) (hm : P.follows .mixedOrders = true) (hk : regOk ops m = true) (hF : fillL V a = aF)
    (hL : (V.all fun e => (List.range m).any fun i => dstOf ops i == some e.1) = true) (hI : I (fun _ => false) aF w.drew) (hdf : ∀ f g a a' w w', I f a w → I g a' w' → a'.defers = a.defers)
    (good : ∀ i, i < m → ∀ f a w, Turn ops f i → I f a w → ∃ o, ops[i]? = some o ∧ ∀ K : Act → World → Prop, (∀ a' w', I (up f i) a' w' → K a' w') → wpList P ops (Exit.then K (QOut Q)) [o] a w)
    (rest : ∀ a w, I (fOf ((Array.replicate m true) ++ (Array.replicate (ops.size - m) false))) a w → wpAny P .any ops Q (ops.size - m) ((Array.replicate m true) ++ (Array.replicate (ops.size - m) false)) a w) :
    (Code.region id ops true).wp P Q a w :=
  k_regO aF I m V hm hk hF hL hI hdf (fun i hi f a w hf hw => by
    obtain ⟨o, ho, h⟩ := good i hi f a w hf hw
    exact op_of_list ho (h _ (fun a' w' h => h))) rest
theorem k_region {id : Nat} {a : Act} {w : World} (aF : Act) (I : (Nat → Bool) → World → Prop) (m : Nat) (V : List (Tmp × Value)) (hm : P.follows .mixedOrders = true) (hk : regOk ops m = true) (hF : fillL V a = aF)
    (hL : (V.all fun e => (List.range m).any fun i => dstOf ops i == some e.1) = true) (hI : I (fun _ => false) w.drew)
    (good : ∀ i, i < m → ∀ f w, Turn ops f i → I f w → ∃ o, ops[i]? = some o ∧ ∀ K : Act → World → Prop, (∀ a' w', a' = aF → I (up f i) w' → K a' w') → wpList P ops (Exit.then K (QOut Q)) [o] aF w)
    (rest : ∀ w, I (fOf ((Array.replicate m true) ++ (Array.replicate (ops.size - m) false))) w → wpAny P .any ops Q (ops.size - m) ((Array.replicate m true) ++ (Array.replicate (ops.size - m) false)) aF w) :
    (Code.region id ops true).wp P Q a w :=
  k_regI aF (fun f a w => a = aF ∧ I f w) m V hm hk hF hL ⟨rfl, hI⟩ (fun f g a a' w w' h h' => by rw [h.1, h'.1]) (fun i hi f a w ht h => by
    obtain ⟨rfl, h⟩ := h
    obtain ⟨o, ho, hw⟩ := good i hi f w ht h
    exact ⟨o, ho, fun K hK => hw K fun a' w' e1 e2 => hK a' w' ⟨e1, e2⟩⟩) (fun a w h => by
    obtain ⟨rfl, h⟩ := h
    exact rest w h)

theorem any_step {i fuel : Nat} {l : Array Bool} {a : Act} {w : World} {o : Oper} (hr : Region.ready .any ops l = [i]) (ho : ops[i]? = some o)
    (h : ∀ K : Act → World → Prop, (∀ a' w', wpAny P .any ops Q fuel (l.setIfInBounds i true) a' w' → K a' w') → wpList P ops (Exit.then K Q) [o] a w) : wpAny P .any ops Q (fuel + 1) l a w :=
  wpAny_all hr (by simp) fun j hj => by
    obtain rfl : j = i := by simpa using hj
    exact op_of_list ho (h _ (fun _ _ h => h))
theorem any_step2 {i j fuel : Nat} {l : Array Bool} {a : Act} {w : World} {o p : Oper} (hr : Region.ready .any ops l = [i, j]) (ho : ops[i]? = some o) (hp : ops[j]? = some p)
    (h : ∀ K : Act → World → Prop, (∀ a' w', wpAny P .any ops Q fuel (l.setIfInBounds i true) a' w' → K a' w') → wpList P ops (Exit.then K Q) [o] a w)
    (h' : ∀ K : Act → World → Prop, (∀ a' w', wpAny P .any ops Q fuel (l.setIfInBounds j true) a' w' → K a' w') → wpList P ops (Exit.then K Q) [p] a w) : wpAny P .any ops Q (fuel + 1) l a w :=
  wpAny_all hr (by simp) fun k hk => by
    rcases (by simpa using hk : k = i ∨ k = j) with rfl | rfl
    · exact op_of_list ho (h _ (fun _ _ h => h))
    · exact op_of_list hp (h' _ (fun _ _ h => h))
theorem any_end {l : Array Bool} {a : Act} {w : World} (hr : Region.ready .any ops l = []) (h : Q .normal a w) : wpAny P .any ops Q 0 l a w := wpAny_done hr h 0
end

section
variable {P : Program} {ops : Array Oper} {Q : Exit → Act → World → Prop} {B : Nat} {S : Nat → Prop} {w0 w : World} {L : List Bk}
/-- The known blocks stay as they are. -/
theorem k_regH {id : Nat} {a : Act} (H : Hp B S w0 w L) (aF : Act) (m : Nat) (V : List (Tmp × Value)) (hm : P.follows .mixedOrders = true) (hk : regOk ops m = true) (hF : fillL V a = aF)
    (hL : (V.all fun e => (List.range m).any fun i => dstOf ops i == some e.1) = true)
    (good : ∀ i, i < m → ∀ w, Hp B S w0 w L → ∃ o, ops[i]? = some o ∧ ∀ K : Act → World → Prop, (∀ a' w', a' = aF → Hp B S w0 w' L → K a' w') → wpList P ops (Exit.then K (QOut Q)) [o] aF w)
    (rest : ∀ w, Hp B S w0 w L → wpAny P .any ops Q (ops.size - m) ((Array.replicate m true) ++ (Array.replicate (ops.size - m) false)) aF w) :
    (Code.region id ops true).wp P Q a w :=
  k_region aF (fun _ w => Hp B S w0 w L) m V hm hk hF hL H.drew (fun i hi _ w _ h => good i hi w h) rest
/-- All of them; the blocks by what is listed (stores among them). -/
theorem k_regF {id : Nat} {a : Act} (LF : (Nat → Bool) → List Bk) (H : Hp B S w0 w (LF fun _ => false)) (aF : Act) (V : List (Tmp × Value)) (hm : P.follows .mixedOrders = true) (hk : regOk ops ops.size = true) (hF : fillL V a = aF)
    (hL : (V.all fun e => (List.range ops.size).any fun i => dstOf ops i == some e.1) = true) (hT : LF (fun i => decide (i < ops.size)) = LF fun _ => true)
    (good : ∀ i, i < ops.size → ∀ f w, Turn ops f i → Hp B S w0 w (LF f) → ∃ o, ops[i]? = some o ∧ ∀ K : Act → World → Prop, (∀ a' w', a' = aF → Hp B S w0 w' (LF (up f i)) → K a' w') → wpList P ops (Exit.then K (QOut Q)) [o] aF w)
    (rest : ∀ w, Hp B S w0 w (LF fun _ => true) → Q .normal aF w) :
    (Code.region id ops true).wp P Q a w := by
  refine k_region aF (fun f w => Hp B S w0 w (LF f)) ops.size V hm hk hF hL H.drew good (fun w h => ?_)
  have e : fOf ((Array.replicate ops.size true) ++ (Array.replicate (ops.size - ops.size) false)) = fun i => decide (i < ops.size) := by
    funext j
    unfold fOf
    by_cases h : j < ops.size <;> simp [Array.getD, h]
  rw [e, hT] at h
  have h0 : ops.size - ops.size = 0 := Nat.sub_self _
  rw [h0]
  refine any_end ?_ (rest w h)
  refine List.eq_nil_iff_forall_not_mem.2 fun i hi => ?_
  rw [mem_ready] at hi
  obtain ⟨h1, o, ho, _⟩ := hi
  have h2 := (Array.getElem?_eq_some_iff.1 ho).1
  simp [Array.getD, h2] at h1

/-- All of them; the blocks stay as they are. -/
theorem k_reg0 {id : Nat} {a : Act} (H : Hp B S w0 w L) (aF : Act) (V : List (Tmp × Value)) (hm : P.follows .mixedOrders = true) (hk : regOk ops ops.size = true) (hF : fillL V a = aF)
    (hL : (V.all fun e => (List.range ops.size).any fun i => dstOf ops i == some e.1) = true)
    (good : ∀ i, i < ops.size → ∀ w, Hp B S w0 w L → ∃ o, ops[i]? = some o ∧ ∀ K : Act → World → Prop, (∀ a' w', a' = aF → Hp B S w0 w' L → K a' w') → wpList P ops (Exit.then K (QOut Q)) [o] aF w)
    (rest : ∀ w, Hp B S w0 w L → Q .normal aF w) :
    (Code.region id ops true).wp P Q a w :=
  k_regF (fun _ => L) H aF V hm hk hF hL rfl (fun i hi _ w _ h => good i hi w h) rest
/-- The same, operation by operation. -/
theorem good_cons {p : Nat → Prop} {n : Nat} (h0 : p n) (h : ∀ i, i < n → p i) : ∀ i, i < n + 1 → p i := fun i hi => by
  by_cases e : i = n
  · exact e ▸ h0
  · exact h i (by omega)
/-- One operation, number s, stores into block k; all others leave the blocks as they are. -/
theorem k_reg1 {id : Nat} {a : Act} {b : Bk} (H : Hp B S w0 w L) (s k : Nat) (hb : L[k]? = some b) (cs1 : Array Value) (aF : Act) (V : List (Tmp × Value)) (hm : P.follows .mixedOrders = true) (hk : regOk ops ops.size = true) (hs : s < ops.size) (hF : fillL V a = aF)
    (hL : (V.all fun e => (List.range ops.size).any fun i => dstOf ops i == some e.1) = true)
    (good : ∀ i, i < ops.size → i ≠ s → ∀ X w, ((∃ o, ops[s]? = some o ∧ (needs o).contains i = true) → X = b.cs) → Hp B S w0 w (L.set k ⟨b.g, X, b.t⟩) →
      ∃ o, ops[i]? = some o ∧ ∀ K : Act → World → Prop, (∀ a' w', a' = aF → Hp B S w0 w' (L.set k ⟨b.g, X, b.t⟩) → K a' w') → wpList P ops (Exit.then K (QOut Q)) [o] aF w)
    (store : ∀ w, Hp B S w0 w L → ∃ o, ops[s]? = some o ∧ ∀ K : Act → World → Prop, (∀ a' w', a' = aF → Hp B S w0 w' (L.set k ⟨b.g, cs1, b.t⟩) → K a' w') → wpList P ops (Exit.then K (QOut Q)) [o] aF w)
    (rest : ∀ w, Hp B S w0 w (L.set k ⟨b.g, cs1, b.t⟩) → Q .normal aF w) :
    (Code.region id ops true).wp P Q a w := by
  have eL : L.set k ⟨b.g, b.cs, b.t⟩ = L := by
    apply List.ext_getElem?
    intro j
    by_cases hj : k = j
    · subst hj; rw [List.getElem?_set_self (List.getElem?_eq_some_iff.1 hb).1, hb]
    · rw [List.getElem?_set_ne hj]
  refine k_regF (fun f => L.set k ⟨b.g, if f s = true then cs1 else b.cs, b.t⟩) (by simpa [eL] using H) aF V hm hk hF hL (by simp [hs]) (fun i hi f w ht h => ?_) (fun w h => rest w (by simpa using h))
  by_cases his : i = s
  · subst his
    have h0 : f i = false := ht.self
    simp only [h0, Bool.false_eq_true, if_false, eL] at h
    obtain ⟨o, ho, hw⟩ := store w h
    exact ⟨o, ho, fun K hK => hw K fun a' w' e1 e2 => hK a' w' e1 (by simpa [up] using e2)⟩
  · obtain ⟨o, ho, hw⟩ := good i hi his (if f s = true then cs1 else b.cs) w (fun ⟨o, ho, hn⟩ => by rw [ht.late s o ho hn]; simp) h
    exact ⟨o, ho, fun K hK => hw K fun a' w' e1 e2 => hK a' w' e1 (by simpa [up, Ne.symm his] using e2)⟩
def pt (g : Nat) : Value := .pointer (some ⟨g, 0, none⟩)
theorem fOf_end (n : Nat) : fOf ((Array.replicate n true) ++ (Array.replicate (n - n) false)) = fun i => decide (i < n) := by
  funext j
  unfold fOf
  by_cases h : j < n <;> simp [Array.getD, h]
theorem any_out {a : Act} {w : World} (h : Q .normal a w) : wpAny P .any ops Q (ops.size - ops.size) ((Array.replicate ops.size true) ++ (Array.replicate (ops.size - ops.size) false)) a w := by
  have h0 : ops.size - ops.size = 0 := Nat.sub_self _
  rw [h0]
  refine any_end ?_ h
  refine List.eq_nil_iff_forall_not_mem.2 fun i hi => ?_
  rw [mem_ready] at hi
  obtain ⟨h1, o, ho, _⟩ := hi
  have h2 := (Array.getElem?_eq_some_iff.1 ho).1
  simp [Array.getD, h2] at h1
/-- Two allocations, i1 and i2, and a store into each, s1 and s2; all others leave the world as it is. -/
structure J2 (B : Nat) (S : Nat → Prop) (w0 : World) (L : List Bk) (i1 i2 s1 s2 : Nat) (t1 t2 : TypeId) (z1 z2 c1 c2 : Array Value) (f : Nat → Bool) (v1 v2 : Value) (w : World) : Prop where
  none : f i1 = false → f i2 = false → Hp B S w0 w L
  left : f i1 = true → f i2 = false → ∃ g, v1 = pt g ∧ Hp B S w0 w (L ++ [⟨g, z1, t1⟩])
  right : f i1 = false → f i2 = true → ∃ g, v2 = pt g ∧ Hp B S w0 w (L ++ [⟨g, z2, t2⟩])
  both : f i1 = true → f i2 = true → ∃ g h, v1 = pt g ∧ v2 = pt h ∧ Hp B S w0 w (L ++ [⟨g, if f s1 = true then c1 else z1, t1⟩, ⟨h, if f s2 = true then c2 else z2, t2⟩])
theorem J2.take {i1 i2 s1 s2 : Nat} {t1 t2 : TypeId} {z1 z2 c1 c2 : Array Value} {f : Nat → Bool} {v1 v2 : Value} (h : J2 B S w0 L i1 i2 s1 s2 t1 t2 z1 z2 c1 c2 f v1 v2 w) : Hp B S w0 w L := by
  cases h1 : f i1 <;> cases h2 : f i2
  · exact h.none h1 h2
  · obtain ⟨_, _, h⟩ := h.right h1 h2; exact h.take
  · obtain ⟨_, _, h⟩ := h.left h1 h2; exact h.take
  · obtain ⟨_, _, _, _, h⟩ := h.both h1 h2; exact h.take
theorem J2.congr {i1 i2 s1 s2 : Nat} {t1 t2 : TypeId} {z1 z2 c1 c2 : Array Value} {f f' : Nat → Bool} {v1 v2 : Value} (h : J2 B S w0 L i1 i2 s1 s2 t1 t2 z1 z2 c1 c2 f v1 v2 w) (e1 : f' i1 = f i1) (e2 : f' i2 = f i2) (e3 : f' s1 = f s1) (e4 : f' s2 = f s2) : J2 B S w0 L i1 i2 s1 s2 t1 t2 z1 z2 c1 c2 f' v1 v2 w :=
  ⟨fun a b => h.none (e1 ▸ a) (e2 ▸ b), fun a b => h.left (e1 ▸ a) (e2 ▸ b), fun a b => h.right (e1 ▸ a) (e2 ▸ b), fun a b => by rw [e3, e4]; exact h.both (e1 ▸ a) (e2 ▸ b)⟩
theorem k_regA2 {id : Nat} {a : Act} (H : Hp B S w0 w L) (i1 i2 s1 s2 : Nat) (t1 t2 : TypeId) (z1 z2 c1 c2 : Array Value) (V : Value → Value → List (Tmp × Value)) (hm : P.follows .mixedOrders = true) (hk : regOk ops ops.size = true)
    (hL : ∀ x y, ((V x y).all fun e => (List.range ops.size).any fun i => dstOf ops i == some e.1) = true) (hne : i1 ≠ i2 ∧ s1 ≠ i1 ∧ s1 ≠ i2 ∧ s2 ≠ i1 ∧ s2 ≠ i2 ∧ s1 ≠ s2)
    (hlt : i1 < ops.size ∧ i2 < ops.size ∧ s1 < ops.size ∧ s2 < ops.size)
    (hs1 : ∃ o, ops[s1]? = some o ∧ (needs o).contains i1 = true ∧ (needs o).contains i2 = true) (hs2 : ∃ o, ops[s2]? = some o ∧ (needs o).contains i1 = true ∧ (needs o).contains i2 = true)
    (other : ∀ i, i < ops.size → (i ≠ i1 ∧ i ≠ i2 ∧ i ≠ s1 ∧ i ≠ s2) → ∀ v1 v2 w, Hp B S w0 w L → ∃ o, ops[i]? = some o ∧ ∀ K : Act → World → Prop, K (fillL (V v1 v2) a) w → wpList P ops (Exit.then K (QOut Q)) [o] (fillL (V v1 v2) a) w)
    (first : ∃ o, ops[i1]? = some o ∧ ∀ (K : Act → World → Prop) v1 v2 w M, Hp B S w0 w M → (∀ g w1, Hp B S w0 w1 (M ++ [⟨g, z1, t1⟩]) → K (fillL (V (pt g) v2) a) w1) → wpList P ops (Exit.then K (QOut Q)) [o] (fillL (V v1 v2) a) w)
    (second : ∃ o, ops[i2]? = some o ∧ ∀ (K : Act → World → Prop) v1 v2 w M, Hp B S w0 w M → (∀ g w1, Hp B S w0 w1 (M ++ [⟨g, z2, t2⟩]) → K (fillL (V v1 (pt g)) a) w1) → wpList P ops (Exit.then K (QOut Q)) [o] (fillL (V v1 v2) a) w)
    (store1 : ∃ o, ops[s1]? = some o ∧ ∀ (K : Act → World → Prop) g h w X, Hp B S w0 w (L ++ [⟨g, z1, t1⟩, ⟨h, X, t2⟩]) → (∀ w1, Hp B S w0 w1 (L ++ [⟨g, c1, t1⟩, ⟨h, X, t2⟩]) → K (fillL (V (pt g) (pt h)) a) w1) → wpList P ops (Exit.then K (QOut Q)) [o] (fillL (V (pt g) (pt h)) a) w)
    (store2 : ∃ o, ops[s2]? = some o ∧ ∀ (K : Act → World → Prop) g h w X, Hp B S w0 w (L ++ [⟨g, X, t1⟩, ⟨h, z2, t2⟩]) → (∀ w1, Hp B S w0 w1 (L ++ [⟨g, X, t1⟩, ⟨h, c2, t2⟩]) → K (fillL (V (pt g) (pt h)) a) w1) → wpList P ops (Exit.then K (QOut Q)) [o] (fillL (V (pt g) (pt h)) a) w)
    (rest : ∀ g h w1, Hp B S w0 w1 (L ++ [⟨g, c1, t1⟩, ⟨h, c2, t2⟩]) → Q .normal (fillL (V (pt g) (pt h)) a) w1) :
    (Code.region id ops true).wp P Q a w := by
  obtain ⟨n1, n2, n3, n4, n5, n6⟩ := hne
  refine k_regI (fillL (V undef undef) a) (fun f b w => ∃ v1 v2, b = fillL (V v1 v2) a ∧ J2 B S w0 L i1 i2 s1 s2 t1 t2 z1 z2 c1 c2 f v1 v2 w) ops.size (V undef undef) hm hk rfl (hL _ _)
    ⟨undef, undef, rfl, fun _ _ => H.drew, fun h _ => by simp at h, fun _ h => by simp at h, fun h _ => by simp at h⟩
    (fun f g b b' w w' h h' => by
      obtain ⟨_, _, rfl, _⟩ := h
      obtain ⟨_, _, rfl, _⟩ := h'
      rw [(fillL_size _ _).2, (fillL_size _ _).2]) (fun i hi f b w ht h => ?_) (fun b w h => ?_)
  · obtain ⟨v1, v2, rfl, hJ⟩ := h
    have un : ∀ k, k ≠ i → up f i k = f k := fun k hk => by simp [up, hk]
    have us : up f i i = true := by simp [up]
    by_cases e1 : i = i1
    · subst e1
      obtain ⟨o, ho, hw⟩ := first
      refine ⟨o, ho, fun K hK => ?_⟩
      obtain ⟨o1, h1, h11, h12⟩ := hs1
      obtain ⟨o2, h2, h21, h22⟩ := hs2
      have l1 := ht.late s1 o1 h1 h11
      have l2 := ht.late s2 o2 h2 h21
      cases hf : f i2 with
      | false =>
        refine hw K v1 v2 w L (hJ.none ht.self hf) fun g w1 hH => hK _ _ ⟨_, _, rfl, ?_⟩
        exact ⟨fun h _ => by (rw [us] at h; cases h), fun _ _ => ⟨g, rfl, hH⟩, fun h _ => by (rw [us] at h; cases h), fun _ h => by (rw [un i2 n1.symm, hf] at h; cases h)⟩
      | true =>
        obtain ⟨g', e, hH⟩ := hJ.right ht.self hf
        refine hw K v1 v2 w _ hH fun g w1 hH => hK _ _ ⟨_, _, rfl, ?_⟩
        refine ⟨fun h _ => by (rw [us] at h; cases h), fun _ h => by (rw [un i2 n1.symm, hf] at h; cases h), fun h _ => by (rw [us] at h; cases h), fun _ _ => ⟨g, g', rfl, e, ?_⟩⟩
        rw [un s1 n2, un s2 n4, l1, l2]
        rw [List.append_assoc] at hH
        exact hH.swap
    by_cases e2 : i = i2
    · subst e2
      obtain ⟨o, ho, hw⟩ := second
      refine ⟨o, ho, fun K hK => ?_⟩
      obtain ⟨o1, h1, h11, h12⟩ := hs1
      obtain ⟨o2, h2, h21, h22⟩ := hs2
      have l1 := ht.late s1 o1 h1 h12
      have l2 := ht.late s2 o2 h2 h22
      cases hf : f i1 with
      | false =>
        refine hw K v1 v2 w L (hJ.none hf ht.self) fun g w1 hH => hK _ _ ⟨_, _, rfl, ?_⟩
        exact ⟨fun _ h => by (rw [us] at h; cases h), fun h _ => by (rw [un i1 n1, hf] at h; cases h), fun _ _ => ⟨g, rfl, hH⟩, fun h _ => by (rw [un i1 n1, hf] at h; cases h)⟩
      | true =>
        obtain ⟨g', e, hH⟩ := hJ.left hf ht.self
        refine hw K v1 v2 w _ hH fun g w1 hH => hK _ _ ⟨_, _, rfl, ?_⟩
        refine ⟨fun _ h => by (rw [us] at h; cases h), fun _ h => by (rw [us] at h; cases h), fun h _ => by (rw [un i1 n1, hf] at h; cases h), fun _ _ => ⟨g', g, e, rfl, ?_⟩⟩
        rw [un s1 n3, un s2 n5, l1, l2]
        rw [List.append_assoc] at hH
        exact hH
    by_cases e3 : i = s1
    · subst e3
      obtain ⟨o1, h1, h11, h12⟩ := hs1
      have f1 := ht.early o1 h1 i1 h11
      have f2 := ht.early o1 h1 i2 h12
      obtain ⟨g, h, rfl, rfl, hH⟩ := hJ.both f1 f2
      rw [ht.self] at hH
      obtain ⟨o, ho, hw⟩ := store1
      refine ⟨o, ho, fun K hK => hw K g h w _ hH fun w1 hH => hK _ _ ⟨_, _, rfl, ?_⟩⟩
      refine ⟨fun h _ => by (rw [un i1 (Ne.symm e1), f1] at h; cases h), fun _ h => by (rw [un i2 (Ne.symm e2), f2] at h; cases h), fun h _ => by (rw [un i1 (Ne.symm e1), f1] at h; cases h), fun _ _ => ⟨g, h, rfl, rfl, ?_⟩⟩
      rw [us, un s2 n6.symm]
      exact hH
    by_cases e4 : i = s2
    · subst e4
      obtain ⟨o1, h1, h11, h12⟩ := hs2
      have f1 := ht.early o1 h1 i1 h11
      have f2 := ht.early o1 h1 i2 h12
      obtain ⟨g, h, rfl, rfl, hH⟩ := hJ.both f1 f2
      rw [ht.self] at hH
      obtain ⟨o, ho, hw⟩ := store2
      refine ⟨o, ho, fun K hK => hw K g h w _ hH fun w1 hH => hK _ _ ⟨_, _, rfl, ?_⟩⟩
      refine ⟨fun h _ => by (rw [un i1 (Ne.symm e1), f1] at h; cases h), fun _ h => by (rw [un i2 (Ne.symm e2), f2] at h; cases h), fun h _ => by (rw [un i1 (Ne.symm e1), f1] at h; cases h), fun _ _ => ⟨g, h, rfl, rfl, ?_⟩⟩
      rw [us, un s1 n6]
      exact hH
    · obtain ⟨o, ho, hw⟩ := other i hi ⟨e1, e2, e3, e4⟩ v1 v2 w hJ.take
      exact ⟨o, ho, fun K hK => hw K (hK _ _ ⟨v1, v2, rfl, hJ.congr (un _ (Ne.symm e1)) (un _ (Ne.symm e2)) (un _ (Ne.symm e3)) (un _ (Ne.symm e4))⟩)⟩
  · obtain ⟨v1, v2, rfl, hJ⟩ := h
    rw [fOf_end] at hJ
    obtain ⟨g, h, rfl, rfl, hH⟩ := hJ.both (by simp [hlt.1]) (by simp [hlt.2.1])
    simp only [hlt.2.2.1, hlt.2.2.2, decide_true, if_true] at hH
    exact any_out (rest g h w hH)
end
end Go.Proofs.YtlnafekmiidpkaaDoor.K
