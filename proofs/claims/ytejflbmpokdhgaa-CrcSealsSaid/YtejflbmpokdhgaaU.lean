/- My words for walks, second part: loads, stores and new blocks by search alone, whatever their type. -/
import Derived.Test.YtejflbmpokdhgaaProg
import Derived.Test.YtejflbmpokdhgaaK
import Derived.KernelRfl
import Derived.Lib.Hide
namespace Go.Proofs.Ytejflbmpokdhgaa.K
open Go.RowKit
set_option linter.unusedVariables false
theorem mixed : Try.prog.follows .mixedOrders = true := by kernel_rfl
/-- Of each type: how many cells, and whether it is of several by its kind. -/
def tyU : List (Nat × Nat × Bool) := [(1, 1, false), (2, 1, false), (3, 1, false), (4, 1, false), (5, 1, false), (6, 1, false), (7, 4, true), (8, 4, true), (9, 1, false), (10, 1, false), (11, 1, false), (12, 1, false), (13, 2, true), (14, 2, true), (15, 1, false), (16, 1, false), (17, 1, false), (18, 1, true), (19, 1, true), (20, 1, false), (21, 1, false), (22, 1, false), (23, 1, false), (24, 1, false), (25, 1, false), (27, 1, false), (29, 1, false), (30, 1, false), (31, 1, false), (32, 1, false), (33, 1, false), (34, 1, false), (35, 1, false), (36, 1, false), (37, 3, true), (38, 3, true), (39, 2, true), (40, 2, true), (41, 1, false), (42, 1, false), (43, 1, false), (44, 1, false), (45, 1, false), (46, 1, false), (47, 1, false), (48, 2, true), (49, 2, true), (50, 2, true), (51, 2, true), (52, 1, false), (53, 1, false), (54, 1, false), (55, 1, false), (56, 1, false), (57, 1, false), (58, 2, true), (59, 2, true), (60, 1, false), (61, 10, true), (62, 10, true), (63, 1, false), (64, 1, false), (65, 1, false), (66, 1, false), (67, 1, false), (68, 1, false), (69, 1, false), (70, 1, false), (71, 1, false), (72, 1, false), (73, 1, false), (75, 1, false), (77, 1, false), (78, 1, false), (79, 1, false), (80, 1, false), (81, 1, false), (82, 1, false), (83, 1, false), (84, 1, false), (85, 1, false), (86, 1, false), (87, 1, false), (88, 1, false), (89, 1, false), (90, 1, false), (91, 4, true), (92, 4, true), (94, 1, false), (95, 1, false), (96, 1, false), (97, 16, true), (98, 1, false), (99, 1, false), (100, 1, false), (101, 1, false), (102, 1, false), (103, 1, false), (104, 1, false), (105, 1, false), (106, 1, false), (107, 4, true), (108, 4, true), (112, 1, false), (113, 1, false), (114, 1, false), (115, 1, false), (116, 1, false), (117, 1, false), (118, 11, true), (119, 11, true), (120, 1, false)]
def aggB : TypeDesc → Bool
  | .struct _ | .array _ _ => true
  | _ => false
noncomputable def tyU_chk (e : Nat × Nat × Bool) : Bool := ((Try.prog.info? e.1).map (·.size) == some e.2.1) && (match Try.prog.underlying e.1 with | some d => aggB d == e.2.2 | none => false)
theorem tyU_ok : tyU.all tyU_chk = true := by kernel_rfl
def tyF (t : Nat) : List (Nat × Nat × Bool) → Option (Nat × Bool)
  | [] => none
  | e :: l => if e.1 = t then some e.2 else tyF t l
def tyQ (t : TypeId) : Option (Nat × Bool) := tyF t tyU
theorem tyF_mem {t : Nat} {x : Nat × Bool} : ∀ {l : List (Nat × Nat × Bool)}, tyF t l = some x → (t, x) ∈ l
  | [], h => by simp [tyF] at h
  | e :: l, h => by
    unfold tyF at h
    by_cases he : e.1 = t
    · rw [if_pos he] at h
      injection h with h
      subst he h
      simp
    · rw [if_neg he] at h
      exact List.mem_cons_of_mem _ (tyF_mem h)
theorem tyQ_ok {t : TypeId} {n : Nat} {b : Bool} (h : tyQ t = some (n, b)) : (Try.prog.info? t).map (·.size) = some n ∧ ∃ d, Try.prog.underlying t = some d ∧ aggB d = b := by
  have h1 := List.all_eq_true.1 tyU_ok _ (tyF_mem h)
  simp only [tyU_chk, Bool.and_eq_true] at h1
  obtain ⟨h1, h2⟩ := h1
  refine ⟨by simpa using h1, ?_⟩
  cases hu : Try.prog.underlying t with
  | none => rw [hu] at h2; cases h2
  | some d => rw [hu] at h2; exact ⟨d, rfl, by simpa using h2⟩
theorem aggB_eq (d : TypeDesc) : aggB d = (match d with | .struct _ | .array _ _ => true | _ => false) := rfl
/-! ### Finding. -/
inductive MemL : List Bk → Bk → Prop
  | here {b : Bk} {L : List Bk} : MemL (b :: L) b
  | next {b c : Bk} {L : List Bk} (h : MemL L b) : MemL (c :: L) b
theorem MemL.get {L : List Bk} {b : Bk} (h : MemL L b) : ∃ i : Nat, L[i]? = some b := by
  induction h with
  | here => exact ⟨0, rfl⟩
  | next _ ih => obtain ⟨i, hi⟩ := ih; exact ⟨i + 1, by simpa using hi⟩
/-- A block gets other cells. -/
inductive PickL : List Bk → Bk → Array Value → List Bk → Prop
  | here {g : Nat} {cs cs' : Array Value} {t : TypeId} {L : List Bk} : PickL (⟨g, cs, t⟩ :: L) ⟨g, cs, t⟩ cs' (⟨g, cs', t⟩ :: L)
  | next {b c : Bk} {cs' : Array Value} {L L' : List Bk} (h : PickL L b cs' L') : PickL (c :: L) b cs' (c :: L')
theorem PickL.get {L L' : List Bk} {b : Bk} {cs' : Array Value} (h : PickL L b cs' L') : ∃ i : Nat, L[i]? = some b ∧ L' = L.set i ⟨b.g, cs', b.t⟩ := by
  induction h with
  | here => exact ⟨0, rfl, rfl⟩
  | next _ ih => obtain ⟨i, hi, e⟩ := ih; exact ⟨i + 1, by simpa using hi, by simp [e]⟩
/-- n cells from a place on. -/
inductive SegL : List Value → Nat → Nat → List Value → Prop
  | done {cs : List Value} : SegL cs 0 0 []
  | take {c : Value} {cs s : List Value} {n : Nat} (h : SegL cs 0 n s) : SegL (c :: cs) 0 (n + 1) (c :: s)
  | skip {c : Value} {cs s : List Value} {o n : Nat} (h : SegL cs o n s) : SegL (c :: cs) (o + 1) n s
theorem SegL.len {cs s : List Value} {o n : Nat} (h : SegL cs o n s) : s.length = n ∧ ∀ (j : Nat) v, s[j]? = some v → cs[o + j]? = some v := by
  induction h with
  | done => exact ⟨rfl, fun j v h => by simp at h⟩
  | take _ ih =>
    refine ⟨by simp [ih.1], fun j v h => ?_⟩
    cases j with
    | zero => simpa using h
    | succ j => have := ih.2 j v (by simpa using h); simpa [Nat.add_comm, Nat.add_left_comm] using this
  | skip _ ih =>
    refine ⟨ih.1, fun j v h => ?_⟩
    have := ih.2 j v h
    rw [Nat.add_right_comm]
    simpa using this
/-- Cells written over others from a place on. -/
inductive SplL : List Value → Nat → List Value → List Value → Prop
  | done {cs : List Value} : SplL cs 0 [] cs
  | put {c v : Value} {cs vs s : List Value} (hv : v.oneCell' = true) (h : SplL cs 0 vs s) : SplL (c :: cs) 0 (v :: vs) (v :: s)
  | skip {c : Value} {cs vs s : List Value} {o : Nat} (h : SplL cs o vs s) : SplL (c :: cs) (o + 1) vs (c :: s)
theorem SplL.spl {cs vs s : List Value} {o : Nat} (h : SplL cs o vs s) : o + vs.length ≤ cs.length ∧ (∀ u ∈ vs, u.oneCell' = true) ∧ s = cs.take o ++ vs ++ cs.drop (o + vs.length) := by
  induction h with
  | done => exact ⟨by simp, by simp, by simp⟩
  | put hv _ ih => exact ⟨by have := ih.1; simp at this ⊢; omega, fun u hu => (List.mem_cons.1 hu).elim (fun e => e ▸ hv) (fun h => ih.2.1 u h), by have := ih.2.2; simp at this ⊢; exact this⟩
  | @skip c cs vs s o _ ih => exact ⟨by have := ih.1; simp; omega, ih.2.1, by rw [ih.2.2]; simp [Nat.add_right_comm]⟩
def nthL : List Value → Nat → Option Value
  | [], _ => none
  | v :: _, 0 => some v
  | _ :: l, n + 1 => nthL l n
theorem nthL_eq : ∀ (l : List Value) (n : Nat), nthL l n = l[n]?
  | [], _ => by simp [nthL]
  | v :: _, 0 => by simp [nthL]
  | _ :: l, n + 1 => by simp [nthL, nthL_eq l n]
def evO (a : Act) : Operand → Option Value
  | .tmp t => nthL a.tmps.toList t
  | .const v => some v
  | _ => none
theorem evO_eq {a : Act} {y : Operand} {v : Value} (h : evO a y = some v) : a.eval y = v := by
  cases y with
  | tmp t => simp only [evO, nthL_eq, Array.getElem?_toList] at h; simp [Act.eval, h]
  | const u => simp only [evO] at h; injection h
  | global => cases h
  | func => cases h
section
variable {ops : Array Oper} {rest : List Oper} {a : Act} {Q : Exit → Act → World → Prop}
variable {B : Nat} {S : Nat → Prop} {w0 w : World} {L : List Bk} {dst : Option Tmp} {t' : TypeId} {pos : String} {af : Array Edge} {ty : TypeId} {x y : Operand} {g off : Nat} {cs : Array Value} {l : List Value} {t : TypeId}
theorem is_append {t t2 : TypeId} (s x : Operand) (h : wpList Try.prog ops Q (⟨dst, .call { callee := .builtin .append, args := #[s, x], argTypes := #[t, t2] }, t', pos, af, none⟩ :: rest) a w) : wpList Try.prog ops Q (⟨dst, .call { callee := .builtin .append, args := #[s, x], argTypes := #[t, t2] }, t', pos, af, none⟩ :: rest) a w := h
theorem u_load (H : Hp B S w0 w L) (hx : a.eval x = .pointer (some ⟨g, off, none⟩)) (hm : MemL L ⟨g, l.toArray, t⟩) (ht : tyQ ty = some (1, false)) {v : Value} (hv : nthL l off = some v)
    (h : wpList Try.prog ops Q rest (a.put dst v) w) : wpList Try.prog ops Q (⟨dst, .load ty x, t', pos, af, none⟩ :: rest) a w := by
  obtain ⟨i, hi⟩ := hm.get
  obtain ⟨_, d, hu, hd⟩ := tyQ_ok ht
  exact k_load H i hi ty x rfl rfl off hx d hu (by cases d <;> first | rfl | (simp [aggB] at hd)) v (by rw [nthL_eq] at hv; simpa using hv) h
theorem u_seg (H : Hp B S w0 w L) (hx : a.eval x = .pointer (some ⟨g, off, none⟩)) (hm : MemL L ⟨g, l.toArray, t⟩) {n : Nat} (ht : tyQ ty = some (n, true)) {seg : List Value} (hs : SegL l off n seg)
    (h : wpList Try.prog ops Q rest (a.put dst (.agg seg.toArray)) w) : wpList Try.prog ops Q (⟨dst, .load ty x, t', pos, af, none⟩ :: rest) a w := by
  obtain ⟨i, hi⟩ := hm.get
  obtain ⟨hn, d, hu, hd⟩ := tyQ_ok ht
  exact k_seg H i hi ty x rfl rfl off hx d hu (by cases d <;> first | rfl | (simp [aggB] at hd)) n hn seg hs.len.1 (fun j v hj => by simpa using hs.len.2 j v hj) h
/-- A whole block, whatever its cells. -/
theorem u_row (H : Hp B S w0 w L) (hx : a.eval x = .pointer (some ⟨g, 0, none⟩)) (hm : MemL L ⟨g, cs, t⟩) {n : Nat} (ht : tyQ ty = some (n, true)) (hs : cs.size = n)
    (h : wpList Try.prog ops Q rest (a.put dst (.agg cs)) w) : wpList Try.prog ops Q (⟨dst, .load ty x, t', pos, af, none⟩ :: rest) a w := by
  obtain ⟨i, hi⟩ := hm.get
  obtain ⟨hn, d, hu, hd⟩ := tyQ_ok ht
  exact k_row H i hi ty x rfl rfl hx d hu (by cases d <;> first | rfl | (simp [aggB] at hd)) (hn.trans (by rw [hs])) h
theorem Hp.pick {b : Bk} {cs' : Array Value} {L' : List Bk} {w1 : World} (hp : PickL L b cs' L') (h : ∀ i : Nat, L[i]? = some b → Hp B S w0 w1 (L.set i ⟨b.g, cs', b.t⟩)) : Hp B S w0 w1 L' := by
  obtain ⟨i, hi, e⟩ := hp.get
  rw [e]
  exact h i hi
theorem u_store (H : Hp B S w0 w L) (hx : a.eval x = .pointer (some ⟨g, off, none⟩)) {v : Value} (hy : a.eval y = v) {out : List Value} {L' : List Bk} (hm : PickL L ⟨g, l.toArray, t⟩ out.toArray L') {n : Nat} {b : Bool} (ht : tyQ ty = some (n, b))
    (hn : v.cells.size = n) (hs : SplL l off v.cells.toList out)
    (h : ∀ w1, Hp B S w0 w1 L' → wpList Try.prog ops Q rest a w1) : wpList Try.prog ops Q (⟨none, .store ty x y, t', pos, af, none⟩ :: rest) a w := by
  obtain ⟨i, hi, e⟩ := hm.get
  obtain ⟨hk, _⟩ := tyQ_ok ht
  obtain ⟨h1, h2, h3⟩ := hs.spl
  exact k_store H i hi ty x y rfl rfl rfl off hx v hy (hk.trans (by rw [hn])) (by simpa using h1) h2 out.toArray (by rw [h3]; simp [spl]) (fun w1 hw => h w1 (by rw [e]; exact hw))
theorem cells_one' {v : Value} (h : v.oneCell' = true) : v.cells = #[v] := by cases v <;> simp_all [Value.oneCell', Value.cells]
/-- A value of one cell. -/
theorem u_store1 (H : Hp B S w0 w L) (hx : a.eval x = .pointer (some ⟨g, off, none⟩)) {v : Value} (hy : evO a y = some v) (hv : v.oneCell' = true) (_ : MemL L ⟨g, l.toArray, t⟩) {out : List Value} (hs : SplL l off [v] out) {L' : List Bk} (hm : PickL L ⟨g, l.toArray, t⟩ out.toArray L') {b : Bool} (ht : tyQ ty = some (1, b))
    (h : ∀ w1, Hp B S w0 w1 L' → wpList Try.prog ops Q rest a w1) : wpList Try.prog ops Q (⟨none, .store ty x y, t', pos, af, none⟩ :: rest) a w :=
  u_store H hx (evO_eq hy) hm ht (by rw [cells_one' hv]; rfl) (by rw [cells_one' hv]; exact hs) h
/-- A value of several cells. -/
theorem u_storeS (H : Hp B S w0 w L) (hx : a.eval x = .pointer (some ⟨g, off, none⟩)) {vs : List Value} (hy : evO a y = some (.agg vs.toArray)) (_ : MemL L ⟨g, l.toArray, t⟩) {out : List Value} (hs : SplL l off vs out) {L' : List Bk} (hm : PickL L ⟨g, l.toArray, t⟩ out.toArray L') {n : Nat} {b : Bool} (ht : tyQ ty = some (n, b)) (hn : vs.length = n)
    (h : ∀ w1, Hp B S w0 w1 L' → wpList Try.prog ops Q rest a w1) : wpList Try.prog ops Q (⟨none, .store ty x y, t', pos, af, none⟩ :: rest) a w :=
  u_store H hx (evO_eq hy) hm ht (by simpa [Value.cells] using hn) (by simpa [Value.cells] using hs) h
/-- At a place that is computed. -/
theorem u_storeAt (H : Hp B S w0 w L) (hx : a.eval x = .pointer (some ⟨g, off, none⟩)) {v : Value} (hy : evO a y = some v) (hv : v.oneCell' = true) (_ : MemL L ⟨g, cs, t⟩) (hoff : off < cs.size) {L' : List Bk} (hm : PickL L ⟨g, cs, t⟩ (cs.setIfInBounds off v) L') {b : Bool} (ht : tyQ ty = some (1, b))
    (h : ∀ w1, Hp B S w0 w1 L' → wpList Try.prog ops Q rest a w1) : wpList Try.prog ops Q (⟨none, .store ty x y, t', pos, af, none⟩ :: rest) a w := by
  obtain ⟨i, hi, e⟩ := hm.get
  obtain ⟨hk, _⟩ := tyQ_ok ht
  refine k_store H i hi ty x y rfl rfl rfl off hx v (evO_eq hy) (hk.trans (by rw [cells_one' hv]; rfl)) (by rw [cells_one' hv]; exact hoff) (by rw [cells_one' hv]; intro u hu; simp at hu; subst hu; exact hv) (cs.setIfInBounds off v) ?_ (fun w1 hw => h w1 (by rw [e]; exact hw))
  rw [cells_one' hv]
  simp only [spl]
  apply Array.ext'
  simp only [Array.toList_setIfInBounds, List.length_cons, List.length_nil]
  rw [List.set_eq_take_append_cons_drop, if_pos (by simpa using hoff)]
  simp
theorem u_loadAt (H : Hp B S w0 w L) (hx : a.eval x = .pointer (some ⟨g, off, none⟩)) (hm : MemL L ⟨g, cs, t⟩) (ht : tyQ ty = some (1, false)) {v : Value} (hv : cs[off]? = some v)
    (h : wpList Try.prog ops Q rest (a.put dst v) w) : wpList Try.prog ops Q (⟨dst, .load ty x, t', pos, af, none⟩ :: rest) a w := by
  obtain ⟨i, hi⟩ := hm.get
  obtain ⟨_, d, hu, hd⟩ := tyQ_ok ht
  exact k_load H i hi ty x rfl rfl off hx d hu (by cases d <;> first | rfl | (simp [aggB] at hd)) v hv h
/-- A whole block gets the cells of a value. -/
theorem u_over (H : Hp B S w0 w L) (hx : a.eval x = .pointer (some ⟨g, 0, none⟩)) {cs' : Array Value} (hy : a.eval y = .agg cs') {L' : List Bk} (hm : PickL L ⟨g, cs, t⟩ cs' L') {n : Nat} (ht : tyQ ty = some (n, true))
    (hn : cs'.size = n) (hl : cs'.size = cs.size) (h1 : ∀ u ∈ cs'.toList, u.oneCell' = true)
    (h : ∀ w1, Hp B S w0 w1 L' → wpList Try.prog ops Q rest a w1) : wpList Try.prog ops Q (⟨none, .store ty x y, t', pos, af, none⟩ :: rest) a w := by
  obtain ⟨i, hi, e⟩ := hm.get
  obtain ⟨hk, _⟩ := tyQ_ok ht
  exact k_over H i hi ty x y rfl rfl rfl hx cs' hy (hk.trans (by rw [hn])) hl h1 (fun w1 hw => h w1 (by rw [e]; exact hw))
/-- A new block, ahead of the others. -/
theorem Hp.cons (h : Hp B S w0 w L) (cs : Array Value) (t : TypeId) : Hp B S w0 (w.alloc (.cells cs t)) (⟨w.heap.size, cs, t⟩ :: L) := by
  have h1 := h.call ((Below.refl w.heap.size w).alloc (Nat.le_refl _) (.cells cs t))
  refine ⟨h1.os, h1.tape, h1.output, h1.size0, h1.size, h1.old, fun i b hi => ?_, fun i j b c hi hj e => ?_⟩
  · cases i with
    | zero => simp at hi; subst hi; exact ⟨heap_alloc_new _ _, .inl h.size⟩
    | succ i => exact h1.at_ i b (by simpa using hi)
  · cases i with
    | zero =>
      cases j with
      | zero => rfl
      | succ j => simp at hi hj; subst hi; have := h.lt hj; simp at e; omega
    | succ i =>
      cases j with
      | zero => simp at hi hj; subst hj; have := h.lt hi; simp at e; omega
      | succ j => have := h.apart i j b c (by simpa using hi) (by simpa using hj) e; omega
theorem u_new {K : Act → World → Prop} (H : Hp B S w0 w L) (h : ∀ g w1, g = w.heap.size → Hp B S w0 w1 (⟨g, cs, t⟩ :: L) → K a w1) : K a (w.alloc (.cells cs t)) := h _ _ rfl (H.cons cs t)
theorem u_was {w0 w : World} {L : List Bk} (H : Hp w0.heap.size (fun _ => False) w0 w L) {ad : Addr} {v : Value} (hc : w0.cell? ad = some v) (hx : a.eval x = .pointer (some ad)) (ht : tyQ ty = some (1, false))
    (h : wpList Try.prog ops Q rest (a.put dst v) w) : wpList Try.prog ops Q (⟨dst, .load ty x, t', pos, af, none⟩ :: rest) a w := by
  obtain ⟨_, d, hu, hd⟩ := tyQ_ok ht
  exact k_was H hc ty x rfl rfl hx d hu (by cases d <;> first | rfl | (simp [aggB] at hd)) h
/-- A cell of the world as it stands. -/
theorem u_cell {ad : Addr} {v : Value} (hx : a.eval x = .pointer (some ad)) (ht : tyQ ty = some (1, false)) (hc : w.cell? ad = some v)
    (h : wpList Try.prog ops Q rest (a.put dst v) w) : wpList Try.prog ops Q (⟨dst, .load ty x, t', pos, af, none⟩ :: rest) a w := by
  obtain ⟨_, d, hu, hd⟩ := tyQ_ok ht
  refine wanted_step rfl fun K hK => ?_
  have hagg : (isAgg ty).run Try.prog w = .ok false w := by
    unfold isAgg
    rw [Sem.run_bind, run_underlying hu w]
    cases d <;> simp_all [aggB]
  have hrun : (loadVar ty ad).run Try.prog w = .ok v w := by simp [loadVar, Sem.run_bind, hagg, hc, load, Sem.run]
  unfold Oper.wp execOp
  simp only [hx, Instr.loadAt, Instr.sureAddr, Sem.run_bind, Sem.run_pure, Result.andThen_ok, hrun]
  exact hK _ _ h
theorem u_cells {ad : Addr} {n : Nat} {seg : List Value} (hx : a.eval x = .pointer (some ad)) (ht : tyQ ty = some (n, true)) (hs : seg.length = n) (hv : ∀ (j : Nat) v, seg[j]? = some v → w.cell? (ad.add j) = some v)
    (h : wpList Try.prog ops Q rest (a.put dst (.agg seg.toArray)) w) : wpList Try.prog ops Q (⟨dst, .load ty x, t', pos, af, none⟩ :: rest) a w := by
  obtain ⟨hn, d, hu, hd⟩ := tyQ_ok ht
  exact k_segw ty x rfl rfl hx d hu (by cases d <;> first | rfl | (simp [aggB] at hd)) n hn seg hs hv h
end
section
variable {fn : Func} {tmps : Array Value} {B : Nat} {S : Nat → Prop} {w0 w : World} {L : List Bk} {p : Tmp} {ty : TypeId} {g : Nat} {cs : Array Value} {l : List Value} {t : TypeId}
theorem u_rv (H : Hp B S w0 w L) (hx : tmps.getD p undef = .pointer (some ⟨g, 0, none⟩)) (hm : MemL L ⟨g, l.toArray, t⟩) (ht : tyQ ty = some (1, false)) {v : Value} (hv : nthL l 0 = some v) : RV Try.prog tmps w (.cell p ty) v := by
  obtain ⟨i, hi⟩ := hm.get
  obtain ⟨_, d, hu, hd⟩ := tyQ_ok ht
  exact rv_one H i hi hx hu (by cases d <;> first | rfl | (simp [aggB] at hd)) (by rw [nthL_eq] at hv; simpa using hv)
theorem u_rvs (H : Hp B S w0 w L) (hx : tmps.getD p undef = .pointer (some ⟨g, 0, none⟩)) (hm : MemL L ⟨g, cs, t⟩) {n : Nat} (ht : tyQ ty = some (n, true)) (hs : cs.size = n) : RV Try.prog tmps w (.cell p ty) (.agg cs) := by
  obtain ⟨i, hi⟩ := hm.get
  obtain ⟨hn, d, hu, hd⟩ := tyQ_ok ht
  exact rv_row H i hi hx hu (by cases d <;> first | rfl | (simp [aggB] at hd)) (hn.trans (by rw [hs]))
end
/-- A call that was handed known blocks: others are as they were, of those it was handed some have other cells. -/
theorem Hp.turned {B : Nat} {S : Nat → Prop} {w0 w w1 : World} {L L' : List Bk} (H : Hp B S w0 w L) (T : Nat → Prop) (hsz : w.heap.size ≤ w1.heap.size) (hos : w1.os = w.os) (htp : w1.tape = w.tape) (hout : w1.output = w.output)
    (hk : ∀ k, k < w.heap.size → ¬ T k → w1.heap[k]? = w.heap[k]?) (hT : ∀ k, T k → B ≤ k ∨ S k)
    (hL : ∀ (i : Nat) (b : Bk), L'[i]? = some b → ∃ c, L[i]? = some c ∧ c.g = b.g ∧ (b = c ∧ ¬ T b.g ∨ w1.heap[b.g]? = some (.cells b.cs b.t (0, 0)))) : Hp B S w0 w1 L' := by
  refine ⟨hos.trans H.os, htp.trans H.tape, hout.trans H.output, Nat.le_trans H.size0 hsz, Nat.le_trans H.size hsz, fun k hkB hS => ?_, fun i b hi => ?_, fun i j b c hi hj e => ?_⟩
  · rw [hk k (Nat.lt_of_lt_of_le hkB H.size) (fun hT' => (hT k hT').elim (fun h => Nat.not_le_of_lt hkB h) hS)]
    exact H.old k hkB hS
  · obtain ⟨c, hc, hg, h⟩ := hL i b hi
    refine ⟨?_, by rw [← hg]; exact (H.at_ i c hc).2⟩
    rcases h with ⟨rfl, hn⟩ | h
    · rw [hk _ (H.lt hc) hn]
      exact (H.at_ i b hc).1
    · exact h
  · obtain ⟨b', hb', e1, _⟩ := hL i b hi
    obtain ⟨c', hc', e2, _⟩ := hL j c hj
    exact H.apart i j b' c' hb' hc' (by rw [e1, e2, e])
end Go.Proofs.Ytejflbmpokdhgaa.K
