/- Between my words for walks and the print's words: variables in memory that came in, and what their slices lead to. -/
import Derived.Test.YtejflbmpokdhgaaU
import Derived.Test.YtejflbmpokdhgaaR
import Derived.Test.YtejflbmpokdhgaaBits
import Derived.Test.YtejflbmpokdhgaaWWords
import Derived.Test.YtejflbmpokdhgaaWMore
namespace Go.Proofs.Ytejflbmpokdhgaa.K
open Go.RowKit Go.Proofs.YtejflbmpokdhgaaW.PrintWords
set_option linter.unusedVariables false
theorem Hp.obj {w : World} {g : Nat} {cs : Array Value} {t : TypeId} (h : w.heap[g]? = some (.cells cs t (0, 0))) : Hp w.heap.size (fun k => k = g) w w [⟨g, cs, t⟩] :=
  ⟨rfl, rfl, rfl, Nat.le_refl _, Nat.le_refl _, fun _ _ _ => rfl, fun i b hi => by
    cases i with
    | zero => simp at hi; subst hi; exact ⟨h, .inr rfl⟩
    | succ i => simp at hi, fun i j b c hi hj _ => by
    have h1 := (List.getElem?_eq_some_iff.1 hi).1
    have h2 := (List.getElem?_eq_some_iff.1 hj).1
    simp at h1 h2
    omega⟩
/-- A number of a slice that is read. -/
theorem C_int {k : IntKind} {w : World} {A : Option Addr} {n : Nat} {xs : List Int} (h : Kd.C (Kd.int k) w A n xs) (i : Nat) (hi : i < n) : ∃ ad, A = some ad ∧ w.cell? (ad.add i) = some (.int k (xs.getD i 0)) := by
  obtain ⟨ad, cs, rfl, _, hcs, hrd⟩ := Kd.C_get h 0 i (by omega) (by omega)
  obtain rfl : cs = [.int k (xs.getD i 0)] := hcs
  have h1 := hrd 0 _ rfl
  rw [show (Kd.int k).sz = 1 from rfl, Int.toNat_natCast, Nat.mul_one, Nat.add_zero] at h1
  exact ⟨ad, rfl, h1⟩
theorem info_int (k : IntKind) (e : TypeId) (b : Nat) (h : (Try.prog.info? e).map (fun i => (i.zero, i.size, i.bytes)) = some (some (.int k 0), 1, b)) : (Try.prog.info? e).map (fun i => (i.zero, i.size, i.bytes)) = some (some (.int k 0), (Kd.int k).sz, b) := h
/-- 'append(nil, xs...)' of whole numbers. -/
theorem u_append_nil {ops : Array Oper} {rest : List Oper} {a : Act} {Q : Exit → Act → World → Prop} {W : World} {dst : Option Tmp} {t' : TypeId} {pos : String} {af : Array Edge} {s x : Operand} {t e : TypeId} {k : IntKind} {bytes : Nat}
    (hs : a.eval s = .slice none 0 0) {A : Option Addr} {m c : Nat} (hx : a.eval x = .slice A m c) {ys : List Int} (hC : Kd.C (Kd.int k) W A m ys) (ht : Try.prog.underlying t = some (.slice e)) (hinfo : (Try.prog.info? e).map (fun i => (i.zero, i.size, i.bytes)) = some (some (.int k 0), 1, bytes)) (hb0 : 0 < bytes) (hl : m * bytes ≤ 140737488355328)
    (h : ∀ v1 w1, Kd.R (Kd.int k) e w1 W.heap.size (fun _ => True) v1 ys → Below W.heap.size W w1 → wpList Try.prog ops Q rest (a.put dst v1) w1) :
    wpList Try.prog ops Q (⟨dst, .call { callee := .builtin .append, args := #[s, x], argTypes := #[t, t] }, t', pos, af, none⟩ :: rest) a W := by
  refine Kd.R_append_rows (Kd.int k) (w0 := W) W.heap.size rfl s x t e (.int k 0) bytes rfl ht hinfo rfl Nat.zero_lt_one hb0 (.slice none 0 0) [] ys A m c (fun _ => True) (fun _ => False) hs hx (Kd.R_nil _ _ _ _ _) hC (fun _ _ h => h) (fun _ h => h.elim) (fun _ _ => trivial) (Below.refl _ _) (Nat.le_refl _) (by simpa using hl) (fun v1 w1 h1 h2 _ _ => h v1 w1 (by simpa using h1) h2)
/-- 'string(bytes)'. -/
theorem u_strof {ops : Array Oper} {rest : List Oper} {a : Act} {Q : Exit → Act → World → Prop} {w : World} {dst : Option Tmp} {t' : TypeId} {pos : String} {af : Array Edge} {x : Operand} {t s e : TypeId}
    {A : Option Addr} {m c : Nat} (hx : a.eval x = .slice A m c) {ys : List Int} (hC : Kd.C (Kd.int .u8) w A m ys) (ht : Try.prog.underlying t = some (.slice e)) (he : Try.prog.underlying e = some (.int .u8)) (hs : Try.prog.underlying s = some .string)
    (h : wpList Try.prog ops Q rest (a.put dst (.string (strOfNums ys))) w) : wpList Try.prog ops Q (⟨dst, .convert t s x, t', pos, af, none⟩ :: rest) a w := by
  refine wanted_step rfl fun K hK => ?_
  have hr := Kd.C_string (c := c) ht he hs hC
  unfold Oper.wp execOp
  simp only [hx, Sem.run_bind, hr, Result.andThen_ok, Sem.run_pure]
  exact hK _ _ h
theorem is_convert {ops : Array Oper} {rest : List Oper} {a : Act} {Q : Exit → Act → World → Prop} {w : World} {dst : Option Tmp} {t' : TypeId} {pos : String} {af : Array Edge} {t s : TypeId} (x : Operand)
    (h : wpList Try.prog ops Q (⟨dst, .convert t s x, t', pos, af, none⟩ :: rest) a w) : wpList Try.prog ops Q (⟨dst, .convert t s x, t', pos, af, none⟩ :: rest) a w := h
section
variable {w0 w w' : World} {g : Nat} {L L' : List Bk}
theorem Hp.keep (H : Hp w.heap.size (fun k => k = g) w w' L) : KeepBut w w' g none := ⟨H.size0, fun i hi hne _ => H.old i hi hne⟩
theorem Hp.below0 (H : Hp w.heap.size (fun k => k = g) w w' L) (hB : Below w0.heap.size w0 w) (hg : w0.heap.size ≤ g) : Below w0.heap.size w0 w' :=
  ⟨H.os.trans hB.os, H.tape.trans hB.tape, H.output.trans hB.output, Nat.le_trans hB.size H.size0, fun k hk => (H.old k (Nat.lt_of_lt_of_le hk hB.size) (fun e => by have e : k = g := e; omega)).trans (hB.block k hk)⟩
theorem Hp.came (H : Hp w.heap.size (fun k => k = g) w w' L) (hB : Below w0.heap.size w0 w) (hg : w0.heap.size ≤ g) {ad : Addr} {v : Value} (hc : w0.cell? ad = some v) : w'.cell? ad = some v := pw_cell_below (H.below0 hB hg) hc
theorem Hp.blk {B : Nat} {S : Nat → Prop} {w0 w : World} {cs : Array Value} {t : TypeId} (H : Hp B S w0 w L) (hm : MemL L ⟨g, cs, t⟩) : w.heap[g]? = some (.cells cs t (0, 0)) := by
  obtain ⟨i, hi⟩ := hm.get
  exact (H.at_ i _ hi).1
/-- Behind a call that was handed a known block. -/
theorem Hp.state {B : Nat} {S : Nat → Prop} {v0 : World} {cs cs' : Array Value} {t : TypeId} (H : Hp B S v0 w L) (hm : PickL L ⟨g, cs, t⟩ cs' L') (hb0 : Below w0.heap.size w0 w) (hb1 : Below w0.heap.size w0 w') (hk : KeepBut w w' g none)
    (hc : w'.heap[g]? = some (.cells cs' t (0, 0))) : Hp B S v0 w' L' := by
  obtain ⟨i, hi, rfl⟩ := hm.get
  refine H.turned (fun k => k = g) hk.1 (hb1.os.trans hb0.os.symm) (hb1.tape.trans hb0.tape.symm) (hb1.output.trans hb0.output.symm) (fun k hk1 hne => hk.2 k hk1 hne (by simp)) (fun k e => by have e : k = g := e; subst e; exact (H.at_ i _ hi).2) (fun j b hj => ?_)
  by_cases hij : i = j
  · subst hij
    rw [List.getElem?_set_self (List.getElem?_eq_some_iff.1 hi).1] at hj
    injection hj with hj
    subst hj
    exact ⟨_, hi, rfl, .inr hc⟩
  · rw [List.getElem?_set_ne hij] at hj
    exact ⟨b, hj, rfl, .inl ⟨rfl, fun e => hij (H.apart i j _ b hi hj (Eq.symm e))⟩⟩
end
/-- A block that is new to what is known. -/
theorem Hp.add {B : Nat} {S : Nat → Prop} {v0 w w1 : World} {L : List Bk} {g : Nat} {cs : Array Value} {t : TypeId} (H : Hp B S v0 w L) (hb : Below w.heap.size w w1) (hg : w.heap.size ≤ g) (hc : w1.heap[g]? = some (.cells cs t (0, 0))) : Hp B S v0 w1 (⟨g, cs, t⟩ :: L) := by
  have h1 := H.call hb
  refine ⟨h1.os, h1.tape, h1.output, h1.size0, h1.size, h1.old, fun i b hi => ?_, fun i j b c hi hj e => ?_⟩
  · cases i with
    | zero => simp at hi; subst hi; exact ⟨hc, .inl (Nat.le_trans H.size hg)⟩
    | succ i => exact h1.at_ i b (by simpa using hi)
  · cases i with
    | zero =>
      cases j with
      | zero => rfl
      | succ j => simp at hi hj; subst hi; have := H.lt hj; simp at e; omega
    | succ i =>
      cases j with
      | zero => simp at hi hj; subst hj; have := H.lt hi; simp at e; omega
      | succ j => have := h1.apart i j b c (by simpa using hi) (by simpa using hj) e; omega
/-- Numbers that lie in a known block. -/
theorem C_blk {k : IntKind} {B : Nat} {S : Nat → Prop} {v0 w : World} {L : List Bk} {g : Nat} {cs : Array Value} {t : TypeId} (H : Hp B S v0 w L) (hm : MemL L ⟨g, cs, t⟩) (ys : List Int) (hl : ys.length ≤ 9223372036854775807) (hv : ∀ (i : Nat) (y : Int), ys[i]? = some y → cs[i]? = some (.int k y)) : Kd.C (Kd.int k) w (some ⟨g, 0, none⟩) ys.length ys := by
  refine Kd.C_of_reads (d := (0 : Int)) ?_
  refine ⟨rfl, hl, fun _ => ⟨_, rfl, fun j hj => ?_⟩⟩
  rw [add_plain, cell_of_row w g j cs t (0, 0) (H.blk hm), hv j ys[j] (List.getElem?_eq_getElem hj)]
  simp [List.getD_eq_getElem?_getD, List.getElem?_eq_getElem hj]
theorem C_cells {k : IntKind} {w : World} {g : Nat} {cs : Array Value} {t : TypeId} {fr : Nat × Nat} (H : w.heap[g]? = some (.cells cs t fr)) (ys : List Int) (hl : ys.length ≤ 9223372036854775807) (hv : ∀ (i : Nat) (y : Int), ys[i]? = some y → cs[i]? = some (.int k y)) : Kd.C (Kd.int k) w (some ⟨g, 0, none⟩) ys.length ys := by
  refine Kd.C_of_reads (d := (0 : Int)) ?_
  refine ⟨rfl, hl, fun _ => ⟨_, rfl, fun j hj => ?_⟩⟩
  rw [add_plain, cell_of_row w g j cs t fr H, hv j ys[j] (List.getElem?_eq_getElem hj)]
  simp [List.getD_eq_getElem?_getD, List.getElem?_eq_getElem hj]
/-- '[]byte("abc")': a row's conversion to its own type, which marks it; from here on it is read only. -/
theorem u_mark {ops : Array Oper} {rest : List Oper} {a : Act} {Q : Exit → Act → World → Prop} {w : World} {dst : Option Tmp} {t' : TypeId} {pos : String} {af : Array Edge} {x : Operand} {t e : TypeId} {B : Nat} {S : Nat → Prop} {w0 : World} {L : List Bk} {g : Nat} {cs : Array Value} {n c : Nat}
    (HA : Hp B S w0 w (⟨g, cs, e⟩ :: L)) (hx : a.eval x = .slice (some ⟨g, 0, none⟩) n c) (ht : Try.prog.underlying t = some (.slice e)) (he : Try.prog.underlying e = some (.int .u8))
    (h : ∀ w1, Hp B S w0 w1 L → w1.heap[g]? = some (.cells cs e (cs.size, cs.size + 1)) → wpList Try.prog ops Q rest (a.put dst (.slice (some ⟨g, 0, none⟩) n c)) w1) :
    wpList Try.prog ops Q (⟨dst, .convert t t x, t', pos, af, none⟩ :: rest) a w := by
  refine wanted_step rfl fun K hK => ?_
  have hb := (HA.at_ 0 _ rfl)
  have hb1 : w.heap[g]? = some (.cells cs e (0, 0)) := hb.1
  have hsh : w.shape? g = some (e, cs.size) := by
    unfold World.shape?
    rw [hb1]
  have hr : (convert t t (.slice (some ⟨g, 0, none⟩) n c)).run Try.prog w = .ok (.slice (some ⟨g, 0, none⟩) n c) (w.freeze ⟨g, cs.size, none⟩ 1) := by
    simp [convert, run_underlying ht, run_underlying he, markStringish, hsh]
  have hg1 : (w.freeze ⟨g, cs.size, none⟩ 1).heap[g]? = some (.cells cs e (cs.size, cs.size + 1)) := by
    unfold World.freeze
    rw [if_neg (by decide)]
    simp only [Array.getElem?_modify, if_true, hb1]
    rfl
  have hk : ∀ k, k ≠ g → (w.freeze ⟨g, cs.size, none⟩ 1).heap[k]? = w.heap[k]? := by
    intro k hk
    unfold World.freeze
    rw [if_neg (by decide)]
    simp only [Array.getElem?_modify]
    rw [if_neg (fun h => hk h.symm)]
  have hsz : (w.freeze ⟨g, cs.size, none⟩ 1).heap.size = w.heap.size := by
    unfold World.freeze
    rw [if_neg (by decide)]
    simp
  unfold Oper.wp execOp
  simp only [hx, Sem.run_bind, hr, Result.andThen_ok, Sem.run_pure]
  refine hK _ _ (h _ ?_ hg1)
  have HL : Hp B S w0 w L := ⟨HA.os, HA.tape, HA.output, HA.size0, HA.size, HA.old, fun i b hi => HA.at_ (i + 1) b (by simpa using hi), fun i j b c hi hj e => by
    have := HA.apart (i + 1) (j + 1) b c (by simpa using hi) (by simpa using hj) e
    omega⟩
  refine HL.turned (fun k => k = g) (Nat.le_of_eq hsz.symm) rfl rfl rfl (fun k _ hne => hk k hne) (fun k e => by have e : k = g := e; subst e; exact hb.2) (fun i b hi => ?_)
  refine ⟨b, hi, rfl, .inl ⟨rfl, fun e => ?_⟩⟩
  have e : b.g = g := e
  have := HA.apart (i + 1) 0 b ⟨g, cs, _⟩ (by simpa using hi) rfl e
  omega
/-- A row of the call's own, laid open. -/
theorem R_open {k : IntKind} {e : TypeId} {w : World} {base : Nat} {ok : Nat → Prop} {v : Value} {ys : List Int} (h : Kd.R (Kd.int k) e w base ok v ys) :
    (v = .slice none 0 0 ∧ ys = []) ∨ ∃ g c cs, v = .slice (some ⟨g, 0, none⟩) ys.length c ∧ base ≤ g ∧ ys.length ≤ c ∧ w.heap[g]? = some (.cells cs e (0, 0)) ∧ ∀ (i : Nat) (y : Int), ys[i]? = some y → cs[i]? = some (.int k y) := by
  obtain ⟨_, inner, ⟨hl, ho⟩, hr⟩ := h
  rcases ho with ⟨rfl, h0⟩ | ⟨g, cap, cur, rfl, hb, hh, h1, h2, h3, h4⟩
  · exact .inl ⟨rfl, List.eq_nil_of_length_eq_zero h0⟩
  · refine .inr ⟨g, cap, cur, rfl, hb, h1, hh, fun i y hy => ?_⟩
    have h5 := hr.2 i y hy
    have h6 : (inner.drop (i * (Kd.int k).sz)).take (Kd.int k).sz = [.int k y] := h5
    have e1 : (Kd.int k).sz = 1 := rfl
    rw [e1, Nat.mul_one] at h6
    have h7 : inner[i]? = some (.int k y) := by
      have := congrArg (fun l => l[0]?) h6
      simpa [List.getElem?_take, List.getElem?_drop] using this
    rw [← h4, e1, Nat.mul_one] at h7
    have hi : i < ys.length := (List.getElem?_eq_some_iff.1 hy).1
    rw [List.getElem?_take_of_lt hi] at h7
    simpa using h7
end Go.Proofs.Ytejflbmpokdhgaa.K
