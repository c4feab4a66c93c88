/- Typed arguments as abstract values; from a contract to what is said of every input. -/
import Derived.Test.YtlnafekmiidpkaaDoorS26
import Derived.WalkKit
import Derived.ProofKit
import Derived.OpenShut
import Derived.ShutString
import Derived.ChangeOld
import Derived.Below
import Derived.SizedLaws
import Derived.Deep.Slices
namespace Go.Proofs.YtlnafekmiidpkaaDoor.S
open Go.ChangeShapes Go.WideShapes Go.ChangeAt Go.RowKit Go.Deep
set_option linter.all false
set_option linter.unusedVariables false
set_option linter.unusedSimpArgs false
/-- The shape of a cell. -/
inductive Tsh
  | int (k : IntKind) | bool | str | sl (r : List Tsh)
def shFs (g : TypeId → Option (List Tsh)) (P : Program) : List Field → Nat → Option (List Tsh)
  | [], _ => some []
  | f :: fs, off => match g f.type with
    | some s => if f.offset = off ∧ P.cellsOf f.type = s.length then (shFs g P fs (off + s.length)).map (s ++ ·) else none
    | none => none
def repS : Nat → List Tsh → List Tsh
  | 0, _ => []
  | n + 1, r => r ++ repS n r
def shOf (P : Program) : Nat → TypeId → Option (List Tsh)
  | 0, _ => none
  | n + 1, t => match P.underlying t with
    | some (.int k) => some [.int k]
    | some .bool => some [.bool]
    | some .string => some [.str]
    | some (.slice e) => match shOf P n e with
      | some r => if 0 < r.length ∧ P.cellsOf e = r.length then some [.sl r] else none
      | none => none
    | some (.struct fs) => match shFs (shOf P n) P fs.toList 0 with
      | some s => if P.cellsOf t = s.length then some s else none
      | none => none
    | some (.array m e) => match shOf P n e with
      | some r => if P.cellsOf e = r.length ∧ P.cellsOf t = m * r.length then some (repS m r) else none
      | none => none
    | _ => none
inductive IsAV : Tsh → AV → Prop
  | int (k n) (h : (Lit.int k n).wf = true) : IsAV (.int k) (.int k n)
  | bool (b) : IsAV .bool (.bool b)
  | str (s : ByteArray) (h : s.size ≤ maxLen) : IsAV .str (.str s)
  | sl (r : List Tsh) (xs : List (List AV)) (hl : xs.length ≤ maxLen) (hn : ∀ row ∈ xs, row.length = r.length) (h : ∀ (row : List AV), row ∈ xs → ∀ (j : Nat) s a, r[j]? = some s → row[j]? = some a → IsAV s a) : IsAV (.sl r) (.ro r.length xs)
def allB (w : World) : Nat → Prop := fun b => b < w.heap.size
def CellOK (w : World) (s : Tsh) (v : Value) : Prop := ∃ a, Lf (allB w) w a v ∧ IsAV s a ∧ v.oneCell' = true
section
variable {H : Type} {enc : TypeId × Value → H} {P : Program} {w : World} {base : Nat} {sp : Nat → Bool} {hd : Bool}
theorem shFs_open {g : TypeId → Option (List Tsh)} (hg : ∀ t sh fuel cs x, g t = some sh → DataW.trod enc P w base sp hd fuel t cs = some x → cs.length = sh.length ∧ ∀ (j : Nat) s v, sh[j]? = some s → cs[j]? = some v → CellOK w s v) {fuel : Nat} {cs : List Value} :
    ∀ (fs : List Field) (off : Nat) (sh : List Tsh), shFs g P fs off = some sh → (∀ f ∈ fs, ∃ x, DataW.trod enc P w base sp hd fuel f.type ((cs.drop f.offset).take (P.cellsOf f.type)) = some x) →
      ∀ (j : Nat) s v, sh[j]? = some s → cs[off + j]? = some v → CellOK w s v
  | [], off, sh, h, _, j, s, v, hs, _ => by simp [shFs] at h; subst h; simp at hs
  | f :: fs, off, sh, h, hx, j, s, v, hs, hv => by
    simp only [shFs] at h
    split at h
    · rename_i s1 e1
      split at h
      · rename_i e2
        obtain ⟨e2, e3⟩ := e2
        rw [Option.map_eq_some_iff] at h
        obtain ⟨s2, h2, rfl⟩ := h
        obtain ⟨x, hx1⟩ := hx f (by simp)
        obtain ⟨h4, h5⟩ := hg _ _ _ _ _ e1 hx1
        by_cases hj : j < s1.length
        · rw [List.getElem?_append_left hj] at hs
          refine h5 j s v hs ?_
          rw [e2, e3, List.getElem?_take_of_lt hj, List.getElem?_drop]
          exact hv
        · rw [List.getElem?_append_right (by omega)] at hs
          exact shFs_open hg fs (off + s1.length) s2 h2 (fun f hf => hx f (by simp [hf])) (j - s1.length) s v hs (by rw [show off + s1.length + (j - s1.length) = off + j by omega]; exact hv)
      · cases h
    · cases h
theorem repS_len (r : List Tsh) : ∀ n, (repS n r).length = n * r.length
  | 0 => by simp [repS]
  | n + 1 => by simp [repS, repS_len r n, Nat.add_mul, Nat.add_comm]
theorem repS_at (r : List Tsh) : ∀ n j s, (repS n r)[j]? = some s → ∃ i q, i < n ∧ j = i * r.length + q ∧ r[q]? = some s
  | 0, j, s, h => by simp [repS] at h
  | n + 1, j, s, h => by
    simp only [repS] at h
    by_cases hj : j < r.length
    · rw [List.getElem?_append_left hj] at h
      exact ⟨0, j, by omega, by omega, h⟩
    · rw [List.getElem?_append_right (by omega)] at h
      obtain ⟨i, q, h1, h2, h3⟩ := repS_at r n _ s h
      exact ⟨i + 1, q, by omega, by rw [Nat.add_mul]; omega, h3⟩
theorem cell_blk {w : World} {a : Addr} {v : Value} (h : w.cell? a = some v) : a.block < w.heap.size ∧ a = at_ a.block a.off := by
  unfold World.cell? at h
  split at h
  · rename_i e
    refine ⟨(Array.getElem?_eq_some_iff.1 e).1, ?_⟩
    split at h
    · cases h
    · rename_i e2
      cases a with
      | mk b o s =>
        cases s with
        | none => rfl
        | some s => simp at e2
  · cases h
theorem add_at (b o q : Nat) : (at_ b o).add q = at_ b (o + q) := by
  unfold Addr.add at_
  split
  · rename_i e; rw [e]; rfl
  · rfl
theorem open_sh : ∀ (n : Nat) (t : TypeId) (sh : List Tsh) (fuel : Nat) (cs : List Value) (x : DataW H × List MemPlace), shOf P n t = some sh → DataW.trod enc P w base sp hd fuel t cs = some x → cs.length = sh.length ∧ ∀ (j : Nat) s v, sh[j]? = some s → cs[j]? = some v → CellOK w s v
  | 0, t, sh, fuel, cs, x, h, _ => by simp [shOf] at h
  | n + 1, t, sh, fuel, cs, x, h, hx => by
    have ih := open_sh n
    simp only [shOf] at h
    have one : ∀ (s0 : Tsh) (v0 : Value), sh = [s0] → cs = [v0] → CellOK w s0 v0 → cs.length = sh.length ∧ ∀ (j : Nat) s v, sh[j]? = some s → cs[j]? = some v → CellOK w s v := by
      rintro s0 v0 rfl rfl h0
      refine ⟨rfl, fun j s v e1 e2 => ?_⟩
      cases j with
      | zero => simp at e1 e2; subst e1; subst e2; exact h0
      | succ j => simp at e1
    split at h
    · rename_i k e
      injection h with h
      obtain ⟨m, h1, _, h2⟩ := DataW.trod_int e hx
      exact one _ _ h.symm h1 ⟨_, .int k m, .int k m h2, rfl⟩
    · rename_i e
      injection h with h
      obtain ⟨b, h1, _⟩ := DataW.trod_bool e hx
      exact one _ _ h.symm h1 ⟨_, .bool b, .bool b, rfl⟩
    · rename_i e
      injection h with h
      obtain ⟨s, h1, _, h2⟩ := DataW.trod_string e hx
      exact one _ _ h.symm h1 ⟨_, .str s, .str s h2, rfl⟩
    · rename_i el e
      split at h
      · rename_i r er
        split at h
        · rename_i e2
          obtain ⟨hr0, hc⟩ := e2
          injection h with h
          rcases open_slice e hx with ⟨h1, _⟩ | ⟨a, len, cap, m, n', D, Pl, h1, _, hlc, hcm, hm, _, hel⟩
          · exact one _ _ h.symm h1 ⟨.ro r.length [], .ro0 _ none 0 (fun _ => rfl), .sl r [] (Nat.zero_le _) (by simp) (by simp), rfl⟩
          · have hlm : len ≤ m := by rw [hm]; split <;> omega
            rw [hc] at hel
            have cell : ∀ q, q < len * r.length → ∃ p : AV × Value, w.cell? (a.add q) = some p.2 ∧ Lf (allB w) w p.1 p.2 ∧ (∀ s, r[q % r.length]? = some s → IsAV s p.1) ∧ p.2.oneCell' = true := by
              intro q hq
              have hi : q / r.length < len := Nat.div_lt_of_lt_mul (by rw [Nat.mul_comm]; exact hq)
              have hj : q % r.length < r.length := Nat.mod_lt _ hr0
              obtain ⟨cs', h2, h3⟩ := hel (q / r.length) (by omega)
              obtain ⟨_, h4, h5⟩ := World.cells?_some h2
              obtain ⟨h6, h7⟩ := ih _ _ _ _ _ er h3
              have h8 := h5 (q % r.length) hj
              have hv : cs'[q % r.length]? = some cs'[q % r.length] := List.getElem?_eq_getElem (by omega)
              have hs : r[q % r.length]? = some r[q % r.length] := List.getElem?_eq_getElem hj
              obtain ⟨av, h9, h10, h11⟩ := h7 _ _ _ hs hv
              refine ⟨(av, cs'[q % r.length]), ?_, h9, fun s e => ?_, h11⟩
              · rw [hv] at h8
                have hadd : (a.add (q / r.length * r.length)).add (q % r.length) = a.add q := by
                  have := Nat.div_add_mod q r.length
                  rw [Nat.mul_comm] at this
                  rw [add_add, this]
                rw [← hadd]; exact h8
              · rw [hs] at e; injection e with e; subst e; exact h10
            haveI : Inhabited (AV × Value) := ⟨(.any, undef)⟩
            obtain ⟨F, hF⟩ := choose_lt cell
            by_cases hl0 : len = 0
            · subst hl0
              exact one _ _ h.symm h1 ⟨.ro r.length [], .ro0 _ (some a) cap (fun h => by cases h), .sl r [] (Nat.zero_le _) (by simp) (by simp), rfl⟩
            · have h0 := (hF 0 (Nat.mul_pos (by omega) hr0)).1
              obtain ⟨hb, ha⟩ := cell_blk h0
              have hadd0 : a.add 0 = a := by unfold Addr.add; simp
              rw [hadd0] at hb ha
              let xs : List (List AV) := (List.range len).map fun i => (List.range r.length).map fun j => (F (i * r.length + j)).1
              have hxl : xs.length = len := by simp [xs]
              refine one _ _ h.symm h1 ⟨.ro r.length xs, ?_, .sl r xs (by rw [hxl]; omega) (fun row hrow => ?_) (fun row hrow j s av e1 e2 => ?_), rfl⟩
              · rw [ha]
                have := Lf.ro (Pr := allB w) (w := w) r.length xs a.block a.off cap (fun q => (F q).2) hb (by rw [hxl]; exact hlc) (fun row hrow => by
                    obtain ⟨i, _, rfl⟩ := List.mem_map.1 hrow; simp) (fun i row j av e1 e2 => by
                    simp only [xs, List.getElem?_map, Option.map_eq_some_iff] at e1
                    obtain ⟨i', hi', rfl⟩ := e1
                    simp only [List.getElem?_map, Option.map_eq_some_iff] at e2
                    obtain ⟨j', hj', rfl⟩ := e2
                    have hi2 : i < len ∧ i' = i := by
                      obtain ⟨a1, a2⟩ := List.getElem?_eq_some_iff.1 hi'
                      simp at a1 a2
                      exact ⟨a1, a2.symm⟩
                    have hj2 : j < r.length ∧ j' = j := by
                      obtain ⟨a1, a2⟩ := List.getElem?_eq_some_iff.1 hj'
                      simp at a1 a2
                      exact ⟨a1, a2.symm⟩
                    obtain ⟨hi2, rfl⟩ := hi2
                    obtain ⟨hj2, rfl⟩ := hj2
                    exact (hF _ (by
                      have : (i' + 1) * r.length ≤ len * r.length := Nat.mul_le_mul_right _ hi2
                      rw [Nat.add_mul] at this; omega)).2.1) (fun q hq => by
                    rw [hxl] at hq
                    obtain ⟨g1, _, _, g2⟩ := hF q hq
                    rw [ha, add_at] at g1
                    exact ⟨g1, g2⟩)
                rw [hxl] at this
                exact this
              · obtain ⟨i, _, rfl⟩ := List.mem_map.1 hrow; simp
              · obtain ⟨i, hi, rfl⟩ := List.mem_map.1 hrow
                have hi := List.mem_range.1 hi
                simp only [List.getElem?_map, Option.map_eq_some_iff] at e2
                obtain ⟨j', hj', rfl⟩ := e2
                have hj2 : j < r.length ∧ j' = j := by
                  obtain ⟨a1, a2⟩ := List.getElem?_eq_some_iff.1 hj'
                  simp at a1 a2
                  exact ⟨a1, a2.symm⟩
                obtain ⟨hj2, rfl⟩ := hj2
                refine (hF (i * r.length + j') (by
                  have : (i + 1) * r.length ≤ len * r.length := Nat.mul_le_mul_right _ hi
                  rw [Nat.add_mul] at this; omega)).2.2.1 s ?_
                rw [Nat.mul_comm, Nat.mul_add_mod, Nat.mod_eq_of_lt hj2]
                exact e1
        · cases h
      · cases h
    · rename_i fs e
      split at h
      · rename_i s1 e1
        split at h
        · rename_i e2
          injection h with h
          subst h
          obtain ⟨xs, n', _, _, h3, h4, h5⟩ := DataW.trod_struct e hx
          refine ⟨by rw [h3, e2], fun j s v hs hv => shFs_open ih fs.toList 0 s1 e1 (fuel := n') (cs := cs) (fun f hf => ?_) j s v hs (by rw [Nat.zero_add]; exact hv)⟩
          obtain ⟨i, hi⟩ := List.getElem?_of_mem hf
          have hi' : fs[i]? = some f := by simpa using hi
          have hlt : i < xs.length := by rw [h4]; exact (Array.getElem?_eq_some_iff.1 hi').1
          exact ⟨xs[i], by rw [h5 i f hi']; exact List.getElem?_eq_getElem hlt⟩
        · cases h
      · cases h
    · rename_i m el e
      split at h
      · rename_i r er
        split at h
        · rename_i e2
          obtain ⟨hc, ht⟩ := e2
          injection h with h
          subst h
          obtain ⟨xs, n', _, _, h3, h4, h5⟩ := DataW.trod_array e hx
          refine ⟨by rw [h3, ht, repS_len], fun j s v hs hv => ?_⟩
          obtain ⟨i, q', hi, rfl, hq⟩ := repS_at r m j s hs
          have hx1 := h5 i hi
          rw [List.getElem?_eq_getElem (by omega), hc] at hx1
          have hq' := (List.getElem?_eq_some_iff.1 hq).1
          refine (ih _ _ _ _ _ er hx1).2 q' s v hq ?_
          rw [List.getElem?_take_of_lt hq', List.getElem?_drop]
          exact hv
        · cases h
      · cases h
    · cases h
end
end Go.Proofs.YtlnafekmiidpkaaDoor.S
namespace Go.Proofs.YtlnafekmiidpkaaDoor.S
open Go.ChangeShapes Go.WideShapes Go.ChangeAt Go.RowKit Go.Deep
theorem law_calls {P : Program} {f : Nat} {args : List AV} {vs : Array Value} {w : World} (hgl : GlobOK (allB w) w) (h : ACalls P f args [] (fun r hs => r = .bool true ∧ hs = [])) (hn : vs.size = args.length) (hv : ∀ (j : Nat) a v, args[j]? = some a → vs[j]? = some v → Lf (allB w) w a v) :
    Calls P f vs w fun e w' => e = .returned (.bool true) ∧ Below w.heap.size w w' := by
  refine (h.2 (fun _ => ⟨0, undef⟩) (allB w) w vs ⟨fun k hk => absurd hk (Nat.not_lt_zero k), fun i j hi => absurd hi (Nat.not_lt_zero i), fun k hk => absurd hk (Nat.not_lt_zero k), fun b hb => hb, hgl⟩ ⟨hn, fun j a v e1 e2 => .lf (hv j a v e1 e2)⟩).mono fun e w' hf => ?_
  obtain ⟨v, r, hs, gs, Pr, rfl, ⟨rfl, rfl⟩, hz, _, hk, _⟩ := hf
  rw [hz.bool]
  exact ⟨rfl, hk.os, hk.tape, hk.output, hk.size, fun b hb => hk.block b hb (fun ⟨k, h, _⟩ => absurd h (Nat.not_lt_zero k))⟩
/-- The same, of arguments that are told otherwise. -/
theorem law_calls2 {P : Program} {f : Nat} {args args2 : List AV} {vs : Array Value} {w : World} (hgl : GlobOK (allB w) w) (h : ACalls P f args2 [] (fun r hs => r = .bool true ∧ hs = [])) (hm : mtcL args2 args) (hn : vs.size = args.length) (hv : ∀ (j : Nat) a v, args[j]? = some a → vs[j]? = some v → Lf (allB w) w a v) :
    Calls P f vs w fun e w' => e = .returned (.bool true) ∧ Below w.heap.size w w' := by
  obtain ⟨hl, hg⟩ := mtcL_get hm
  refine (h.2 (fun _ => ⟨0, undef⟩) (allB w) w vs ⟨fun k hk => absurd hk (Nat.not_lt_zero k), fun i j hi => absurd hi (Nat.not_lt_zero i), fun k hk => absurd hk (Nat.not_lt_zero k), fun b hb => hb, hgl⟩ ⟨hn.trans hl.symm, fun j a v e1 e2 => ?_⟩).mono fun e w' hf => ?_
  · have hj : j < args2.length := (List.getElem?_eq_some_iff.1 e1).1
    have h3 := hg j
    have hj' : j < args.length := by omega
    rw [List.getD_eq_getElem?_getD, e1, List.getD_eq_getElem?_getD, List.getElem?_eq_getElem hj'] at h3
    exact mtc_ok h3 (.lf (hv j _ v (List.getElem?_eq_getElem hj') e2))
  · obtain ⟨v, r, hs, gs, Pr, rfl, ⟨rfl, rfl⟩, hz, _, hk, _⟩ := hf
    rw [hz.bool]
    exact ⟨rfl, hk.os, hk.tape, hk.output, hk.size, fun b hb => hk.block b hb (fun ⟨k, h, _⟩ => absurd h (Nat.not_lt_zero k))⟩
theorem wf_range {k : IntKind} {n : Int} (h : (Lit.int k n).wf = true) : k.min ≤ n ∧ n ≤ k.max := by
  simpa [Lit.wf, IntKind.has, Bool.and_eq_true, decide_eq_true_eq] using h
theorem rows_map {α : Type} {p : List AV → α → Prop} : ∀ (xs : List (List AV)), (∀ row ∈ xs, ∃ y, p row y) → ∃ l : List α, xs.length = l.length ∧ ∀ (i : Nat) row y, xs[i]? = some row → l[i]? = some y → p row y
  | [], _ => ⟨[], rfl, by simp⟩
  | x :: xs, h => by
    obtain ⟨y, hy⟩ := h x (by simp)
    obtain ⟨l, h1, h2⟩ := rows_map xs (fun row hr => h row (by simp [hr]))
    refine ⟨y :: l, by simp [h1], fun i row z e1 e2 => ?_⟩
    cases i with
    | zero => simp at e1 e2; subst e1; subst e2; exact hy
    | succ i => exact h2 i row z (by simpa using e1) (by simpa using e2)
/-- Rows of one shape, by a function of what each tells. -/
theorem rows_of {α : Type} (g : α → List AV) (q : α → Prop) (xs : List (List AV)) (h : ∀ row ∈ xs, ∃ y, row = g y ∧ q y) : ∃ l : List α, xs = l.map g ∧ ∀ y ∈ l, q y := by
  obtain ⟨l, h1, h2⟩ := rows_map xs h
  refine ⟨l, List.ext_getElem? fun i => ?_, fun y hy => ?_⟩
  · by_cases hi : i < xs.length
    · rw [List.getElem?_map, List.getElem?_eq_getElem hi, List.getElem?_eq_getElem (show i < l.length by omega)]
      simp [(h2 i _ _ (List.getElem?_eq_getElem hi) (List.getElem?_eq_getElem (show i < l.length by omega))).1]
    · rw [List.getElem?_eq_none (by omega), List.getElem?_eq_none (by simp; omega)]
  · obtain ⟨i, hi⟩ := List.getElem?_of_mem hy
    have hl := (List.getElem?_eq_some_iff.1 hi).1
    exact (h2 i _ y (List.getElem?_eq_getElem (show i < xs.length by omega)) hi).2
theorem av_int {k : IntKind} {a : AV} (h : IsAV (.int k) a) : ∃ n, a = .int k n ∧ (Lit.int k n).wf = true := by cases h with | int _ n h => exact ⟨n, rfl, h⟩
theorem av_bool {a : AV} (h : IsAV .bool a) : ∃ b, a = .bool b := by cases h with | bool b => exact ⟨b, rfl⟩
theorem av_str {a : AV} (h : IsAV .str a) : ∃ s, a = .str s ∧ s.size ≤ maxLen := by cases h with | str s h => exact ⟨s, rfl, h⟩
theorem av_sl {r : List Tsh} {a : AV} (h : IsAV (.sl r) a) : ∃ xs, a = .ro r.length xs ∧ xs.length ≤ maxLen ∧ ∀ row ∈ xs, row.length = r.length ∧ ∀ (j : Nat) s a, r[j]? = some s → row[j]? = some a → IsAV s a := by
  cases h with | sl _ xs hl hn h => exact ⟨xs, rfl, hl, fun row hr => ⟨hn row hr, h row hr⟩⟩
theorem av_u8s {a : AV} (h : IsAV (.sl [.int .u8]) a) : ∃ l, a = .ro 1 (u8s l) ∧ l.length ≤ maxLen ∧ ∀ x ∈ l, 0 ≤ x ∧ x ≤ 255 := by
  obtain ⟨xs, rfl, hl, hr⟩ := av_sl h
  obtain ⟨l, rfl, h2⟩ := rows_of (fun n => [AV.int .u8 n]) (fun x => 0 ≤ x ∧ x ≤ 255) xs (fun row hrow => by
    obtain ⟨h1, h2⟩ := hr row hrow
    match row, h1 with
    | [a], _ =>
      obtain ⟨n, rfl, hw⟩ := av_int (h2 0 _ _ rfl rfl)
      exact ⟨n, rfl, wf_range hw⟩)
  exact ⟨l, rfl, by simpa using hl, h2⟩
end Go.Proofs.YtlnafekmiidpkaaDoor.S
