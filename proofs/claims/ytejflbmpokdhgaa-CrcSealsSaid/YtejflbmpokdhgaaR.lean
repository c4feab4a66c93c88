/- A region of open order, operation by operation in the text's order. -/
import Derived.Test.YtejflbmpokdhgaaK
namespace Go.Proofs.Ytejflbmpokdhgaa.K
open Go.RowKit
set_option linter.unusedVariables false
section
variable {P : Program} {ops : Array Oper} {Q : Exit → Act → World → Prop}
/-- Frames that agree on what an operation looks at. -/
theorem op_congr {i : Nat} {o : Oper} {a b : Act} {J K : Act → World → Prop} {w : World} (ho : ops[i]? = some o) (hns : ∀ cs b, o.op ≠ .select cs b) (hag : ∀ t ∈ o.looksAt ops, a.tmps[t]? = b.tmps[t]?)
    (good : wpOp P ops (QOut Q) i J a w) (hdf : ∀ a' w', J a' w' → a'.defers = a.defers) (next : ∀ u w', J (a.put o.dst u) w' → K (b.put o.dst u) w') : wpOp P ops (QOut Q) i K b w := by
  have hev : ∀ x ∈ o.op.operands, b.eval x = a.eval x := by
    intro x hx
    cases x with
    | tmp t =>
      have hm : t ∈ o.looksAt ops := List.mem_append_left _ (List.mem_filterMap.2 ⟨.tmp t, by simpa using hx, rfl⟩)
      have := hag t hm
      simp [Act.eval, this]
    | const v => rfl
    | global g => rfl
    | func f => rfl
  have hex : execOp b.eval o = execOp a.eval o := execOp_congr o hns hev
  have hwa : Region.wanted o (yielded ops b.tmps) = Region.wanted o (yielded ops a.tmps) := by
    unfold Region.wanted
    cases hg : o.guard with
    | none => rfl
    | some gw =>
      obtain ⟨g, want⟩ := gw
      have hy : yielded ops b.tmps g = yielded ops a.tmps g := by
        unfold yielded
        cases hd : (ops[g]?).bind (·.dst) with
        | none => rfl
        | some t =>
          have hm : t ∈ o.looksAt ops := List.mem_append_right _ (by simp [hg, hd])
          have := hag t hm
          simp [this]
      simp only [hy]
  unfold wpOp at good ⊢
  simp only [ho] at good ⊢
  rw [hwa]
  split
  · rename_i hw
    simp only [hw, if_true] at good
    rcases good with good | ⟨hasks, hlets⟩
    case inr => exact .inr ⟨by unfold Oper.asks at *; rw [hex]; exact hasks, hlets⟩
    refine .inl ?_
    unfold Oper.wp at *
    rw [hex]
    generalize (execOp a.eval o).run P w = r at *
    cases r with
    | ok n w' =>
      cases n <;> simp only [Oper.upon] at good ⊢
      case value u => exact next _ _ good
      case skip => exact next _ _ good
      case defer d =>
        have := congrArg List.length (hdf _ _ good)
        cases hd : o.dst <;> simp [Act.put, hd] at this
      case enter f args =>
        refine Calls.mono good fun e w'' he => ?_
        cases e with
        | returned u => exact next _ _ he
        | panicked c => exact he.elim
        | outgrown => exact he
      case row row args => exact Rows.mono good fun u w'' he => next _ _ he
    | halt x w' =>
      cases x <;> simp only [Oper.upon] at good ⊢
      case panic u => exact good.elim
  · rename_i hw
    simp only [hw] at good
    exact next _ _ good
end
/-- What each operation waits for, through others too: a bit each. -/
def closN (ops : Array Oper) : Nat → List Nat
  | 0 => []
  | i + 1 => let l := closN ops i; l ++ [match ops[i]? with
    | some o => (needs o).foldl (fun m j => m ||| (1 <<< j) ||| l.getD j 0) 0
    | none => 0]
theorem closN_len (ops : Array Oper) : ∀ n, (closN ops n).length = n
  | 0 => rfl
  | n + 1 => by simp [closN, closN_len ops n]
theorem closN_at (ops : Array Oper) (n : Nat) : ∀ m, n < m → (closN ops m).getD n 0 = (match ops[n]? with
    | some o => (needs o).foldl (fun m j => m ||| (1 <<< j) ||| (closN ops n).getD j 0) 0
    | none => 0)
  | 0, h => by omega
  | m + 1, h => by
    by_cases e : n = m
    · subst e
      simp only [closN]
      rw [List.getD_eq_getElem?_getD, List.getElem?_append_right (by rw [closN_len]; omega), closN_len]
      simp
    · rw [← closN_at ops n m (by omega)]
      simp only [closN]
      rw [List.getD_eq_getElem?_getD, List.getElem?_append_left (by rw [closN_len]; omega), ← List.getD_eq_getElem?_getD]
theorem fold_bit (c : Nat → Nat) (j : Nat) : ∀ (l : List Nat) (m : Nat), (l.foldl (fun m j => m ||| (1 <<< j) ||| c j) m).testBit j = true → m.testBit j = true ∨ j ∈ l ∨ ∃ k ∈ l, (c k).testBit j = true
  | [], m, h => .inl h
  | k :: l, m, h => by
    rcases fold_bit c j l _ h with h | h | ⟨q, h1, h2⟩
    · simp only [Nat.testBit_or, Bool.or_eq_true] at h
      rcases h with (h | h) | h
      · exact .inl h
      · refine .inr (.inl ?_)
        rw [Nat.testBit_shiftLeft] at h
        simp only [Bool.and_eq_true, decide_eq_true_eq, Nat.testBit_one_eq_true_iff_self_eq_zero] at h
        have : j = k := by omega
        simp [this]
      · exact .inr (.inr ⟨k, by simp, h⟩)
    · exact .inr (.inl (by simp [h]))
    · exact .inr (.inr ⟨q, by simp [h1], h2⟩)
/-- Is operation j waited for by i? -/
def waitsB (ops : Array Oper) (i j : Nat) : Bool := ((closN ops ops.size).getD i 0).testBit j
theorem clos_shut {ops : Array Oper} {f : Nat → Bool} (hs : Shut ops f) (hlt : ∀ i o, ops[i]? = some o → ∀ j ∈ needs o, j < i) (j : Nat) : ∀ i, i < ops.size → f i = true → waitsB ops i j = true → f j = true := by
  intro i
  induction i using Nat.strongRecOn with
  | _ i ih =>
    intro hi hf hw
    unfold waitsB at hw
    rw [closN_at ops i _ hi, Array.getElem?_eq_getElem hi] at hw
    simp only at hw
    rcases fold_bit (fun k => (closN ops i).getD k 0) j _ _ hw with h | h | ⟨k, hk, h⟩
    · simp at h
    · exact hs i _ (Array.getElem?_eq_getElem hi) hf j h
    · have hki := hlt i _ (Array.getElem?_eq_getElem hi) k hk
      refine ih k hki (by omega) (hs i _ (Array.getElem?_eq_getElem hi) hf k hk) ?_
      unfold waitsB
      rw [closN_at ops k _ (by omega)]
      rw [closN_at ops k _ hki] at h
      exact h
theorem clos_early {ops : Array Oper} {f : Nat → Bool} {i : Nat} (ht : Turn ops f i) (hlt : ∀ i o, ops[i]? = some o → ∀ j ∈ needs o, j < i) (j : Nat) (hi : i < ops.size) (hw : waitsB ops i j = true) : f j = true := by
  unfold waitsB at hw
  rw [closN_at ops i _ hi, Array.getElem?_eq_getElem hi] at hw
  simp only at hw
  rcases fold_bit (fun k => (closN ops i).getD k 0) j _ _ hw with h | h | ⟨k, hk, h⟩
  · simp at h
  · exact ht.early _ (Array.getElem?_eq_getElem hi) j (List.contains_iff_mem.2 h)
  · have hki := hlt i _ (Array.getElem?_eq_getElem hi) k hk
    refine clos_shut ht.shut hlt j k (by omega) (ht.early _ (Array.getElem?_eq_getElem hi) k (List.contains_iff_mem.2 hk)) ?_
    unfold waitsB
    rw [closN_at ops k _ (by omega)]
    rw [closN_at ops k _ hki] at h
    exact h
theorem clos_late {ops : Array Oper} {f : Nat → Bool} {i : Nat} (ht : Turn ops f i) (hlt : ∀ i o, ops[i]? = some o → ∀ j ∈ needs o, j < i) (s : Nat) (hs : s < ops.size) (hw : waitsB ops s i = true) : f s = false := by
  cases h : f s with
  | false => rfl
  | true => have := clos_shut ht.shut hlt i s hs h hw; rw [ht.self] at this; cases this
/-- An operation that asks nothing of memory. -/
def pureB (o : Oper) : Bool := match o.op with
  | .move _ | .assign _ | .pick .. | .nilCheck _ | .binOp .. | .unOp .. | .fieldAddr .. | .field .. | .indexAddr .. | .extract .. => true
  | _ => false
/-- All that ask something of memory stand before, or behind, each of those that turn it. -/
def turnsOk (ops : Array Oper) (T : List Nat) : Bool :=
  (List.range ops.size).all fun i => match ops[i]? with
    | some o => T.all fun t => (i == t && !pureB o) || (pureB o && i != t) || (if t < i then waitsB ops i t else waitsB ops t i)
    | none => false
section
variable {P : Program} (ops : Array Oper) (Q : Exit → Act → World → Prop) (B : Nat) (S : Nat → Prop) (w0 : World)
/-- The operations from number i on, in the text's order. -/
inductive RSeq (P : Program) (T D : List Nat) : List Oper → Nat → List Bk → Act → Prop
  | skip {o : Oper} {os : List Oper} {i : Nat} {L : List Bk} {a : Act} (hD : D.contains i = true) (t : RSeq P T D os (i + 1) L a) : RSeq P T D (o :: os) i L a
  | done {i : Nat} {L : List Bk} {a : Act} (h : ∀ w, Hp B S w0 w L → Q .normal a w) : RSeq P T D [] i L a
  | pure {o : Oper} {os : List Oper} {i : Nat} {L : List Bk} {a : Act} {v : Value} (hD : D.contains i = false) (hp : pureB o = true) (h : ∀ w (K : Act → World → Prop), K (a.put o.dst v) w → wpList P ops (Exit.then K (QOut Q)) [o] a w)
      (t : RSeq P T D os (i + 1) L (a.put o.dst v)) : RSeq P T D (o :: os) i L a
  | mem {o : Oper} {os : List Oper} {i : Nat} {L : List Bk} {a : Act} {v : Value} (hD : D.contains i = false) (hp : pureB o = false) (hT : T.contains i = false) (h : ∀ w, Hp B S w0 w L → ∀ (K : Act → World → Prop), (∀ w', Hp B S w0 w' L → K (a.put o.dst v) w') → wpList P ops (Exit.then K (QOut Q)) [o] a w)
      (t : RSeq P T D os (i + 1) L (a.put o.dst v)) : RSeq P T D (o :: os) i L a
  | turn {o : Oper} {os : List Oper} {i : Nat} {L L' : List Bk} {a : Act} {v : Value} (hD : D.contains i = false) (hp : pureB o = false) (hT : T.contains i = true) (h : ∀ w, Hp B S w0 w L → ∀ (K : Act → World → Prop), (∀ w', Hp B S w0 w' L' → K (a.put o.dst v) w') → wpList P ops (Exit.then K (QOut Q)) [o] a w)
      (t : RSeq P T D os (i + 1) L' (a.put o.dst v)) : RSeq P T D (o :: os) i L a
end
section
variable {P : Program} {ops : Array Oper} {Q : Exit → Act → World → Prop} {B : Nat} {S : Nat → Prop} {w0 : World}
theorem put_defers (a : Act) (d : Option Tmp) (u : Value) : (a.put d u).defers = a.defers := by cases d <;> rfl
theorem put_last {a aF : Act} {V : List (Tmp × Value)} {d : Option Tmp} {u v : Value} (h : fillL V (a.put d v) = aF) (hV : ∀ e ∈ V, some e.1 ≠ d) (hu : a.put d u = a.put d v) : aF.put d u = aF := by
  cases d with
  | none => rfl
  | some t =>
    have hs := (fillL_size V (a.put (some t) v)).1
    rw [h] at hs
    have hsz : aF.tmps.size = a.tmps.size := by rw [hs]; simp [Act.put]
    by_cases ht : t < a.tmps.size
    · have e1 : u = v := by
        have := congrArg (fun b : Act => b.tmps[t]?) hu
        simpa [Act.put, Array.getElem?_setIfInBounds_self_of_lt ht] using this
      subst e1
      have e2 : aF.tmps[t]? = some u := by
        rw [← h, fillL_off V t _ (fun e he hh => hV e he (by rw [hh]))]
        simp [Act.put, Array.getElem?_setIfInBounds_self_of_lt ht]
      have e3 : aF.tmps.setIfInBounds t u = aF.tmps := by
        apply Array.ext_getElem?
        intro j
        by_cases hj : t = j
        · subst hj; rw [Array.getElem?_setIfInBounds_self_of_lt (show t < aF.tmps.size by rw [hsz]; exact ht), e2]
        · rw [Array.getElem?_setIfInBounds_ne hj]
      show ({ aF with tmps := aF.tmps.setIfInBounds t u } : Act) = aF
      rw [e3]
    · have e3 : aF.tmps.setIfInBounds t u = aF.tmps := Array.setIfInBounds_eq_of_size_le (show aF.tmps.size ≤ t by rw [hsz]; exact Nat.le_of_not_lt ht)
      show ({ aF with tmps := aF.tmps.setIfInBounds t u } : Act) = aF
      rw [e3]
/-- The slots that are filled from one operation on. -/
def vcons (d : Option Tmp) (v : Value) (V : List (Tmp × Value)) : List (Tmp × Value) := match d with
  | some t => (t, v) :: V
  | none => V
theorem fillL_vcons (d : Option Tmp) (v : Value) (V : List (Tmp × Value)) (a : Act) : fillL (vcons d v V) a = fillL V (a.put d v) := by
  cases d <;> rfl
theorem vcons_mem {d : Option Tmp} {v : Value} {V : List (Tmp × Value)} {e : Tmp × Value} (h : e ∈ vcons d v V) : some e.1 = d ∨ e ∈ V := by
  cases d with
  | none => exact .inr h
  | some t =>
    rcases List.mem_cons.1 h with h | h
    · exact .inl (by rw [h])
    · exact .inr h
/-- What a sequence leaves: the frame at the end; the blocks at each number; what each operation does at that frame. -/
theorem rseq_out (hns : ∀ (k : Nat) (o : Oper), ops[k]? = some o → ∀ cs b, o.op ≠ .select cs b) (hlk : ∀ (k : Nat) (o : Oper), ops[k]? = some o → ∀ j, k ≤ j → ∀ t, dstOf ops j = some t → t ∉ o.looksAt ops) (hds : ∀ j k t, dstOf ops j = some t → dstOf ops k = some t → j = k)
    {T D : List Nat} {os : List Oper} {i : Nat} {L : List Bk} {a : Act} (h : RSeq ops Q B S w0 P T D os i L a) : (∀ j, ops[i + j]? = os[j]?) →
    ∃ (aF : Act) (V : List (Tmp × Value)) (Ls : Nat → List Bk), fillL V a = aF ∧ (∀ e ∈ V, ∃ j, i ≤ j ∧ j < i + os.length ∧ D.contains j = false ∧ dstOf ops j = some e.1) ∧ Ls i = L ∧
      (∀ j, i ≤ j → j < i + os.length → T.contains j = false → Ls (j + 1) = Ls j) ∧
      (∀ j, i ≤ j → j < i + os.length → D.contains j = false → ∃ o, ops[j]? = some o ∧
        ((pureB o = true ∧ ∀ w, wpOp P ops (QOut Q) j (fun a' w' => a' = aF ∧ w' = w) aF w) ∨ (pureB o = false ∧ ∀ w, Hp B S w0 w (Ls j) → wpOp P ops (QOut Q) j (fun a' w' => a' = aF ∧ Hp B S w0 w' (Ls (j + 1))) aF w))) ∧
      (∀ w, Hp B S w0 w (Ls (i + os.length)) → Q .normal aF w) := by
  have step : ∀ {i : Nat} {o : Oper} {os : List Oper} {a aF : Act} {V : List (Tmp × Value)} {v : Value} {w : World} {J : World → Prop}, (∀ j, ops[i + j]? = (o :: os)[j]?) → fillL V (a.put o.dst v) = aF → (∀ e ∈ V, ∃ j, i + 1 ≤ j ∧ j < i + 1 + os.length ∧ D.contains j = false ∧ dstOf ops j = some e.1) →
      (∀ (K : Act → World → Prop), (∀ w', J w' → K (a.put o.dst v) w') → wpList P ops (Exit.then K (QOut Q)) [o] a w) → wpOp P ops (QOut Q) i (fun a' w' => a' = aF ∧ J w') aF w := by
    intro i o os a aF V v w J ho hf hV hop
    have ho0 : ops[i]? = some o := by simpa using ho 0
    have hop1 := op_of_list ho0 (hop (fun a' w' => a' = a.put o.dst v ∧ J w') (fun w' hJ => ⟨rfl, hJ⟩))
    refine op_congr ho0 (hns i o ho0) (fun t ht => ?_) hop1 (fun a' w' hJ => by rw [hJ.1, put_defers]) (fun u w' hJ => ⟨put_last hf (fun e he => ?_) hJ.1, hJ.2⟩)
    · rw [← hf, ← fillL_vcons, fillL_off]
      intro e he hh
      rcases vcons_mem he with h1 | h1
      · exact hlk i o ho0 i (Nat.le_refl _) t (by simp [dstOf, ho0, ← h1, hh]) ht
      · obtain ⟨j, hj, _, _, hd⟩ := hV e h1
        exact hlk i o ho0 j (by omega) t (by rw [hd, hh]) ht
    · intro hd
      obtain ⟨j, hj, _, _, hj2⟩ := hV e he
      have := hds j i e.1 hj2 (by simp [dstOf, ho0, ← hd])
      omega
  have join : ∀ {i : Nat} {o : Oper} {os : List Oper} {L L1 : List Bk} {a : Act} {v : Value}, (∀ j, ops[i + j]? = (o :: os)[j]?) → D.contains i = false → (T.contains i = false → L1 = L) →
      (∀ aF V, fillL V (a.put o.dst v) = aF → (∀ e ∈ V, ∃ j, i + 1 ≤ j ∧ j < i + 1 + os.length ∧ D.contains j = false ∧ dstOf ops j = some e.1) → (pureB o = true ∧ ∀ w, wpOp P ops (QOut Q) i (fun a' w' => a' = aF ∧ w' = w) aF w) ∨ (pureB o = false ∧ ∀ w, Hp B S w0 w L → wpOp P ops (QOut Q) i (fun a' w' => a' = aF ∧ Hp B S w0 w' L1) aF w)) →
      (∃ (aF : Act) (V : List (Tmp × Value)) (Ls : Nat → List Bk), fillL V (a.put o.dst v) = aF ∧ (∀ e ∈ V, ∃ j, i + 1 ≤ j ∧ j < i + 1 + os.length ∧ D.contains j = false ∧ dstOf ops j = some e.1) ∧ Ls (i + 1) = L1 ∧
        (∀ j, i + 1 ≤ j → j < i + 1 + os.length → T.contains j = false → Ls (j + 1) = Ls j) ∧
        (∀ j, i + 1 ≤ j → j < i + 1 + os.length → D.contains j = false → ∃ o, ops[j]? = some o ∧
          ((pureB o = true ∧ ∀ w, wpOp P ops (QOut Q) j (fun a' w' => a' = aF ∧ w' = w) aF w) ∨ (pureB o = false ∧ ∀ w, Hp B S w0 w (Ls j) → wpOp P ops (QOut Q) j (fun a' w' => a' = aF ∧ Hp B S w0 w' (Ls (j + 1))) aF w))) ∧
        (∀ w, Hp B S w0 w (Ls (i + 1 + os.length)) → Q .normal aF w)) →
      ∃ (aF : Act) (V : List (Tmp × Value)) (Ls : Nat → List Bk), fillL V a = aF ∧ (∀ e ∈ V, ∃ j, i ≤ j ∧ j < i + (o :: os).length ∧ D.contains j = false ∧ dstOf ops j = some e.1) ∧ Ls i = L ∧
        (∀ j, i ≤ j → j < i + (o :: os).length → T.contains j = false → Ls (j + 1) = Ls j) ∧
        (∀ j, i ≤ j → j < i + (o :: os).length → D.contains j = false → ∃ o, ops[j]? = some o ∧
          ((pureB o = true ∧ ∀ w, wpOp P ops (QOut Q) j (fun a' w' => a' = aF ∧ w' = w) aF w) ∨ (pureB o = false ∧ ∀ w, Hp B S w0 w (Ls j) → wpOp P ops (QOut Q) j (fun a' w' => a' = aF ∧ Hp B S w0 w' (Ls (j + 1))) aF w))) ∧
        (∀ w, Hp B S w0 w (Ls (i + (o :: os).length)) → Q .normal aF w) := by
    intro i o os L L1 a v ho hD hT hop ⟨aF, V, Ls, h1, h2, h3, h4, h5, h6⟩
    have ho0 : ops[i]? = some o := by simpa using ho 0
    have hl : i + (o :: os).length = i + 1 + os.length := by simp; omega
    rw [hl]
    refine ⟨aF, vcons o.dst v V, fun j => if j = i then L else Ls j, by rw [fillL_vcons]; exact h1, fun e he => ?_, by simp, fun j hj hj2 hTj => ?_, fun j hj hj2 hDj => ?_, fun w hw => h6 w (by simpa [show ¬ i + 1 + os.length = i by omega] using hw)⟩
    · rcases vcons_mem he with h | h
      · exact ⟨i, Nat.le_refl _, by omega, hD, by simp [dstOf, ho0, ← h]⟩
      · obtain ⟨j, q1, q2, q3⟩ := h2 e h
        exact ⟨j, by omega, q2, q3⟩
    · by_cases e : j = i
      · subst e
        simp [h3, hT hTj]
      · simp only [if_neg e, if_neg (show ¬ j + 1 = i by omega)]
        exact h4 j (by omega) hj2 hTj
    · by_cases e : j = i
      · subst e
        refine ⟨o, ho0, ?_⟩
        dsimp only
        simp only [if_true, if_neg (show ¬ j + 1 = j by omega), h3]
        exact hop aF V h1 h2
      · obtain ⟨o', ho', hh⟩ := h5 j (by omega) hj2 hDj
        refine ⟨o', ho', ?_⟩
        simp only [if_neg e, if_neg (show ¬ j + 1 = i by omega)]
        exact hh
  have tail : ∀ {i : Nat} {o : Oper} {os : List Oper}, (∀ j, ops[i + j]? = (o :: os)[j]?) → ∀ j, ops[i + 1 + j]? = os[j]? := by
    intro i o os ho j
    have := ho (j + 1)
    rw [show i + (j + 1) = i + 1 + j by omega] at this
    simpa using this
  induction h with
  | @skip o os i L a hD t ih =>
    intro ho
    obtain ⟨aF, V, Ls, h1, h2, h3, h4, h5, h6⟩ := ih (tail ho)
    have hl : i + (o :: os).length = i + 1 + os.length := by simp; omega
    rw [hl]
    refine ⟨aF, V, fun j => if j = i then L else Ls j, h1, fun e he => ?_, by simp, fun j hj hj2 hTj => ?_, fun j hj hj2 hDj => ?_, fun w hw => h6 w (by simpa [show ¬ i + 1 + os.length = i by omega] using hw)⟩
    · obtain ⟨j, q1, q2, q3⟩ := h2 e he
      exact ⟨j, by omega, q2, q3⟩
    · by_cases e : j = i
      · subst e
        simp [h3]
      · simp only [if_neg e, if_neg (show ¬ j + 1 = i by omega)]
        exact h4 j (by omega) hj2 hTj
    · by_cases e : j = i
      · subst e
        rw [hD] at hDj
        cases hDj
      · obtain ⟨o', ho', hh⟩ := h5 j (by omega) hj2 hDj
        refine ⟨o', ho', ?_⟩
        simp only [if_neg e, if_neg (show ¬ j + 1 = i by omega)]
        exact hh
  | @done i L a h => intro ho; exact ⟨a, [], fun _ => L, rfl, fun e he => by simp at he, rfl, fun j _ _ _ => rfl, fun j h1 h2 _ => absurd h2 (show ¬ j < i + 0 by omega), fun w hw => h w hw⟩
  | pure hD hp h t ih =>
    intro ho
    exact join ho hD (fun _ => rfl) (fun aF V h1 h2 => .inl ⟨hp, fun w => step ho h1 h2 (fun K hK => h w K (hK w rfl))⟩) (ih (tail ho))
  | mem hD hp hT h t ih =>
    intro ho
    exact join ho hD (fun _ => rfl) (fun aF V h1 h2 => .inr ⟨hp, fun w hw => step ho h1 h2 (fun K hK => h w hw K hK)⟩) (ih (tail ho))
  | turn hD hp hT h t ih =>
    intro ho
    exact join ho hD (fun hf => by rw [hT] at hf; cases hf) (fun aF V h1 h2 => .inr ⟨hp, fun w hw => step ho h1 h2 (fun K hK => h w hw K hK)⟩) (ih (tail ho))
theorem is_reg {id : Nat} {a : Act} {w : World} (h : (Code.region id ops true).wp P Q a w) : (Code.region id ops true).wp P Q a w := h
/-- The first of some numbers, in rising order, that is not listed. -/
def firstOff (f : Nat → Bool) (n : Nat) : List Nat → Nat
  | [] => n
  | t :: l => if f t = true then firstOff f n l else t
theorem firstOff_up {f : Nat → Bool} {n i : Nat} : ∀ {l : List Nat}, l.contains i = false → firstOff (up f i) n l = firstOff f n l
  | [], _ => rfl
  | t :: l, h => by
    simp only [List.contains_cons, Bool.or_eq_false_iff, beq_eq_false_iff_ne] at h
    have e : up f i t = f t := by simp [up, h.1.symm]
    simp only [firstOff, e]
    split
    · exact firstOff_up h.2
    · rfl
/-- Rising. -/
def risesB : List Nat → Bool
  | [] => true
  | t :: l => l.all (fun s => decide (t < s)) && risesB l
/-- All that are listed are those below i: the first that is not is the first from i on, and between there is none. -/
theorem firstOff_at {f : Nat → Bool} {n i : Nat} (hn : i ≤ n) : ∀ {l : List Nat}, risesB l = true → (∀ t ∈ l, t < n) → (∀ t ∈ l, t < i → f t = true) → (∀ t ∈ l, i ≤ t → f t = false) → i ≤ firstOff f n l ∧ firstOff f n l ≤ n ∧ ∀ t ∈ l, i ≤ t → firstOff f n l ≤ t
  | [], _, _, _, _ => ⟨hn, Nat.le_refl _, fun t ht => by simp at ht⟩
  | t :: l, hr, hb, h1, h2 => by
    simp only [risesB, Bool.and_eq_true, List.all_eq_true, decide_eq_true_eq] at hr
    unfold firstOff
    by_cases hti : t < i
    · rw [if_pos (h1 t (by simp) hti)]
      obtain ⟨q1, q2, q3⟩ := firstOff_at hn hr.2 (fun s hs => hb s (by simp [hs])) (fun s hs => h1 s (by simp [hs])) (fun s hs => h2 s (by simp [hs]))
      refine ⟨q1, q2, fun s hs hi => ?_⟩
      rcases List.mem_cons.1 hs with rfl | hs
      · omega
      · exact q3 s hs hi
    · have hf := h2 t (by simp) (by omega)
      rw [hf]
      simp only [Bool.false_eq_true, if_false]
      refine ⟨by omega, Nat.le_of_lt (hb t (by simp)), fun s hs hi => ?_⟩
      rcases List.mem_cons.1 hs with rfl | hs
      · exact Nat.le_refl _
      · exact Nat.le_of_lt (hr.1 s hs)
/-- THE REGION, in the text's order: T: the numbers of the operations that turn known blocks. -/
theorem k_seqD {n : Nat} {l : Array Bool} {a : Act} {w : World} {L : List Bk} (T D : List Nat) (H : Hp B S w0 w L) {os : List Oper} (hos : ops = os.toArray) (hl : (l.size == ops.size && (List.range ops.size).all (fun j => l.getD j true == D.contains j && l.getD j false == D.contains j)) = true)
    (hsh : ((List.range ops.size).all fun j => match ops[j]? with | some o => !D.contains j || (needs o).all (fun k => D.contains k && decide (k < ops.size)) | none => true) = true) (hn : ((List.range ops.size).filter fun i => !l.getD i true).length = n) (hTD : (T.all fun t => !D.contains t) = true) (hk : regOk ops ops.size = true) (hd : (List.range ops.size).all (fun j => (List.range ops.size).all fun k => (dstOf ops j).isNone || dstOf ops j != dstOf ops k || j == k) = true)
    (hT : turnsOk ops T = true) (hR : risesB T = true) (hTb : T.all (fun t => decide (t < ops.size)) = true) (h : RSeq ops Q B S w0 P T D os 0 L a) : wpAny P .any ops Q n l a w := by
  replace h : RSeq ops Q B S w0 P T D ops.toList 0 L a := by rw [hos] at h ⊢; exact h
  have hk0 := hk
  simp only [regOk, Bool.and_eq_true, List.all_eq_true, decide_eq_true_eq] at hk
  obtain ⟨⟨⟨hns, _⟩, hc⟩, _⟩ := hk
  have hlt : ∀ i o, ops[i]? = some o → ∀ j ∈ needs o, j < i := by
    intro i o ho j hj
    have hi := (Array.getElem?_eq_some_iff.1 ho).1
    have h2 := hc i (List.mem_range.2 hi)
    rw [ho] at h2
    simp only [Bool.and_eq_true, List.all_eq_true, decide_eq_true_eq] at h2
    exact h2.1 j hj
  have hdst : ∀ {j : Nat} {t : Tmp}, dstOf ops j = some t → j < ops.size := by
    intro j t h
    unfold dstOf at h
    cases ho : ops[j]? with
    | none => rw [ho] at h; cases h
    | some o => exact (Array.getElem?_eq_some_iff.1 ho).1
  have hlk : ∀ (k : Nat) (o : Oper), ops[k]? = some o → ∀ j, k ≤ j → ∀ t, dstOf ops j = some t → t ∉ o.looksAt ops := by
    intro k o ho j hkj t hd ht
    have hkk := (Array.getElem?_eq_some_iff.1 ho).1
    have h2 := hc k (List.mem_range.2 hkk)
    rw [ho] at h2
    simp only [Bool.and_eq_true, List.all_eq_true] at h2
    have h3 := h2.2 j (List.mem_range.2 (hdst hd))
    rw [hd] at h3
    simp only [Bool.or_eq_true, Bool.not_eq_true'] at h3
    rcases h3 with h3 | h3
    · rw [List.contains_iff_mem.2 ht] at h3; cases h3
    · have := hlt k o ho j (List.contains_iff_mem.1 h3)
      omega
  have hds : ∀ j k t, dstOf ops j = some t → dstOf ops k = some t → j = k := by
    intro j k t h1 h2
    simp only [List.all_eq_true, List.mem_range] at hd
    have h3 := hd j (hdst h1) k (hdst h2)
    rw [h1, h2] at h3
    simpa using h3
  obtain ⟨aF, V, Ls, h1, h2, h3, h4, h5, h6⟩ := rseq_out (fun k o ho cs b => Region.noSelect_spec hns k o cs b ho) hlk hds h (fun j => by simp)
  simp only [Nat.zero_add, Array.length_toList] at h2 h4 h5 h6
  simp only [List.all_eq_true, decide_eq_true_eq] at hTb
  have hTp : ∀ i o, ops[i]? = some o → ∀ t ∈ T, (i = t ∧ pureB o = false) ∨ (pureB o = true ∧ i ≠ t) ∨ (if t < i then waitsB ops i t = true else waitsB ops t i = true) := by
    intro i o ho t ht
    have hi := (Array.getElem?_eq_some_iff.1 ho).1
    simp only [turnsOk, List.all_eq_true, List.mem_range] at hT
    have := hT i hi
    rw [ho] at this
    simp only [List.all_eq_true] at this
    have := this t ht
    simp only [Bool.or_eq_true, Bool.and_eq_true, beq_iff_eq, bne_iff_ne, ne_eq, Bool.not_eq_true'] at this
    rcases this with (h | h) | h
    · exact .inl h
    · exact .inr (.inl h)
    · refine .inr (.inr ?_)
      by_cases hlt2 : t < i
      · rw [if_pos hlt2] at h ⊢; exact h
      · rw [if_neg hlt2] at h ⊢; exact h
  have flat : ∀ i j, i ≤ j → j ≤ ops.size → (∀ t ∈ T, i ≤ t → j ≤ t) → Ls j = Ls i := by
    intro i j hij hj hno
    induction j with
    | zero => obtain rfl : i = 0 := by omega
              rfl
    | succ j ih =>
      by_cases e : i = j + 1
      · rw [e]
      · have hTj : T.contains j = false := by
          cases hq : T.contains j with
          | false => rfl
          | true => have := hno j (List.contains_iff_mem.1 hq) (by omega); omega
        rw [h4 j (Nat.zero_le _) (by omega) hTj]
        exact ih (by omega) (by omega) (fun t ht hi => by have := hno t ht hi; omega)
  have hfin : ∀ w, Hp B S w0 w (Ls ops.size) → wpAny P .any ops Q (ops.size - ops.size) ((Array.replicate ops.size true) ++ (Array.replicate (ops.size - ops.size) false)) aF w := fun w hw => any_out (h6 w hw)
  simp only [Bool.and_eq_true, beq_iff_eq, List.all_eq_true, List.mem_range] at hl
  obtain ⟨hlsz, hlD⟩ := hl
  have hfD : ∀ j, j < ops.size → fOf l j = D.contains j := fun j hj => (hlD j hj).2
  have hfout : ∀ j, ops.size ≤ j → fOf l j = false := fun j hj => by unfold fOf; simp [Array.getD, show ¬ j < l.size by omega]
  simp only [List.all_eq_true, Bool.not_eq_true'] at hTD
  have e0 : n + (ops.size - ops.size) = n := by omega
  rw [← e0]
  refine k_front (P := P) (m := ops.size) (I := fun f a w => a = aF ∧ Hp B S w0 w (Ls (firstOff f ops.size T)) ∧ ∀ j, fOf l j = true → f j = true) (Q := Q) hk0 (fun f g a b w w' h h' => by rw [h.1, h'.1]) ?good ?rest n l aF a w hlsz (fun i h1 h2 => by omega) hn ?shut ?told ⟨rfl, ?start, fun j h => h⟩
  case shut =>
    intro s o ho hs j hj
    have hss := (Array.getElem?_eq_some_iff.1 ho).1
    rw [hfD s hss] at hs
    have h2 := List.all_eq_true.1 hsh s (List.mem_range.2 hss)
    rw [ho] at h2
    simp only [hs, Bool.not_true, Bool.false_or, List.all_eq_true, Bool.and_eq_true, decide_eq_true_eq] at h2
    rw [hfD j (h2 j hj).2]
    exact (h2 j hj).1
  case told =>
    obtain ⟨e1, e2⟩ := fillL_size V a
    rw [h1] at e1 e2
    refine ⟨e2.symm, e1.symm, fun t ht => ?_⟩
    rw [← h1]
    refine (fillL_off V t a (fun e he het => ?_)).symm
    obtain ⟨j, _, hj, hDj, hd⟩ := h2 e he
    have h4 := ht j hj (by rw [hd, het])
    have := hfD j hj
    unfold fOf at this
    rw [h4, hDj] at this
    cases this
  case start =>
    obtain ⟨q1, q2, q3⟩ := firstOff_at (f := fOf l) (n := ops.size) (i := 0) (Nat.zero_le _) hR hTb (fun t _ ht => by omega) (fun t ht _ => by rw [hfD t (hTb t ht)]; exact hTD t ht)
    rw [flat 0 _ q1 q2 q3, h3]
    exact H
  case' good =>
    rintro i hi f b w ht ⟨rfl, hw, hfl⟩
    have hDi : D.contains i = false := by
      rw [← hfD i hi]
      cases hq : fOf l i with
      | false => rfl
      | true => have := hfl i hq; rw [ht.self] at this; cases this
    have hflu : ∀ j, fOf l j = true → up f i j = true := fun j hj => by
      unfold up
      split
      · rfl
      · exact hfl j hj
    obtain ⟨o, ho, hop⟩ := h5 i (Nat.zero_le _) hi hDi
    have hpT : pureB o = true → T.contains i = false := fun hp => by
      cases hq : T.contains i with
      | false => rfl
      | true =>
        rcases hTp i o ho i (List.contains_iff_mem.1 hq) with h | h | h
        · rw [hp] at h; cases h.2
        · exact absurd rfl h.2
        · rw [if_neg (Nat.lt_irrefl i)] at h
          have := clos_late ht hlt i hi h
          have h7 := clos_early ht hlt i hi h
          rw [this] at h7
          cases h7
    have mono : ∀ {J J' : Act → World → Prop}, (∀ a w, J a w → J' a w) → (∀ a w, J a w → a.defers = b.defers) → wpOp P ops (QOut Q) i J b w → wpOp P ops (QOut Q) i J' b w := fun h1 h2 h3 => op_congr ho (fun cs b => Region.noSelect_spec hns i o cs b ho) (fun _ _ => rfl) h3 h2 (fun u w' => h1 _ _)
    rcases hop with ⟨hp, hop⟩ | ⟨hp, hop⟩
    · have hTi := hpT hp
      exact mono (fun a w' h => by
        obtain ⟨e1, e2⟩ := h
        subst e1 e2
        exact ⟨rfl, by rw [firstOff_up hTi]; exact hw, hflu⟩) (fun a w' h => by rw [h.1]) (hop w)
    · have he : ∀ t ∈ T, t < i → f t = true := fun t htT hti => by
        rcases hTp i o ho t htT with h | h | h
        · omega
        · rw [hp] at h; cases h.1
        · rw [if_pos hti] at h
          exact clos_early ht hlt t hi h
      have hl : ∀ t ∈ T, i < t → f t = false := fun t htT hti => by
        rcases hTp i o ho t htT with h | h | h
        · omega
        · rw [hp] at h; cases h.1
        · rw [if_neg (by omega)] at h
          exact clos_late ht hlt t (hTb t htT) h
      obtain ⟨q1, q2, q3⟩ := firstOff_at (f := f) (n := ops.size) (i := i) (by omega) hR hTb he (fun t htT hti => by
        by_cases e : i = t
        · subst e; exact ht.self
        · exact hl t htT (by omega))
      rw [flat i _ q1 q2 q3] at hw
      obtain ⟨p1, p2, p3⟩ := firstOff_at (f := up f i) (n := ops.size) (i := i + 1) (by omega) hR hTb (fun t htT hti => by
        unfold up
        split
        · rfl
        · exact he t htT (by omega)) (fun t htT hti => by
        unfold up
        rw [if_neg (by omega)]
        exact hl t htT (by omega))
      exact mono (fun a w' h => by
        obtain ⟨e1, e2⟩ := h
        subst e1
        exact ⟨rfl, by rw [flat (i + 1) _ p1 p2 p3]; exact e2, hflu⟩) (fun a w' h => by rw [h.1]) (hop w hw)
  case rest =>
    rintro b w ⟨rfl, hw, _⟩
    refine hfin w ?_
    obtain ⟨q1, q2, q3⟩ := firstOff_at (f := fOf ((Array.replicate ops.size true) ++ (Array.replicate (ops.size - ops.size) false))) (n := ops.size) (i := ops.size) (Nat.le_refl _) hR hTb (fun t ht _ => by rw [fOf_end]; simpa using hTb t ht) (fun t ht h => by have := hTb t ht; omega)
    have e : firstOff (fOf ((Array.replicate ops.size true) ++ (Array.replicate (ops.size - ops.size) false))) ops.size T = ops.size := by omega
    rw [e] at hw
    exact hw
/-- The whole region. -/
theorem k_seq {id : Nat} {a : Act} {w : World} {L : List Bk} (T : List Nat) (H : Hp B S w0 w L) {os : List Oper} (hos : ops = os.toArray) (hm : P.follows .mixedOrders = true) (hk : regOk ops ops.size = true) (hd : (List.range ops.size).all (fun j => (List.range ops.size).all fun k => (dstOf ops j).isNone || dstOf ops j != dstOf ops k || j == k) = true)
    (hT : turnsOk ops T = true) (hR : risesB T = true) (hTb : T.all (fun t => decide (t < ops.size)) = true) (h : RSeq ops Q B S w0 P T [] os 0 L a) : (Code.region id ops true).wp P Q a w := by
  refine wp_region_any hm (k_seqD T [] H.drew hos ?_ ?_ ?_ ?_ hk hd hT hR hTb h)
  · simp only [Array.size_replicate, beq_self_eq_true, Bool.true_and, List.all_eq_true, List.mem_range]
    intro j hj
    simp [Array.getD, hj]
  · simp only [List.all_eq_true]
    intro j hj
    split <;> simp
  · rw [List.filter_eq_self.2 (fun i hi => ?_), List.length_range]
    have h2 := List.mem_range.1 hi
    simp [Array.getD, h2]
  · simp
end
end Go.Proofs.Ytejflbmpokdhgaa.K
