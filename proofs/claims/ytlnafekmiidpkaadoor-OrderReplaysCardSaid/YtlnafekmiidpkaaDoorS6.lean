/- Operations that read: fields, elements, loads, lengths, pieces. -/
import Derived.Test.YtlnafekmiidpkaaDoorS5
namespace Go.Proofs.YtlnafekmiidpkaaDoor.S
set_option linter.all false
set_option linter.unusedVariables false
set_option linter.unusedSimpArgs false
theorem at_add (b o n : Nat) : (at_ b o).add n = at_ b (o + n) := by
  unfold Addr.add at_
  split
  · subst_vars; rfl
  · rfl
theorem szT_ok {P : Program} {t : TypeId} {n : Nat} (h : szT P t = some n) : ∃ i, P.info? t = some i ∧ i.size = n := by
  unfold szT at h
  simpa only [Option.map_eq_some_iff] using h
theorem run_sz {P : Program} {t : TypeId} {n : Nat} (h : szT P t = some n) (w : World) : (sizeOf t).run P w = .ok n w := by
  obtain ⟨i, h1, h2⟩ := szT_ok h
  simp [sizeOf, typeInfo, h1, h2]
theorem run_agg {P : Program} {t : TypeId} {b : Bool} (h : aggT P t = some b) (w : World) : (isAgg t).run P w = .ok b w := by
  unfold aggT at h
  unfold isAgg
  split at h
  · rename_i e; injection h with h; subst h; simp only [Sem.run_bind, run_un e, Result.andThen_ok, Sem.run_pure]
  · rename_i e; injection h with h; subst h; simp only [Sem.run_bind, run_un e, Result.andThen_ok, Sem.run_pure]
  · rename_i d h1 h2 e
    injection h with h; subst h
    simp only [Sem.run_bind, run_un e, Result.andThen_ok, Sem.run_pure]
  · cases h
theorem cell_at {w : World} {b t : Nat} {c : Array Value} {fr : Nat × Nat} (h : w.heap[b]? = some (.cells c t fr)) (o : Nat) : w.cell? (at_ b o) = c[o]? := by
  unfold World.cell? at_
  simp [h]
theorem run_loadAgg {P : Program} {t : TypeId} {n b o : Nat} {w : World} {l : List Value} (ha : aggT P t = some true) (hn : szT P t = some n) (hl : l.length = n) (hc : ∀ (j : Nat) v, l[j]? = some v → w.cell? (at_ b (o + j)) = some v) :
    (loadVar t (at_ b o)).run P w = .ok (.agg l.toArray) w := by
  subst hl
  have := run_loadCells_list (P := P) w (at_ b o) l (fun j v h => by rw [at_add]; exact hc j v h)
  simp only [loadVar, Sem.run_bind, run_agg ha, Result.andThen_ok, if_true, run_sz hn, this, Sem.run_pure]
theorem run_load1 {P : Program} {t : TypeId} {b o : Nat} {w : World} {v : Value} (ha : aggT P t = some false) (hc : w.cell? (at_ b o) = some v) : (loadVar t (at_ b o)).run P w = .ok v w := by
  simp only [loadVar, Sem.run_bind, run_agg ha, Result.andThen_ok, Bool.false_eq_true, if_false, run_load, hc]
section
variable {P : Program} {rs : List ARes} {post : AV → List AObj → Prop} {E : Env} {NK : List AV → List AObj → Node} {K : Act → World → Prop} {rest : List AItem} {Q : Exit → Act → World → Prop}
  {gs : Nat → Gh} {Pr : Nat → Prop} {tm : List AV} {hs : List AObj} {a : Act} {w : World} {d : Option Nat} {ty : TypeId} {pos : String} {af : Array Edge} {g : Option (Nat × Bool)} {op : AOp}
variable (hK : Next P rs post E (fun tm hs => NodeOK P rs post (NK tm hs)) K) (hR : Next P rs post E (fun tm hs => AW P rs rest tm hs post) K) (C : Conc E gs Pr tm hs a w)
/-- A label's object, as it stands. -/
theorem Conc.obj (C : Conc E gs Pr tm hs a w) {k : Nat} {o : AObj} (hk : dom hs k) (h : getO hs k = o) : ObjOK gs (dom hs) Pr w (gs k) o := h ▸ C.rep.obj k hk
theorem Conc.objG (C : Conc E gs Pr tm hs a w) {k : Nat} {o : AObj} (hk : dom hs k) (h : asGrow (getO hs k) = o) : ObjOK gs (dom hs) Pr w (gs k) o := by
  have := C.rep.obj k hk
  subst h
  cases ho : getO hs k <;> rw [ho] at this <;> exact this
omit hK hR C in
theorem rp_ {gs : Nat → Gh} {D Pr : Nat → Prop} {w : World} {v : Value} {c : List AV} {off : Nat} (h : Cz gs D Pr w (.rp c off) v) :
    ∃ b o, v = .pointer (some (at_ b (o + off))) ∧ Pr b ∧ ∀ (j : Nat) a, c[j]? = some a → ∃ v, w.cell? (at_ b (o + j)) = some v ∧ v.oneCell' = true ∧ Lf Pr w a v := by
  cases h with
  | lf h => cases h
  | rp _ _ b o hp h => exact ⟨b, o, rfl, hp, h⟩
omit hK hR C in
theorem fits_le : ∀ {cs : List AV} {o m : Nat}, fits cs o m = true → o + m ≤ cs.length
  | _, 0, 0, _ => Nat.zero_le _
  | [], 0, _ + 1, h => by simp [fits] at h
  | _ :: l, 0, m + 1, h => by
    have := fits_le (cs := l) (o := 0) (m := m) (by simpa [fits] using h)
    simp; omega
  | [], _ + 1, _, h => by simp [fits] at h
  | _ :: l, o + 1, m, h => by
    have := fits_le (cs := l) (o := o) (m := m) (by simpa [fits] using h)
    simp; omega
omit hK hR C in
theorem Cz_val {gs : Nat → Gh} {D : Nat → Prop} {x : AV} {v : Value} (hx : isVal x = true) (h : Cz gs D Pr w x v) : Lf Pr w x v := by
  cases h <;> first | assumption | (simp [isVal] at hx)
omit hK hR C in
theorem allVal_mem : ∀ {cs : List AV}, allVal cs = true → ∀ a ∈ cs, isVal a = true
  | [], _, a, h => by simp at h
  | x :: l, h, a, hm => by
    simp only [allVal] at h
    split at h
    · rename_i e
      rcases List.mem_cons.1 hm with rfl | hm
      · exact e
      · exact allVal_mem h a hm
    · cases h
omit hK hR C in
theorem allCell_mem : ∀ {cs : List AV}, allCell cs = true → ∀ a ∈ cs, isCell a = true
  | [], _, a, h => by simp at h
  | x :: l, h, a, hm => by
    simp only [allCell] at h
    split at h
    · rename_i e
      rcases List.mem_cons.1 hm with rfl | hm
      · exact e
      · exact allCell_mem h a hm
    · cases h
omit hK hR C in
theorem part_ok {gs : Nat → Gh} {D : Nat → Prop} {cs : List AV} {vs : List Value} {flat : Bool} {off m : Nat} {agg : Bool} {k : AV → Node} (hn : vs.length = cs.length) (h : ∀ (j : Nat) a v, cs[j]? = some a → vs[j]? = some v → Cz gs D Pr w a v)
    (hc : ∀ v ∈ vs, v.oneCell' = true) (hN : NodeOK P rs post (partN flat cs off m agg k)) :
    (agg = true ∧ off + m ≤ cs.length ∧ ∃ x, Cz gs D Pr w x (.agg ((vs.drop off).take m).toArray) ∧ NodeOK P rs post (k x)) ∨ (agg = false ∧ ∃ v, vs[off]? = some v ∧ ∃ x, Cz gs D Pr w x v ∧ NodeOK P rs post (k x)) := by
  unfold partN at hN
  cases agg with
  | true =>
    simp only at hN
    split at hN
    case h_2 => exact hN.elim
    rename_i hf
    have hle := fits_le hf
    rw [segL_eq] at hN
    have hpt : ∀ (j : Nat) a v, ((cs.drop off).take m)[j]? = some a → ((vs.drop off).take m)[j]? = some v → Cz gs D Pr w a v := by
      intro j a v e1 e2
      rw [List.getElem?_take, List.getElem?_drop] at e1 e2
      by_cases hj : j < m
      · rw [if_pos hj] at e1 e2; exact h _ _ _ e1 e2
      · rw [if_neg hj] at e1; cases e1
    have hlen : ((vs.drop off).take m).toArray.size = ((cs.drop off).take m).length := by simp; omega
    have hoc : ∀ v ∈ ((vs.drop off).take m).toArray.toList, v.oneCell' = true := fun v hv => hc v (List.mem_of_mem_drop (List.mem_of_mem_take (by simpa using hv)))
    unfold mkAgg at hN
    refine .inl ⟨rfl, hle, ?_⟩
    cases flat with
    | true =>
      simp only at hN
      split at hN
      · rename_i hv
        refine ⟨_, .lf (.arr _ _ hlen (fun j a v e1 e2 => Cz_val (allVal_mem hv a (List.mem_of_getElem? e1)) (hpt j a v e1 (by simpa using e2))) hoc), hN⟩
      · exact ⟨_, .agg _ _ hlen (fun j a v e1 e2 => hpt j a v e1 (by simpa using e2)) hoc, hN⟩
    | false => exact ⟨_, .agg _ _ hlen (fun j a v e1 e2 => hpt j a v e1 (by simpa using e2)) hoc, hN⟩
  | false =>
    simp only at hN
    split at hN
    case h_2 => exact hN.elim
    rename_i hf
    have hle := fits_le hf
    refine .inr ⟨rfl, vs[off], List.getElem?_eq_getElem (by omega), _, ?_, hN⟩
    rw [getL_eq, List.getD_eq_getElem?_getD, List.getElem?_eq_getElem (by omega)]
    exact h off _ _ (List.getElem?_eq_getElem (by omega)) (List.getElem?_eq_getElem (by omega))
omit hK hR C in
theorem partA_ok {cs : List AV} {vs : List Value} {off m : Nat} {agg : Bool} {k : AV → Node} (hn : vs.length = cs.length) (h : ∀ (j : Nat) a v, cs[j]? = some a → vs[j]? = some v → Lf Pr w a v)
    (hc : ∀ v ∈ vs, v.oneCell' = true) (hN : NodeOK P rs post (partA cs off m agg k)) :
    (agg = true ∧ off + m ≤ cs.length ∧ ∃ x, Lf Pr w x (.agg ((vs.drop off).take m).toArray) ∧ NodeOK P rs post (k x)) ∨ (agg = false ∧ ∃ v, vs[off]? = some v ∧ ∃ x, Lf Pr w x v ∧ NodeOK P rs post (k x)) := by
  unfold partA at hN
  cases agg with
  | true =>
    obtain ⟨hle, hN⟩ := hN
    refine .inl ⟨rfl, hle, _, .arr _ _ ?_ (fun j a v e1 e2 => ?_) ?_, hN⟩
    · rw [segL_eq]; simp; omega
    · rw [segL_eq] at e1
      have e2 : ((vs.drop off).take m)[j]? = some v := by simpa using e2
      rw [List.getElem?_take, List.getElem?_drop] at e1 e2
      by_cases hj : j < m
      · rw [if_pos hj] at e1 e2; exact h _ _ _ e1 e2
      · rw [if_neg hj] at e1; cases e1
    · exact fun v hv => hc v (List.mem_of_mem_drop (List.mem_of_mem_take (by simpa using hv)))
  | false =>
    simp only at hN
    split at hN
    · rename_i hf
      have hle := fits_le hf
      refine .inr ⟨rfl, vs[off], List.getElem?_eq_getElem (by omega), _, ?_, hN⟩
      rw [getL_eq, List.getD_eq_getElem?_getD, List.getElem?_eq_getElem (by omega)]
      exact h off _ _ (List.getElem?_eq_getElem (by omega)) (List.getElem?_eq_getElem (by omega))
    · exact hN.elim
omit hK hR C in
theorem run_part {t : TypeId} {ag : Bool} {n off : Nat} {vs : List Value} (ha : aggT P t = some ag) (hn : szT P t = some n) {r : Value} (hr : ag = true ∧ r = .agg ((vs.drop off).take n).toArray ∨ ag = false ∧ vs[off]? = some r) :
    (part t vs.toArray off).run P w = .ok r w := by
  rcases hr with ⟨rfl, rfl⟩ | ⟨rfl, hr⟩
  · simp only [part, Sem.run_bind, run_agg ha, Result.andThen_ok, if_true, run_sz hn, Sem.run_pure]
    congr 2
    apply Array.toList_inj.1
    simp [Array.toList_extract, List.extract_eq_take_drop]
  · simp only [part, Sem.run_bind, run_agg ha, Result.andThen_ok, Bool.false_eq_true, if_false]
    simp [hr]
include hK C
theorem S_cvI {s t : TypeId} {k : IntKind} {e : TypeDesc} {x : Operand} {y : Opd} {j : IntKind} (hs' : P.underlying s = some (.int j)) (ht : P.underlying t = some (.int k)) (hy : cOpd x = some y)
    (hN : NodeOK P rs post (opN NK d (.cvI k y) rest tm hs)) : Oper.wp P ⟨d, .convert s t x, ty, pos, af, g⟩ a w K Q := by
  have h := C.opd hy
  simp only [opN] at hN
  split at hN
  · rename_i e
    rw [e] at h
    refine wp_val (v := .int k (k.wrap _)) (w' := w) (by simp only [execOp, convert, h.int, Sem.run_bind, run_un hs', run_un ht, Result.andThen_ok, Conv.intToInt, Sem.run_pure]) (hK _ _ hN _ _ _ _ (C.put d (.lf (.int _ _))))
  · exact hN.elim
theorem S_fad {s : TypeId} {x : Operand} {f : Nat} (hc : cOp P (.fieldAddr s x f) = some op) (hN : NodeOK P rs post (opN NK d op rest tm hs)) : Oper.wp P ⟨d, .fieldAddr s x f, ty, pos, af, g⟩ a w K Q := by
  simp only [cOp, Option.bind_eq_bind] at hc
  split at hc
  · rename_i fs hu
    simp only [Option.bind_eq_some_iff] at hc
    obtain ⟨fd, hf, y, hy, n, hn, hc⟩ := hc
    unfold orNo at hc
    split at hc
    · rename_i h0
      have h0 : 0 < n := by simpa [Nat.blt_eq] using h0
      injection hc with hc
      subst hc
      have h := C.opd hy
      simp only [opN] at hN
      have fin : ∀ (b o : Nat) (z : AV), a.eval x = .pointer (some (at_ b o)) → Cz gs (dom hs) Pr w z (.pointer (some (at_ b (o + fd.offset)))) → NodeOK P rs post (NK (putL tm d z) hs) → Oper.wp P ⟨d, .fieldAddr s x f, ty, pos, af, g⟩ a w K Q := by
        intro b o z e hz hN
        refine wp_val (v := .pointer (some (at_ b (o + fd.offset)))) (w' := w) ?_ (hK _ _ hN _ _ _ _ (C.put d hz))
        have hne : ¬ n = 0 := by omega
        simp only [execOp, Instr.fieldAt, Instr.sureAddr, fieldPlace, e, Sem.run_bind, run_un hu, Result.andThen_ok, hf, Sem.run_pure, run_sz hn, hne, if_false, at_add]
      split at hN
      · rename_i e; rw [e] at h; exact fin _ _ _ h.ptr_.1 (.ptr _ _ h.ptr_.2) hN
      · rename_i e; rw [e] at h; exact fin _ _ _ h.ptrS_.1 (.ptrS _ _ h.ptrS_.2) hN
      · rename_i e; rw [e] at h
        obtain ⟨b, o, e1, hp, h1⟩ := rp_ h
        exact fin _ _ _ e1 (by rw [Nat.add_assoc]; exact .rp _ _ _ _ hp h1) hN
      · rename_i e; rw [e] at h; exact fin _ _ _ h.gp_.1 (by rw [Nat.add_assoc]; exact .gp _ _ _ _ h.gp_.2) hN
      · exact hN.elim
    · cases hc
  · cases hc
theorem S_fld {s : TypeId} {x : Operand} {f : Nat} (hc : cOp P (.field s x f) = some op) (hN : NodeOK P rs post (opN NK d op rest tm hs)) : Oper.wp P ⟨d, .field s x f, ty, pos, af, g⟩ a w K Q := by
  simp only [cOp, Option.bind_eq_bind] at hc
  split at hc
  · rename_i fs hu
    simp only [Option.bind_eq_some_iff, Option.pure_def, Option.some.injEq] at hc
    obtain ⟨fd, hf, n, hn, ag, hag, y, hy, rfl⟩ := hc
    have h := C.opd hy
    simp only [opN] at hN
    have fin : ∀ (vs : List Value) (r : Value) (x' : AV), a.eval x = .agg vs.toArray → (ag = true ∧ r = .agg ((vs.drop fd.offset).take n).toArray ∨ ag = false ∧ vs[fd.offset]? = some r) → Cz gs (dom hs) Pr w x' r → NodeOK P rs post (NK (putL tm d x') hs) →
        Oper.wp P ⟨d, .field s x f, ty, pos, af, g⟩ a w K Q := by
      intro vs r x' e hr hz hN
      refine wp_val (v := r) (w' := w) ?_ (hK _ _ hN _ _ _ _ (C.put d hz))
      simp only [execOp, Instr.field, e, Sem.run_bind, run_un hu, Result.andThen_ok, hf, asAgg, Sem.run_pure, run_part hag hn hr]
    split at hN
    · rename_i cs e
      rw [e] at h
      obtain ⟨vs, e1, e2, e3, e4⟩ := h.arr_.arr_
      rw [← Array.toArray_toList (xs := vs)] at e1
      rcases partA_ok (vs := vs.toList) (by simpa using e2) (fun j a v h1 h2 => e3 j a v h1 (by simpa using h2)) e4 hN with ⟨rfl, hle, x', hz, hN⟩ | ⟨rfl, v, hv, x', hz, hN⟩
      · exact fin _ _ _ e1 (.inl ⟨rfl, rfl⟩) (.lf hz) hN
      · exact fin _ _ _ e1 (.inr ⟨rfl, hv⟩) (.lf hz) hN
    · rename_i cs e
      rw [e] at h
      obtain ⟨vs, e1, e2, e3, e4⟩ := h.agg_
      rw [← Array.toArray_toList (xs := vs)] at e1
      rcases part_ok (vs := vs.toList) (by simpa using e2) (fun j a v h1 h2 => e3 j a v h1 (by simpa using h2)) e4 hN with ⟨rfl, hle, x', hz, hN⟩ | ⟨rfl, v, hv, x', hz, hN⟩
      · exact fin _ _ _ e1 (.inl ⟨rfl, rfl⟩) hz hN
      · exact fin _ _ _ e1 (.inr ⟨rfl, hv⟩) hz hN
    · exact hN.elim
  · cases hc
end
end Go.Proofs.YtlnafekmiidpkaaDoor.S
