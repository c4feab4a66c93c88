/- Operations that make or write blocks. -/
import Derived.Test.YtlnafekmiidpkaaDoorS10
namespace Go.Proofs.YtlnafekmiidpkaaDoor.S
set_option linter.all false
set_option linter.unusedVariables false
set_option linter.unusedSimpArgs false
theorem pw_over {R : AV → Value → Prop} {cs vs : List AV} {cur us : List Value} {o : Nat} (h1 : cur.length = cs.length) (h2 : us.length = vs.length) (ho : o + vs.length ≤ cs.length) (h3 : ∀ (j : Nat) a v, cs[j]? = some a → cur[j]? = some v → R a v)
    (h4 : ∀ (j : Nat) a v, vs[j]? = some a → us[j]? = some v → R a v) : ∀ (j : Nat) a v, (cs.take o ++ vs ++ cs.drop (o + vs.length))[j]? = some a → (cur.take o ++ us ++ cur.drop (o + us.length))[j]? = some v → R a v := by
  intro j a v e1 e2
  have l1 : (cs.take o).length = o := by simp; omega
  have l2 : (cur.take o).length = o := by simp; omega
  rw [List.append_assoc] at e1 e2
  by_cases hj : j < o
  · rw [List.getElem?_append_left (by omega), List.getElem?_take, if_pos hj] at e1 e2
    exact h3 j a v e1 e2
  · rw [List.getElem?_append_right (by omega), l1] at e1
    rw [List.getElem?_append_right (by omega), l2] at e2
    by_cases hj2 : j - o < vs.length
    · rw [List.getElem?_append_left (by omega)] at e1 e2
      exact h4 _ a v e1 e2
    · rw [List.getElem?_append_right (by omega), List.getElem?_drop] at e1 e2
      rw [h2] at e2
      exact h3 _ a v e1 e2
section
variable {P : Program} {rs : List ARes} {post : AV → List AObj → Prop} {E : Env} {NK : List AV → List AObj → Node} {K : Act → World → Prop} {rest : List AItem} {Q : Exit → Act → World → Prop}
  {gs : Nat → Gh} {Pr : Nat → Prop} {tm : List AV} {hs : List AObj} {a : Act} {w : World} {d : Option Nat} {ty : TypeId} {pos : String} {af : Array Edge} {g : Option (Nat × Bool)} {op : AOp} {o : Oper}
theorem Cz.vals {D : Nat → Prop} {x : AV} {v : Value} (h : Cz gs D Pr w x v) (hx : okVal x = true) : v.cells.size = (cellsOf x).length ∧ (∀ (j : Nat) a u, (cellsOf x)[j]? = some a → v.cells[j]? = some u → Lf Pr w a u) ∧ ∀ u ∈ v.cells.toList, u.oneCell' = true := by
  cases x with
  | arr cs =>
    obtain ⟨vs, rfl, h1, h2, h3⟩ := h.arr_.arr_
    exact ⟨h1, h2, h3⟩
  | agg cs =>
    obtain ⟨vs, rfl, h1, h2, h3⟩ := h.agg_
    exact ⟨h1, fun j a u e1 e2 => Cz_val (allVal_mem hx a (List.mem_of_getElem? e1)) (h2 j a u e1 e2), h3⟩
  | _ =>
    have hv := hx
    simp only [okVal] at hv
    first
      | (simp [isVal] at hv; done)
      | (obtain ⟨h1, h2, h3⟩ := h.cells (by rfl)
         refine ⟨h1, fun j a u e1 e2 => ?_, h3⟩
         have : isVal a = true := by
           cases j with
           | zero => simp only [cellsOf, List.getElem?_cons_zero, Option.some.injEq] at e1; rw [← e1]; exact hv
           | succ j => simp [cellsOf] at e1
         exact Cz_val this (h2 j a u e1 e2))
theorem cellsN_ok {n : Nat} {v : AV} {k : List AV → Node} (hc : okCell v = true) (hN : NodeOK P rs post (cellsN n v k)) : (cellsOf v).length = n ∧ NodeOK P rs post (k (cellsOf v)) := by
  cases v with
  | arr vs => exact hN
  | agg vs => exact hN
  | any => simp [okCell, isCell] at hc
  | tup vs => simp [okCell, isCell] at hc
  | _ =>
    simp only [cellsN] at hN
    split at hN
    · rename_i e; obtain rfl := Nat.eq_of_beq_eq_true e; exact ⟨rfl, hN⟩
    · exact hN.elim
theorem okVal_cell {v : AV} (h : okVal v = true) : okCell v = true := by
  cases v with
  | agg cs =>
    simp only [okVal, okCell] at h ⊢
    induction cs with
    | nil => rfl
    | cons x l ih =>
      simp only [allVal] at h
      split at h
      · rename_i e
        have : isCell x = true := by cases x <;> first | rfl | (simp [isVal] at e)
        simp only [allCell, this]
        exact ih h
      · cases h
  | _ => first | rfl | (simp [okVal, isVal] at h)
theorem heap_push {w : World} {x : Obj} {b : Nat} (h : b < w.heap.size) : ({ w with heap := w.heap.push x } : World).heap[b]? = w.heap[b]? := by
  simp only [Array.getElem?_push]
  rw [if_neg (by omega)]
theorem heap_new {w : World} {x : Obj} : ({ w with heap := w.heap.push x } : World).heap[w.heap.size]? = some x := by
  simp
variable (hK : Next P rs post E (fun tm hs => NodeOK P rs post (NK tm hs)) K) (hR : Next P rs post E (fun tm hs => AW P rs rest tm hs post) K) (C : Conc E gs Pr tm hs a w)
include hK C
theorem S_box {t : TypeId} {n : Nat} {flat : Bool} {y : Opd} {v : Value} (hv : Cz gs (dom hs) Pr w (ev tm y) v) (hrun : (execOp a.eval o).run P w = .ok (.value (.pointer (some (at_ w.heap.size 0)))) { w with heap := w.heap.push (.cells v.cells t (0, 0)) })
    (hN : NodeOK P rs post (opN NK o.dst (.box t n flat y) rest tm hs)) : o.wp P a w K Q := by
  simp only [opN] at hN
  split at hN
  case h_2 => exact hN.elim
  rename_i hoc
  have fin : ∀ (ob : AObj), ObjOK (upd gs (lenO hs) ⟨w.heap.size, .nilFunc⟩) (dom (snocO hs ob)) Pr { w with heap := w.heap.push (.cells v.cells t (0, 0)) } ⟨w.heap.size, .nilFunc⟩ ob → NodeOK P rs post (NK (putL tm o.dst (.ptr (lenO hs) 0)) (snocO hs ob)) → o.wp P a w K Q := by
    intro ob hob hN
    have C1 := C.alloc (w' := { w with heap := w.heap.push (.cells v.cells t (0, 0)) }) ⟨w.heap.size, .nilFunc⟩ ob (fun _ => rfl) (fun b hb => heap_push hb) (by simp) rfl rfl rfl hob
    have := Cz.ptr (gs := upd gs (lenO hs) ⟨w.heap.size, .nilFunc⟩) (D := dom (snocO hs ob)) (Pr := Pr) (w := { w with heap := w.heap.push (.cells v.cells t (0, 0)) }) (lenO hs) 0 (by rw [dom_snoc]; exact .inr rfl)
    rw [upd_self] at this
    exact wp_val hrun (hK _ _ hN _ _ _ _ (C1.put _ this))
  have hP : ∀ b, Pr b → ({ w with heap := w.heap.push (.cells v.cells t (0, 0)) } : World).heap[b]? = w.heap[b]? := fun b hb => heap_push (C.rep.pr b hb)
  have hz : Fz (0, 0) v.cells.size := .inl rfl
  cases flat with
  | true =>
    simp only at hN
    split at hN
    case h_2 => exact hN.elim
    rename_i hov
    obtain ⟨h1, h2, h3⟩ := hv.vals hov
    exact fin (.arr t (cellsOf (ev tm y))) ⟨v.cells, (0, 0), heap_new, hz, h3, h1, fun j a u e1 e2 => (h2 j a u e1 e2).mono (fun _ h => h) hP⟩ hN
  | false =>
    obtain ⟨h1, h2, h3⟩ := hv.cells hoc
    refine fin (.cells t (cellsOf (ev tm y))) ⟨v.cells, (0, 0), heap_new, hz, h3, h1, fun j a u e1 e2 => (h2 j a u e1 e2).mono (fun k hk => by rw [dom_snoc]; exact .inl hk) (fun k hk => upd_ne _ _ (fun e => by rw [e] at hk; exact Nat.lt_irrefl _ hk)) (fun _ h => h) hP⟩ hN
theorem S_alloc {t : TypeId} (hc : cOp P (.alloc t) = some op) (hN : NodeOK P rs post (opN NK d op rest tm hs)) : Oper.wp P ⟨d, .alloc t, ty, pos, af, g⟩ a w K Q := by
  simp only [cOp, Option.bind_eq_bind, Option.bind_eq_some_iff] at hc
  obtain ⟨n, hn, z, hz, hc⟩ := hc
  obtain ⟨_, hc⟩ := orNo_ok hc
  injection hc with hc
  subst hc
  obtain ⟨v, hv, hzv⟩ : ∃ v, (zeroValue t).run P w = .ok v w ∧ Cz gs (dom hs) Pr w z v := by
    unfold zeroV at hz
    cases hi : P.info? t with
    | none => simp [hi] at hz
    | some i =>
      simp only [hi, Option.bind_some] at hz
      cases hzz : i.zero with
      | none => simp [hzz] at hz
      | some v =>
        refine ⟨v, by simp [zeroValue, typeInfo, hi, hzz], ?_⟩
        rw [hzz] at hz
        split at hz
        · rename_i cs e
          injection e with e
          subst e
          obtain ⟨h1, h2⟩ := orNo_ok hz
          have hoc : ∀ v ∈ cs.toList, v.oneCell' = true := List.all_eq_true.1 h1
          have hpt : ∀ (j : Nat) a v, (cs.toList.map ofV)[j]? = some a → cs[j]? = some v → a = ofV v := by
            intro j a v e1 e2
            have e2 : cs.toList[j]? = some v := by simpa using e2
            rw [List.getElem?_map, e2] at e1
            injection e1 with e1; exact e1.symm
          split at h2
          · rename_i hall
            injection h2 with h2; subst h2
            exact .lf (.arr _ cs (by simp) (fun j a v e1 e2 => by
              have := hpt j a v e1 e2
              subst this
              exact Cz_val (gs := gs) (D := dom hs) (allVal_mem hall _ (List.mem_of_getElem? e1)) (Cz_ofV v)) hoc)
          · injection h2 with h2; subst h2
            exact .agg _ cs (by simp) (fun j a v e1 e2 => by rw [hpt j a v e1 e2]; exact Cz_ofV v) hoc
        · rename_i u hu e
          injection e with e
          subst e
          injection hz with hz
          subst hz
          exact Cz_ofV _
        · rename_i e; cases e
  refine S_box hK C (v := v) (y := .c z) hzv ?_ hN
  simp only [execOp, Instr.alloc, Sem.run_bind, hv, Result.andThen_ok, newVar, newRow, run_newObj, Sem.run_pure]
  rfl
theorem S_boxV {t : TypeId} {x : Operand} (hc : cOp P (.box t x) = some op) (hN : NodeOK P rs post (opN NK d op rest tm hs)) : Oper.wp P ⟨d, .box t x, ty, pos, af, g⟩ a w K Q := by
  simp only [cOp, Option.bind_eq_bind, Option.bind_eq_some_iff] at hc
  obtain ⟨n, hn, y, hy, hc⟩ := hc
  obtain ⟨_, hc⟩ := orNo_ok hc
  injection hc with hc
  subst hc
  refine S_box hK C (v := a.eval x) (y := y) (C.opd hy) ?_ hN
  simp only [execOp, Instr.box, Sem.run_bind, Result.andThen_ok, newVar, newRow, run_newObj, Sem.run_pure]
  rfl
theorem S_st {t : TypeId} {x v : Operand} (hc : cOp P (.store t x v) = some op) (hN : NodeOK P rs post (opN NK d op rest tm hs)) : Oper.wp P ⟨d, .store t x v, ty, pos, af, g⟩ a w K Q := by
  simp only [cOp, Option.bind_eq_bind, Option.bind_eq_some_iff, Option.pure_def, Option.some.injEq] at hc
  obtain ⟨n, hn, y, hy, z, hz, rfl⟩ := hc
  have hX := C.opd hy
  have hV := C.opd hz
  have key : ∀ (k off : Nat) (t' : Nat) (cs vs : List AV) (R : AV → Value → Prop) (mk : List AV → AObj), a.eval x = .pointer (some (at_ (gs k).blk off)) → dom hs k → live (gs k) (getO hs k) → (∀ l, live (gs k) (mk l)) → (∀ l, ¬ isGrow (mk l)) →
      (∃ c fr, w.heap[(gs k).blk]? = some (.cells c t' fr) ∧ Fz fr c.size ∧ (∀ v ∈ c.toList, v.oneCell' = true) ∧ c.size = cs.length ∧ ∀ (j : Nat) a v, cs[j]? = some a → c[j]? = some v → R a v) →
      (a.eval v).cells.size = vs.length → (∀ (j : Nat) b u, vs[j]? = some b → (a.eval v).cells[j]? = some u → R b u) → (∀ u ∈ (a.eval v).cells.toList, u.oneCell' = true) → vs.length = n → off + n ≤ cs.length →
      (∀ (w' : World), (∀ b, Pr b → w'.heap[b]? = w.heap[b]?) → (∃ c fr, w'.heap[(gs k).blk]? = some (.cells c t' fr) ∧ Fz fr c.size ∧ (∀ v ∈ c.toList, v.oneCell' = true) ∧ c.size = (over cs off vs).length ∧ ∀ (j : Nat) a v, (over cs off vs)[j]? = some a → c[j]? = some v → R a v) → ObjOK gs (dom hs) Pr w' (gs k) (mk (over cs off vs))) →
      NodeOK P rs post (NK (putL tm d .any) (setO hs k (mk (over cs off vs)))) → Oper.wp P ⟨d, .store t x v, ty, pos, af, g⟩ a w K Q := by
    intro k off t' cs vs R mk e1 hk hl hl' hng ⟨c, fr, h1, h2, h3, h4, h5⟩ h6 h7 h8 h9 h10 hob hN
    have hrow := run_store_row P (gs k).blk off t' fr (a.eval v).cells.toList 0 c w h1 h2 (by simp; omega) h8
    rw [Nat.add_zero] at hrow
    have hlen : (a.eval v).cells.toList.length = vs.length := by simpa using h6
    have hrun : (execOp a.eval ⟨d, .store t x v, ty, pos, af, g⟩).run P w = .ok .skip (w.setRow (gs k).blk (c.toList.take off ++ (a.eval v).cells.toList ++ c.toList.drop (off + (a.eval v).cells.toList.length)).toArray) := by
      have hne : ¬ (a.eval v).cells.size ≠ n := by omega
      simp only [execOp, Instr.storeAt, Instr.sureAddr, e1, storeVar, Sem.run_bind, Sem.run_pure, Result.andThen_ok, run_sz hn, hne, if_false, hrow]
    refine wp_unit hrun (hK _ _ hN _ _ _ _ ((C.write hk hl (mk (over cs off vs)) (fun h => (hng _ h).elim) (fun b hb => setRow_other _ _ _ _ hb) (by simp [World.setRow]) rfl rfl rfl (hob _ ?_ ⟨_, fr, setRow_heap _ _ _ _ _ _ h1, ?_, ?_, ?_, ?_⟩)).put d (.any _)))
    · intro b hb
      exact setRow_other _ _ _ _ (fun e => (C.rep.mine k hk hl).2 (e ▸ hb))
    · have : (c.toList.take off ++ (a.eval v).cells.toList ++ c.toList.drop (off + (a.eval v).cells.toList.length)).toArray.size = c.size := by simp; omega
      rw [this]; exact h2
    · intro u hu
      simp only [List.mem_append] at hu
      rcases hu with (hu | hu) | hu
      · exact h3 u (List.mem_of_mem_take hu)
      · exact h8 u hu
      · exact h3 u (List.mem_of_mem_drop hu)
    · simp [over]; omega
    · intro j b u e2 e3
      exact pw_over (R := R) (cur := c.toList) (us := (a.eval v).cells.toList) (by simpa using h4) hlen (by omega) (fun j a v f1 f2 => h5 j a v f1 (by simpa using f2)) (fun j a v f1 f2 => h7 j a v f1 (by simpa using f2)) j b u e2 (by simpa using e3)
  simp only [opN] at hN
  split at hN
  · rename_i k off e
    rw [e] at hX
    obtain ⟨e1, hk⟩ := hX.ptr_
    split at hN
    · rename_i t' cs ho
      split at hN
      case h_2 => exact hN.elim
      rename_i hov
      obtain ⟨hl, hN⟩ := cellsN_ok (okVal_cell hov) hN
      split at hN
      case h_2 => exact hN.elim
      rename_i hf
      have hle := fits_le hf
      rw [overL_eq _ _ _ (by omega)] at hN
      obtain ⟨h1, h2, h3⟩ := hV.vals hov
      exact key k off t' cs _ (Lf Pr w) (.arr t') e1 hk (by rw [ho]; trivial) (fun _ => trivial) (fun _ h => h) (C.obj hk ho) h1 h2 h3 hl hle (fun w' hP ⟨c, fr, q1, q2, q3, q4, q5⟩ => ⟨c, fr, q1, q2, q3, q4, fun j a v f1 f2 => (q5 j a v f1 f2).mono (fun _ h => h) hP⟩) hN
    · rename_i t' cs ho
      split at hN
      case h_2 => exact hN.elim
      rename_i hov
      obtain ⟨hl, hN⟩ := cellsN_ok hov hN
      split at hN
      case h_2 => exact hN.elim
      rename_i hf
      have hle := fits_le hf
      rw [overL_eq _ _ _ (by omega)] at hN
      obtain ⟨h1, h2, h3⟩ := hV.cells hov
      exact key k off t' cs _ (Cz gs (dom hs) Pr w) (.cells t') e1 hk (by rw [ho]; trivial) (fun _ => trivial) (fun _ h => h) (C.obj hk ho) h1 h2 h3 hl hle (fun w' hP ⟨c, fr, q1, q2, q3, q4, q5⟩ => ⟨c, fr, q1, q2, q3, q4, fun j a v f1 f2 => (q5 j a v f1 f2).mono (fun _ h => h) (fun _ _ => rfl) (fun _ h => h) hP⟩) hN
    · exact hN.elim
  · rename_i k off e
    rw [e] at hX
    obtain ⟨e1, hk⟩ := hX.ptrS_
    split at hN
    · rename_i t' cs ho
      split at hN
      case h_2 => exact hN.elim
      rename_i hov
      obtain ⟨hl, hN⟩ := cellsN_ok (okVal_cell hov) hN
      obtain ⟨hle, hN⟩ := hN
      obtain ⟨h1, h2, h3⟩ := hV.vals hov
      exact key k off t' cs _ (Lf Pr w) (.arr t') e1 hk (by rw [ho]; trivial) (fun _ => trivial) (fun _ h => h) (C.obj hk ho) h1 h2 h3 hl hle (fun w' hP ⟨c, fr, q1, q2, q3, q4, q5⟩ => ⟨c, fr, q1, q2, q3, q4, fun j a v f1 f2 => (q5 j a v f1 f2).mono (fun _ h => h) hP⟩) hN
    · rename_i t' cs ho
      split at hN
      case h_2 => exact hN.elim
      rename_i hov
      obtain ⟨hl, hN⟩ := cellsN_ok hov hN
      split at hN
      case h_2 => exact hN.elim
      rename_i hf
      have hle := fits_le hf
      rw [overL_eq _ _ _ (by omega)] at hN
      obtain ⟨h1, h2, h3⟩ := hV.cells hov
      exact key k off t' cs _ (Cz gs (dom hs) Pr w) (.cells t') e1 hk (by rw [ho]; trivial) (fun _ => trivial) (fun _ h => h) (C.obj hk ho) h1 h2 h3 hl hle (fun w' hP ⟨c, fr, q1, q2, q3, q4, q5⟩ => ⟨c, fr, q1, q2, q3, q4, fun j a v f1 f2 => (q5 j a v f1 f2).mono (fun _ h => h) (fun _ _ => rfl) (fun _ h => h) hP⟩) hN
    · exact hN.elim
  · exact hN.elim
end
end Go.Proofs.YtlnafekmiidpkaaDoor.S
