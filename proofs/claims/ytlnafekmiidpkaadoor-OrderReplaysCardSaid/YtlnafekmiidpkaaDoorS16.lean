/- An evaluation, and what it shows. -/
import Derived.Test.YtlnafekmiidpkaaDoorSM
namespace Go.Proofs.YtlnafekmiidpkaaDoor.S
set_option linter.all false
set_option linter.unusedVariables false
set_option linter.unusedSimpArgs false
section
variable {P : Program} {rs : List ARes} {post : AV → List AObj → Prop} {E : Env} {NK : List AV → List AObj → Node} {K : Act → World → Prop} {rest : List AItem} {Q : Exit → Act → World → Prop}
  {gs : Nat → Gh} {Pr : Nat → Prop} {tm : List AV} {hs : List AObj} {a : Act} {w w' : World} {d : Option Nat} {ty : TypeId} {pos : String} {af : Array Edge} {g : Option (Nat × Bool)} {op : AOp} {o : Oper}
theorem mapM_cons_inv {l : List Operand} {x' : Opd} {m : List Opd} (h : l.mapM cOpd = some (x' :: m)) : ∃ x r, l = x :: r ∧ cOpd x = some x' ∧ r.mapM cOpd = some m := by
  cases l with
  | nil => simp at h
  | cons x r =>
    simp only [List.mapM_cons, Option.bind_eq_bind, Option.bind_eq_some_iff, Option.pure_def, Option.some.injEq] at h
    obtain ⟨p, h1, m', h2, e⟩ := h
    injection e with e1 e2
    subst e1; subst e2
    exact ⟨x, r, rfl, h1, h2⟩
theorem mapM_nil_inv {l : List Operand} (h : l.mapM cOpd = some []) : l = [] := by
  cases l with
  | nil => rfl
  | cons x r =>
    simp only [List.mapM_cons, Option.bind_eq_bind, Option.bind_eq_some_iff, Option.pure_def, Option.some.injEq] at h
    obtain ⟨p, h1, m', h2, e⟩ := h
    cases e
/-- A call that stands next. -/
def CallOK (P : Program) (rs : List ARes) (post : AV → List AObj → Prop) (E : Env) (rest : List AItem) (K : Act → World → Prop) : Prop :=
  ∀ f args d tm hs, ACall P rs f args d rest tm hs post → ∀ gs Pr a w, Conc E gs Pr tm hs a w → ∀ vs, Czs gs (dom hs) Pr w args vs →
    (callFunc f vs).run P w = .ok (.enter f vs) w ∧ Calls P f vs w fun e w' => ∃ v, e = .returned v ∧ K (a.put d v) w'
variable (hK : Next P rs post E (fun tm hs => NodeOK P rs post (NK tm hs)) K) (hR : Next P rs post E (fun tm hs => AW P rs rest tm hs post) K) (hF : CallOK P rs post E rest K) (C : Conc E gs Pr tm hs a w)
theorem wp_enter {f : Nat} {vs : Array Value} (h : (execOp a.eval o).run P w = .ok (.enter f vs) w) (hc : Calls P f vs w fun e w' => ∃ v, e = .returned v ∧ K (a.put o.dst v) w') : o.wp P a w K Q := by
  unfold Oper.wp
  rw [h]
  exact hc.mono fun e w' ⟨v, he, hk⟩ => by subst he; exact hk
include hF C
theorem S_call {f : Nat} {l : List Operand} {l' : List Opd} {ts : Array TypeId} (hl : l.mapM cOpd = some l') (hN : NodeOK P rs post (.callN f (evs tm l') d rest tm hs)) : Oper.wp P ⟨d, .call { callee := .value (.func f), args := l.toArray, argTypes := ts }, ty, pos, af, g⟩ a w K Q := by
  obtain ⟨h1, h2⟩ := hF f _ d tm hs hN gs Pr a w C _ (C.opds hl)
  refine wp_enter ?_ h2
  have : (resolve a.eval { callee := .value (.func f), args := l.toArray, argTypes := ts } ty).run P w = .ok { target := .fn (.func f) #[], args := (l.map a.eval).toArray } w := by
    simp [resolve, Act.eval, Deferred.ofValue]
  simp only [execOp, Sem.run_bind, this, Result.andThen_ok, invoke, Array.append_empty, h1]
theorem Czs_append {gs : Nat → Gh} {D Pr : Nat → Prop} {w : World} {l m : List AV} {us vs : Array Value} (h1 : Czs gs D Pr w l us) (h2 : Czs gs D Pr w m vs) : Czs gs D Pr w (l ++ m) (us ++ vs) := by
  refine ⟨by simp [h1.1, h2.1], fun j a v e1 e2 => ?_⟩
  by_cases hj : j < l.length
  · rw [List.getElem?_append_left hj] at e1
    rw [Array.getElem?_append_left (by rw [h1.1]; exact hj)] at e2
    exact h1.2 j a v e1 e2
  · rw [List.getElem?_append_right (by omega)] at e1
    rw [Array.getElem?_append_right (by rw [h1.1]; omega), h1.1] at e2
    exact h2.2 _ a v e1 e2
theorem S_callv {x : Operand} {x' : Opd} {l : List Operand} {l' : List Opd} {ts : Array TypeId} (hx : cOpd x = some x') (hl : l.mapM cOpd = some l') (hN : NodeOK P rs post (opN NK d (.callv x' l') rest tm hs)) :
    Oper.wp P ⟨d, .call { callee := .value x, args := l.toArray, argTypes := ts }, ty, pos, af, g⟩ a w K Q := by
  have hX := C.opd hx
  simp only [opN] at hN
  split at hN
  case h_2 => exact hN.elim
  rename_i f first caps e
  rw [e] at hX
  obtain ⟨va, vb, e1, h1, h2⟩ := hX.fn_
  obtain ⟨h3, h4⟩ := hF f _ d tm hs hN gs Pr a w C _ (Czs_append hF C h1 (Czs_append hF C (C.opds hl) h2))
  refine wp_enter ?_ h4
  have : (resolve a.eval { callee := .value x, args := l.toArray, argTypes := ts } ty).run P w = .ok { target := .fn (.func f) vb, args := va ++ (l.map a.eval).toArray } w := by
    simp [resolve, e1, Deferred.ofValue]
  simp only [execOp, Sem.run_bind, this, Result.andThen_ok, invoke, Array.append_assoc, h3]
include hK hR
/-- Any operation. -/
theorem op_sound (o : Oper) (hc : cOp P o.op = some op) (hN : NodeOK P rs post (opN NK o.dst op rest tm hs)) : o.wp P a w K Q := by
  obtain ⟨d, q, ty, pos, af, g⟩ := o
  simp only at hc hN
  cases q with
  | move x => exact (S_mov hK C hc hN).1
  | assign x => exact (S_mov hK C hc hN).2
  | pick c x y => exact S_pick hK C hc hN
  | alloc t => exact S_alloc hK C hc hN
  | box t x => exact S_boxV hK C hc hN
  | build t ps => exact S_build hK C hc hN
  | buildSlice t len ps => exact S_mkSl hK C hc hN
  | load t x => exact S_ld hK hR C hc hN
  | store t x v => exact S_st hK C hc hN
  | nilCheck x => exact S_nilchk hK C hc hN
  | binOp q t x y yt =>
    simp only [cOp] at hc
    split at hc <;> rename_i hu
    · split at hc
      case h_2 => cases hc
      rename_i sh hsh
      obtain ⟨h1, hc⟩ := orNo_ok hc
      have h1 : P.eqGuardType P.depth t = false := by simpa using h1
      have hag : aggT P t = some true := by unfold aggT; rw [hu]
      split at hc
      · simp only [Option.bind_eq_bind, Option.bind_eq_some_iff, Option.pure_def, Option.some.injEq] at hc
        obtain ⟨x', hx, y', hy, rfl⟩ := hc
        exact S_eqa hK C hsh hag h1 (.inl ⟨rfl, rfl⟩) hx hy hN
      · simp only [Option.bind_eq_bind, Option.bind_eq_some_iff, Option.pure_def, Option.some.injEq] at hc
        obtain ⟨x', hx, y', hy, rfl⟩ := hc
        exact S_eqa hK C hsh hag h1 (.inr ⟨rfl, rfl⟩) hx hy hN
      · cases hc
    · split at hc
      case h_2 => cases hc
      rename_i sh hsh
      obtain ⟨h1, hc⟩ := orNo_ok hc
      have h1 : P.eqGuardType P.depth t = false := by simpa using h1
      have hag : aggT P t = some true := by unfold aggT; rw [hu]
      split at hc
      · simp only [Option.bind_eq_bind, Option.bind_eq_some_iff, Option.pure_def, Option.some.injEq] at hc
        obtain ⟨x', hx, y', hy, rfl⟩ := hc
        exact S_eqa hK C hsh hag h1 (.inl ⟨rfl, rfl⟩) hx hy hN
      · simp only [Option.bind_eq_bind, Option.bind_eq_some_iff, Option.pure_def, Option.some.injEq] at hc
        obtain ⟨x', hx, y', hy, rfl⟩ := hc
        exact S_eqa hK C hsh hag h1 (.inr ⟨rfl, rfl⟩) hx hy hN
      · cases hc
    all_goals first
      | cases hc; done
      | skip
    all_goals simp only [Option.bind_eq_bind, Option.bind_eq_some_iff, Option.pure_def, Option.some.injEq] at hc
    all_goals first
      | (obtain ⟨x', hx, y', hy, rfl⟩ := hc)
      | skip
    all_goals simp only [opN] at hN
    all_goals have hX := C.opd hx
    all_goals have hY := C.opd hy
    · generalize ev tm x' = u at hX hN
      generalize ev tm y' = v at hY hN
      simp only [bin] at hN
      split at hN
      · exact S_binI hK C hX.int hY.int hN
      · exact S_binS hK C hX.str hY.str hN
      · exact hN.elim
    · generalize ev tm x' = u at hX hN
      generalize ev tm y' = v at hY hN
      simp only [bin] at hN
      split at hN
      · exact S_binI hK C hX.int hY.int hN
      · exact S_binS hK C hX.str hY.str hN
      · exact hN.elim
    · exact S_eq1b hK C hu hX hY hN
    · exact S_eq1p hK C hu hX hY hN
    · exact S_eq1m hK C hu hX hY hN
    · exact S_eq1f hK C hu hX hY hN
    · exact S_eq1s hK C hu hX hY hN
  | unOp q t x => exact S_un hK C hc hN
  | convert s t x =>
    simp only [cOp] at hc
    split at hc <;> rename_i h1 h2
    · simp only [Option.bind_eq_bind, Option.bind_eq_some_iff, Option.pure_def, Option.some.injEq] at hc
      obtain ⟨y, hy, rfl⟩ := hc
      exact S_cvI hK C (e := .invalid) h1 h2 hy hN
    · simp only [Option.bind_eq_bind, Option.bind_eq_some_iff, Option.pure_def, Option.some.injEq] at hc
      obtain ⟨y, hy, rfl⟩ := hc
      exact S_cvId hK C h1 h2 hy hN
    · split at hc
      case h_2 => cases hc
      rename_i he
      simp only [Option.bind_eq_bind, Option.bind_eq_some_iff, Option.pure_def, Option.some.injEq] at hc
      obtain ⟨y, hy, rfl⟩ := hc
      exact S_cvBS hK C h1 he h2 hy hN
    · split at hc
      case h_2 => cases hc
      rename_i he
      simp only [Option.bind_eq_bind, Option.bind_eq_some_iff, Option.pure_def, Option.some.injEq] at hc
      obtain ⟨y, hy, rfl⟩ := hc
      exact S_cvSB hK C h1 h2 he hy hN
    · obtain ⟨hst, hc2⟩ := orNo_ok hc
      clear hc
      have hst2 : s = t := by simpa using hst
      clear hst
      subst hst2
      split at hc2
      case h_2 => cases hc2
      rename_i he
      simp only [Option.bind_eq_bind, Option.bind_eq_some_iff, Option.pure_def, Option.some.injEq] at hc2
      obtain ⟨y, hy, rfl⟩ := hc2
      exact S_cvMk hK C h1 he hy hN
    · cases hc
  | makeFunc fn first caps =>
    cases fn with
    | func f => exact S_fn hK C hc hN
    | _ => simp [cOp] at hc
  | makeSlice t l c =>
    simp only [cOp, Option.bind_eq_bind] at hc
    split at hc
    case h_2 => cases hc
    rename_i e hu
    simp only [Option.bind_eq_some_iff] at hc
    obtain ⟨i, hi, z, hz, l', hl, c', hc', hc⟩ := hc
    split at hc
    · obtain ⟨h1, hc⟩ := orNo_ok hc
      injection hc with hc
      subst hc
      simp only [Bool.and_eq_true, beq_iff_eq] at h1
      have hl0 : a.eval l = .int .i64 0 := by
        have := C.opd hl
        exact this.int
      exact S_make0 hK C hu hi hl0 hc' (by simpa [Nat.blt_eq] using h1.1) hz h1.2 hN
    · obtain ⟨h1, hc⟩ := orNo_ok hc
      injection hc with hc
      subst hc
      simp only [Bool.and_eq_true, beq_iff_eq] at h1
      exact S_make hK C hu hi hl hc' (by simpa [Nat.blt_eq] using h1.1.1) hz h1.2 h1.1.2 hN
  | slice t x lo hi mx =>
    cases mx with
    | some m => simp [cOp] at hc
    | none =>
      simp only [cOp, Option.bind_eq_bind, Option.bind_eq_some_iff] at hc
      obtain ⟨x', hx, lo', h1, hi', h2, hc⟩ := hc
      split at hc <;> rename_i hu
      · simp only [Option.pure_def, Option.some.injEq] at hc
        subst hc
        exact S_slS hK C hu hx h1 h2 hN
      · simp only [Option.pure_def, Option.bind_eq_some_iff, Option.some.injEq] at hc
        obtain ⟨n, hn, rfl⟩ := hc
        exact S_slSl hK C hu hn hx h1 h2 hN
      · simp only [Option.pure_def, Option.bind_eq_some_iff, Option.some.injEq] at hc
        obtain ⟨n, hn, rfl⟩ := hc
        exact S_slAr hK C hu hn hx h1 h2 hN
      · cases hc
  | fieldAddr s x f => exact S_fad hK C hc hN
  | field s x f => exact S_fld hK C hc hN
  | indexAddr t x i =>
    simp only [cOp, Option.bind_eq_bind, Option.bind_eq_some_iff] at hc
    obtain ⟨x', hx, i', hi, hc⟩ := hc
    split at hc <;> rename_i hu
    · simp only [Option.bind_eq_some_iff] at hc
      obtain ⟨s, hsz, hc⟩ := hc
      split at hc
      · rename_i k m
        obtain ⟨h1, hc⟩ := orNo_ok hc
        injection hc with hc
        subst hc
        simp only [Bool.and_eq_true, decide_eq_true_eq] at h1
        have hI := (C.opd hi).int
        have hX := C.opd hx
        have run : ∀ (b o : Nat), a.eval x = .pointer (some (at_ b o)) → (execOp a.eval ⟨d, .indexAddr t x i, ty, pos, af, g⟩).run P w = .ok (.value (.pointer (some (at_ b (o + m.toNat * s))))) w := by
          intro b o e1
          simp only [execOp, Instr.indexAt, hI, asIntOf, Instr.sureAddr, e1, Sem.run_bind, Sem.run_pure, Result.andThen_ok, run_un hu, h1, and_self, if_true, run_sz hsz, at_add]
        simp only [opN] at hN
        split at hN
        · rename_i e; rw [e] at hX; exact fin_ hK C (run _ _ hX.ptr_.1) (.ptr _ _ hX.ptr_.2) hN
        · rename_i e; rw [e] at hX; exact fin_ hK C (run _ _ hX.ptrS_.1) (.ptrS _ _ hX.ptrS_.2) hN
        · rename_i e; rw [e] at hX
          obtain ⟨b, o, e1, hp, h2⟩ := rp_ hX
          exact fin_ hK C (run _ _ e1) (by rw [Nat.add_assoc]; exact .rp _ _ _ _ hp h2) hN
        · rename_i e; rw [e] at hX; exact fin_ hK C (run _ _ hX.gp_.1) (by rw [Nat.add_assoc]; exact .gp _ _ _ _ hX.gp_.2) hN
        · exact hN.elim
      · simp only [Option.pure_def, Option.some.injEq] at hc
        subst hc
        exact S_ixA hK hR C hu hsz hx hi hN
    · simp only [Option.bind_eq_some_iff, Option.pure_def, Option.some.injEq] at hc
      obtain ⟨n, hn, rfl⟩ := hc
      exact S_ixS hK hR C hu hn hx hi hN
    · cases hc
  | index t x i =>
    simp only [cOp, Option.bind_eq_bind, Option.bind_eq_some_iff] at hc
    obtain ⟨x', hx, i', hi, hc⟩ := hc
    split at hc <;> rename_i hu
    · simp only [Option.bind_eq_some_iff] at hc
      obtain ⟨s, hsz, ag, hag, hc⟩ := hc
      split at hc
      · rename_i k m
        obtain ⟨h1, hc⟩ := orNo_ok hc
        injection hc with hc
        subst hc
        simp only [Bool.and_eq_true, decide_eq_true_eq] at h1
        have hI := (C.opd hi).int
        have hX := C.opd hx
        simp only [opN] at hN
        have fin : ∀ (vs : List Value) (r : Value) (x' : AV), a.eval x = .agg vs.toArray → (ag = true ∧ r = .agg ((vs.drop (m.toNat * s)).take s).toArray ∨ ag = false ∧ vs[m.toNat * s]? = some r) → Cz gs (dom hs) Pr w x' r → NodeOK P rs post (NK (putL tm d x') hs) →
            Oper.wp P ⟨d, .index t x i, ty, pos, af, g⟩ a w K Q := by
          intro vs r x' e hr hz hN
          refine wp_val (v := r) (w' := w) ?_ (hK _ _ hN _ _ _ _ (C.put d hz))
          simp only [execOp, Instr.index, hI, asIntOf, e, Sem.run_bind, Sem.run_pure, Result.andThen_ok, run_un hu, h1, and_self, if_true, run_sz hsz, run_part hag hsz hr]
        split at hN
        · rename_i cs e
          rw [e] at hX
          obtain ⟨vs, e1, e2, e3, e4⟩ := hX.arr_.arr_
          rw [← Array.toArray_toList (xs := vs)] at e1
          rcases partA_ok (vs := vs.toList) (by simpa using e2) (fun j a v h1 h2 => e3 j a v h1 (by simpa using h2)) e4 hN with ⟨rfl, hle, x', hz, hN⟩ | ⟨rfl, v, hv, x', hz, hN⟩
          · exact fin _ _ _ e1 (.inl ⟨rfl, rfl⟩) (.lf hz) hN
          · exact fin _ _ _ e1 (.inr ⟨rfl, hv⟩) (.lf hz) hN
        · rename_i cs e
          rw [e] at hX
          obtain ⟨vs, e1, e2, e3, e4⟩ := hX.agg_
          rw [← Array.toArray_toList (xs := vs)] at e1
          rcases part_ok (vs := vs.toList) (by simpa using e2) (fun j a v h1 h2 => e3 j a v h1 (by simpa using h2)) e4 hN with ⟨rfl, hle, x', hz, hN⟩ | ⟨rfl, v, hv, x', hz, hN⟩
          · exact fin _ _ _ e1 (.inl ⟨rfl, rfl⟩) hz hN
          · exact fin _ _ _ e1 (.inr ⟨rfl, hv⟩) hz hN
        · exact hN.elim
      · simp only [Option.pure_def, Option.some.injEq] at hc
        subst hc
        exact S_ixV hK hR C hu hsz hag hx hi hN
    · simp only [Option.pure_def, Option.some.injEq] at hc
      subst hc
      exact S_ixStr hK C hu hx hi hN
    · cases hc
  | extract x i => exact S_ext hK C hc hN
  | makeMap t r =>
    cases r with
    | some r => simp [cOp] at hc
    | none =>
      simp only [cOp] at hc
      split at hc
      case h_2 => cases hc
      rename_i hu
      split at hc
      case h_2 => cases hc
      injection hc with hc
      subst hc
      exact S_mkMap hK C hu hN
  | lookup t x i ok =>
    simp only [cOp] at hc
    split at hc
    case h_2 => cases hc
    rename_i hu
    split at hc
    case h_2 => cases hc
    rename_i hk
    simp only [Option.bind_eq_bind, Option.bind_eq_some_iff, Option.pure_def, Option.some.injEq] at hc
    obtain ⟨z, hz, x', hx, i', hi, rfl⟩ := hc
    exact S_lkup hK hR C hu hk hz hx hi hN
  | mapUpdate t x i v =>
    simp only [cOp] at hc
    split at hc
    case h_2 => cases hc
    rename_i hu
    split at hc
    case h_2 => cases hc
    rename_i hk
    simp only [Option.bind_eq_bind, Option.bind_eq_some_iff, Option.pure_def, Option.some.injEq] at hc
    obtain ⟨x', hx, i', hi, y', hy, rfl⟩ := hc
    exact (S_mset hK C hu hk hx hi hy hN).1
  | insert t x i v =>
    simp only [cOp] at hc
    split at hc
    case h_2 => cases hc
    rename_i hu
    split at hc
    case h_2 => cases hc
    rename_i hk
    simp only [Option.bind_eq_bind, Option.bind_eq_some_iff, Option.pure_def, Option.some.injEq] at hc
    obtain ⟨x', hx, i', hi, y', hy, rfl⟩ := hc
    exact (S_mset hK C hu hk hx hi hy hN).2
  | mapEntry t x i =>
    simp only [cOp] at hc
    split at hc
    case h_2 => cases hc
    rename_i hu
    split at hc
    case h_2 => cases hc
    rename_i hk
    simp only [Option.bind_eq_bind, Option.bind_eq_some_iff, Option.pure_def, Option.some.injEq] at hc
    obtain ⟨z, hz, x', hx, i', hi, rfl⟩ := hc
    exact S_ment hK C hu hk hz hx hi hN
  | entryStore t x s v =>
    simp only [cOp, Option.bind_eq_bind, Option.bind_eq_some_iff, Option.pure_def, Option.some.injEq] at hc
    obtain ⟨x', hx, s', hs', y', hy, rfl⟩ := hc
    exact S_mstore hK C hx hs' hy hN
  | range t x =>
    simp only [cOp] at hc
    split at hc
    case h_2 => cases hc
    rename_i hu
    simp only [Option.bind_eq_bind, Option.bind_eq_some_iff, Option.pure_def, Option.some.injEq] at hc
    obtain ⟨x', hx, rfl⟩ := hc
    exact S_mrange hK C hu hx hN
  | next x b =>
    cases b with
    | true => simp [cOp] at hc
    | false =>
      simp only [cOp, Option.bind_eq_bind, Option.bind_eq_some_iff, Option.pure_def, Option.some.injEq] at hc
      obtain ⟨x', hx, rfl⟩ := hc
      exact S_mnext hK hR C hx hN
  | entry x =>
    simp only [cOp, Option.bind_eq_bind, Option.bind_eq_some_iff, Option.pure_def, Option.some.injEq] at hc
    obtain ⟨x', hx, rfl⟩ := hc
    exact S_mentry hK hR C hx hN
  | makeInterface t x =>
    simp only [cOp, Option.some.injEq] at hc
    subst hc
    exact hN.elim
  | panic x =>
    simp only [cOp, Option.some.injEq] at hc
    subst hc
    exact hN.elim
  | call c =>
    obtain ⟨callee, args, ts⟩ := c
    obtain ⟨args⟩ := args
    cases callee with
    | builtin b =>
      simp only [cOp, cOpds, Option.bind_eq_bind, Option.bind_eq_some_iff] at hc
      obtain ⟨l, hl, t0, h0, hc⟩ := hc
      have more : ∀ {x' : Opd} {m : List Opd}, l = x' :: m → ∃ x r, args = x :: r ∧ cOpd x = some x' ∧ r.mapM cOpd = some m := by
        intro x' m e
        subst e
        exact mapM_cons_inv hl
      have one : ∀ {x' : Opd}, l = [x'] → ∃ x, args = [x] ∧ cOpd x = some x' := by
        intro x' e
        obtain ⟨x, r, rfl, h1, h2⟩ := more e
        obtain rfl := mapM_nil_inv h2
        exact ⟨x, rfl, h1⟩
      have two : ∀ {x' y' : Opd}, l = [x', y'] → ∃ x y, args = [x, y] ∧ cOpd x = some x' ∧ cOpd y = some y' := by
        intro x' y' e
        obtain ⟨x, r, rfl, h1, h2⟩ := more e
        obtain ⟨y, r, rfl, h3, h4⟩ := mapM_cons_inv h2
        obtain rfl := mapM_nil_inv h4
        exact ⟨x, y, rfl, h1, h3⟩
      split at hc
      · rename_i x'
        obtain ⟨x, rfl, hx⟩ := one rfl
        split at hc <;> rename_i hu
        · simp only [Option.pure_def, Option.some.injEq] at hc
          subst hc
          exact S_lenS hK C h0 hu hx hN
        · simp only [Option.pure_def, Option.some.injEq] at hc
          subst hc
          exact S_lenB hK C h0 hu hx hN
        · simp only [Option.pure_def, Option.some.injEq] at hc
          subst hc
          exact S_lenC hK C h0 hu hx hN
        · simp only [Option.pure_def, Option.some.injEq] at hc
          subst hc
          exact S_lenM hK C h0 hu hx hN
        · cases hc
      · rename_i x' y'
        obtain ⟨x, y, rfl, hx, hy⟩ := two rfl
        split at hc <;> rename_i hu
        · split at hc <;> rename_i hk
          · obtain ⟨_, hc⟩ := orNo_ok hc
            injection hc with hc
            subst hc
            exact S_mdel hK C h0 hu hk hx hy hN
          · cases hc
        · cases hc
      · rename_i x'
        obtain ⟨x, rfl, hx⟩ := one rfl
        split at hc <;> rename_i hu
        · simp only [Option.pure_def, Option.some.injEq] at hc
          subst hc
          exact S_capB hK C h0 hu hx hN
        · cases hc
      · rename_i x' y'
        obtain ⟨x, y, rfl, hx, hy⟩ := two rfl
        split at hc
        case h_2 => cases hc
        rename_i e hu
        simp only [Option.bind_eq_some_iff] at hc
        obtain ⟨t1, ht1, i, hi, z, hz, hc⟩ := hc
        obtain ⟨h1, hc⟩ := orNo_ok hc
        simp only [Bool.and_eq_true, beq_iff_eq] at h1
        obtain ⟨⟨h1, h2⟩, h3⟩ := h1
        have h1 : 0 < i.size := by simpa [Nat.blt_eq] using h1
        have h2 : 0 < i.bytes := by simpa [Nat.blt_eq] using h2
        have hX := C.opd hx
        have hY := C.opd hy
        split at hc <;> rename_i hu1
        · injection hc with hc
          subst hc
          obtain ⟨ys, hrd, hN⟩ := rowsV_ok C hY hN
          exact S_app hK C h0 ht1 hu (.inr ⟨_, hu1⟩) hi hz h3 h1 h2 hX (src_rd hrd) hN
        · obtain ⟨h4, hc⟩ := orNo_ok hc
          injection hc with hc
          subst hc
          have h4 : i.size = 1 := by simpa using h4
          simp only [opN] at hN
          split at hN
          case h_2 => exact hN.elim
          rename_i s e2
          rw [e2] at hY
          exact S_app hK C h0 ht1 hu (.inl hu1) hi hz h3 h1 h2 hX (by rw [hY.str, h4]; exact src_str s) (by rw [h4]; exact hN)
        · obtain ⟨h4, hc⟩ := orNo_ok hc
          injection hc with hc
          subst hc
          simp only [Bool.and_eq_true, beq_iff_eq] at h4
          have hts : ts = #[t0, t1] := by
            obtain ⟨ts⟩ := ts
            match ts, h4.2 with
            | [u, v], _ =>
              simp at h0 ht1
              rw [h0, ht1]
          exact S_app0 hK C hts hu hu1 hi hz h3 h4.1 h1 h2 hx hy hN
        · cases hc
      · rename_i x' y'
        obtain ⟨x, y, rfl, hx, hy⟩ := two rfl
        split at hc
        case h_2 => cases hc
        rename_i e hu
        simp only [Option.bind_eq_some_iff] at hc
        obtain ⟨t1, ht1, sz, hsz, hc⟩ := hc
        obtain ⟨h1, hc⟩ := orNo_ok hc
        have h1 : 0 < sz := by simpa [Nat.blt_eq] using h1
        split at hc <;> rename_i hu1
        · injection hc with hc
          subst hc
          exact S_cpy hK C h0 hu hsz h1 hx hy hN
        · obtain ⟨h4, hc⟩ := orNo_ok hc
          injection hc with hc
          subst hc
          have h4 : sz = 1 := by simpa using h4
          subst h4
          exact S_cpyS hK C h0 hu hsz hx hy hN
        · cases hc
      · rename_i x' m
        obtain ⟨x, r, rfl, hx, hr⟩ := more rfl
        simp only [Option.pure_def, Option.some.injEq] at hc
        subst hc
        exact S_mx hK C hx hr hN
      · rename_i x' m
        obtain ⟨x, r, rfl, hx, hr⟩ := more rfl
        simp only [Option.pure_def, Option.some.injEq] at hc
        subst hc
        exact S_mn hK C hx hr hN
      · cases hc
    | value f =>
      simp only [cOp, cOpds, Option.bind_eq_bind, Option.bind_eq_some_iff] at hc
      obtain ⟨l, hl, hc⟩ := hc
      cases f with
      | func f =>
        simp only [Option.pure_def, Option.some.injEq] at hc
        subst hc
        exact S_call hF C hl hN
      | tmp t =>
        simp only [Option.pure_def, Option.some.injEq] at hc
        subst hc
        exact S_callv hF C rfl hl hN
      | _ => cases hc
    | invoke r m => simp [cOp] at hc
  | _ => simp [cOp] at hc
end
end Go.Proofs.YtlnafekmiidpkaaDoor.S
