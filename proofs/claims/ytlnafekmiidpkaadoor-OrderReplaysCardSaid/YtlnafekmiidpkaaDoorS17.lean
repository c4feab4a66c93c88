/- The evaluation is sound. -/
import Derived.Test.YtlnafekmiidpkaaDoorS16
namespace Go.Proofs.YtlnafekmiidpkaaDoor.S
set_option linter.all false
set_option linter.unusedVariables false
set_option linter.unusedSimpArgs false
section
variable {P : Program} {rs : List ARes} {post : AV → List AObj → Prop} {E : Env} {Q : Exit → Act → World → Prop} {gs : Nat → Gh} {Pr : Nat → Prop} {tm : List AV} {hs : List AObj} {a : Act} {w : World}
theorem scK_same (c : Code) (K : Exit → Act → World → Prop) (m : Nat) {e : Exit} (h : ∀ l, e ≠ .goto l) : scK P c K m e a w = K e a w := by
  cases m <;> cases e <;> first | rfl | exact absurd rfl (h _)
theorem scK_pass (c : Code) (K : Exit → Act → World → Prop) (m l : Nat) (h : findLabel c l = none) : scK P c K m (.goto l) a w = K (.goto l) a w := by
  cases m <;> simp [scK, h]
theorem lpK_same (c : Code) (K : Exit → Act → World → Prop) (m : Nat) {e : Exit} (h : e ≠ .normal) : lpK P c K m e a w = K e a w := by
  cases m <;> cases e <;> first | rfl | exact absurd rfl h
theorem kont_ret (mt : List MItem) : kont P Q mt .ret a w = Q .ret a w := by
  induction mt with
  | nil => rfl
  | cons x k ih =>
    cases x
    case scope m c => rw [kont, scK_same c _ m (by simp)]; exact ih
    case inLoop m c => rw [kont, lpK_same c _ m (by simp)]; exact ih
    all_goals simpa [kont] using ih
theorem leave_ok {id : Nat} : ∀ {todo : List AItem} {mt : List MItem} {todo' : List AItem}, IRels P E todo mt → leave id todo = some todo' → ∃ mt', IRels P E todo' mt' ∧ ∀ a w, kont P Q mt' .normal a w → kont P Q mt (.exit id) a w
  | [], mt, todo', _, h => by simp [leave] at h
  | x :: todo, mt, todo', hi, h => by
    cases mt with
    | nil => exact hi.elim
    | cons y mt =>
      obtain ⟨h1, h2⟩ := hi
      have go : leave id todo = some todo' → (∀ a w, kont P Q mt (.exit id) a w → kont P Q (y :: mt) (.exit id) a w) → ∃ mt', IRels P E todo' mt' ∧ ∀ a w, kont P Q mt' .normal a w → kont P Q (y :: mt) (.exit id) a w := by
        intro h hk
        obtain ⟨mt', h3, h4⟩ := leave_ok h2 h
        exact ⟨mt', h3, fun a w hq => hk a w (h4 a w hq)⟩
      cases x <;> cases y <;> simp only [IRel] at h1
      case code.code c c' => exact go (by simpa [leave] using h) (fun a w h => by simpa [kont] using h)
      case ops.ops l full l' => exact go (by simpa [leave] using h) (fun a w h => by simpa [kont] using h)
      case again.again J J' => exact go (by simpa [leave] using h) (fun a w h => by simpa [kont] using h)
      case inLoop.inLoop m c m' c' =>
        exact go (by simpa [leave] using h) (fun a w h => by rw [kont, lpK_same c' _ m' (by simp)]; exact h)
      case scope.scope m n c m' c' =>
        exact go (by simpa [leave] using h) (fun a w h => by rw [kont, scK_same c' _ m' (by simp)]; exact h)
      case block.block i j =>
        subst h1
        simp only [leave] at h
        split at h
        · rename_i e
          obtain rfl := Nat.eq_of_beq_eq_true e
          injection h with h
          subst h
          exact ⟨mt, h2, fun a w hq => by simpa [kont] using hq⟩
        · rename_i e
          have hne : ¬ id = i := fun e' => by rw [e'] at e; simp at e
          exact go h (fun a w h => by simpa [kont, hne] using h)
/-- A result's value. -/
def resF (P : Program) (tmps : Array Value) : ResultVar → Sem Value
  | .tmp t => pure (tmps.getD t undef)
  | .cell a t => do loadVar t (← asAddr (tmps.getD a undef))
theorem res_ok (C : Conc E gs Pr tm hs a w) : ∀ (l : List ResultVar) (rs' : List ARes) (k : List AV → Node), l.mapM (cRes P) = some rs' → NodeOK P rs post (resN tm hs rs' k) →
    ∃ vs avs, (l.mapM (resF P a.tmps)).run P w = .ok vs w ∧ Czs gs (dom hs) Pr w avs vs.toArray ∧ NodeOK P rs post (k avs)
  | [], rs', k, h, hN => by
    simp at h; subst h
    exact ⟨[], [], rfl, ⟨rfl, fun j a v h => by simp at h⟩, hN⟩
  | r :: l, rs', k, h, hN => by
    simp only [List.mapM_cons, Option.bind_eq_bind, Option.bind_eq_some_iff, Option.pure_def, Option.some.injEq] at h
    obtain ⟨r', hr, l', hl, rfl⟩ := h
    have step : ∀ (v : Value) (x : AV), (resF P a.tmps r).run P w = .ok v w → Cz gs (dom hs) Pr w x v → NodeOK P rs post (resN tm hs l' fun vs => k (x :: vs)) →
        ∃ vs avs, ((r :: l).mapM (resF P a.tmps)).run P w = .ok vs w ∧ Czs gs (dom hs) Pr w avs vs.toArray ∧ NodeOK P rs post (k avs) := by
      intro v x h1 h2 h3
      obtain ⟨vs, avs, h4, h5, h6⟩ := res_ok C l l' _ hl h3
      refine ⟨v :: vs, x :: avs, by simp only [List.mapM_cons, Sem.run_bind, h1, Result.andThen_ok, h4, Sem.run_pure], ⟨by simpa using h5.1, fun j b u e1 e2 => ?_⟩, h6⟩
      cases j with
      | zero => simp at e1 e2; subst e1; subst e2; exact h2
      | succ j => exact h5.2 j b u (by simpa using e1) (by simpa using e2)
    cases r with
    | tmp t =>
      simp only [cRes, Option.some.injEq] at hr
      subst hr
      exact step _ _ rfl (C.tms t) hN
    | cell b t =>
      simp only [cRes, Option.bind_eq_bind, Option.bind_eq_some_iff, Option.pure_def, Option.some.injEq] at hr
      obtain ⟨n, hn, ag, hag, rfl⟩ := hr
      simp only [resN] at hN
      split at hN
      case h_2 => exact hN.elim
      rename_i q off e
      have h := C.tms b
      rw [e] at h
      obtain ⟨e1, hk⟩ := h.ptr_
      have hrun : ∀ {v : Value}, (loadVar t (at_ (gs q).blk off)).run P w = .ok v w → (resF P a.tmps (.cell b t)).run P w = .ok v w := by
        intro v hv
        simp only [resF, e1, asAddr, Sem.run_bind, Sem.run_pure, Result.andThen_ok, hv]
      split at hN
      · rename_i t' cs ho
        obtain ⟨c, hm, hoc, hsz, hv⟩ := blk_cells (C.obj hk ho)
        rcases partA_ok (vs := c.toList) (by simpa using hsz) (fun j a v h1 h2 => hv j a v h1 (by simpa using h2)) hoc hN with ⟨rfl, hle, x', hz, hN⟩ | ⟨rfl, v, hv, x', hz, hN⟩
        · exact step _ _ (hrun (run_loadPart0 hag hn hm (.inl ⟨rfl, by simp; omega, rfl⟩))) (.lf hz) hN
        · exact step _ _ (hrun (run_loadPart0 hag hn hm (.inr ⟨rfl, hv⟩))) (.lf hz) hN
      · rename_i t' cs ho
        obtain ⟨c, hm, hoc, hsz, hv⟩ := blk_cells (C.obj hk ho)
        rcases part_ok (vs := c.toList) (by simpa using hsz) (fun j a v h1 h2 => hv j a v h1 (by simpa using h2)) hoc hN with ⟨rfl, hle, x', hz, hN⟩ | ⟨rfl, v, hv, x', hz, hN⟩
        · exact step _ _ (hrun (run_loadPart0 hag hn hm (.inl ⟨rfl, by simp; omega, rfl⟩))) hz hN
        · exact step _ _ (hrun (run_loadPart0 hag hn hm (.inr ⟨rfl, hv⟩))) hz hN
      · exact hN.elim
theorem results_eq (fn : Func) (tmps : Array Value) : results fn tmps = (do let vs ← fn.results.toList.mapM (resF P tmps); pure (if h : vs.toArray.size = 1 then vs.toArray[0] else .tuple vs.toArray)) := by
  unfold results
  have hf : (fun | .tmp t => pure (tmps.getD t undef) | .cell a t => do loadVar t (← asAddr (tmps.getD a undef)) : ResultVar → Sem Value) = resF P tmps := by
    funext r; cases r <;> rfl
  rw [Array.mapM_eq_mapM_toList]
  simp only [map_eq_pure_bind, bind_assoc, pure_bind]
  rfl
theorem fin_sound {fn : Func} (hrs : fn.results.toList.mapM (cRes P) = some rs) (C : Conc E gs Pr tm hs a w) (hN : NodeOK P rs post (resN tm hs rs fun vs => .ret (retV vs) hs)) : a.defers = [] ∧ ∃ v, (results fn a.tmps).run P w = .ok v w ∧ Rfin E post (.returned v) w := by
  obtain ⟨vs, avs, h1, h2, h3⟩ := res_ok C fn.results.toList rs _ hrs hN
  refine ⟨C.dfs, (if h : vs.toArray.size = 1 then vs.toArray[0] else .tuple vs.toArray), ?_, ?_⟩
  · rw [results_eq (P := P)]
    simp only [Sem.run_bind, h1, Result.andThen_ok, Sem.run_pure]
  · refine ⟨_, retV avs, hs, gs, Pr, rfl, h3, ?_, C.rep, C.kp, C.p0, C.pm, C.agree, C.len0, C.kind⟩
    have hl : vs.length = avs.length := by simpa using h2.1
    match avs, vs, hl, h2 with
    | [], [], _, h2 => exact .tup _ _ h2.1 h2.2
    | [x], [v], _, h2 => exact h2.2 0 x v rfl rfl
    | x :: y :: l, u :: v :: m, _, h2 =>
      simp only [List.size_toArray, List.length_cons]
      rw [dif_neg (by omega)]
      exact .tup _ _ h2.1 h2.2
theorem cCode_inv {c : Code} {ac : ACode} (h : cCode P c = some ac) : (match ac with
    | .skip => c = .skip
    | .ret => c = .ret
    | .reg l => ∃ id ops, c = .region id ops false ∧ cOpers P ops ops.toList = some l
    | .dreg l cl => ∃ id ops, c = .region id ops true ∧ cOpers P ops ops.toList = some l ∧ needsLt ops = true ∧ cl = clsGo [] (ops.toList.map K.needs)
    | .seq x y => ∃ x' y', c = .seq x' y' ∧ cCode P x' = some x ∧ cCode P y' = some y
    | .cond q x y => ∃ q' x' y', c = .cond q' x' y' ∧ cOpd q' = some q ∧ cCode P x' = some x ∧ cCode P y' = some y
    | .block id x => ∃ x', c = .block id x' ∧ cCode P x' = some x
    | .loop x => ∃ x', c = .loop x' ∧ cCode P x' = some x
    | .exit id => c = .exit id
    | .scope x => ∃ x', c = .scope x' ∧ cCode P x' = some x
    | .label l => c = .label l
    | .goto l => c = .goto l) := by
  cases c with
  | skip => simp only [cCode, Option.bind_eq_bind, Option.bind_eq_some_iff, Option.pure_def, Option.some.injEq] at h; subst h; rfl
  | ret => simp only [cCode, Option.bind_eq_bind, Option.bind_eq_some_iff, Option.pure_def, Option.some.injEq] at h; subst h; rfl
  | label l => simp only [cCode, Option.some.injEq] at h; subst h; rfl
  | goto l => simp only [cCode, Option.some.injEq] at h; subst h; rfl
  | scope x => simp only [cCode, Option.bind_eq_bind, Option.bind_eq_some_iff, Option.pure_def, Option.some.injEq] at h; obtain ⟨x', hx, rfl⟩ := h; exact ⟨x, rfl, hx⟩
  | exit id => simp only [cCode, Option.bind_eq_bind, Option.bind_eq_some_iff, Option.pure_def, Option.some.injEq] at h; subst h; rfl
  | region id ops draw =>
    simp only [cCode, Option.bind_eq_bind, Option.bind_eq_some_iff, Option.pure_def, Option.some.injEq] at h
    obtain ⟨l, hl, h⟩ := h
    cases draw with
    | true =>
      simp only at h
      unfold orNo at h
      split at h
      · rename_i e; injection h with h; subst h; exact ⟨id, ops, rfl, hl, e, rfl⟩
      · cases h
    | false => simp only [Option.some.injEq] at h; subst h; exact ⟨id, ops, rfl, hl⟩
  | seq x y => simp only [cCode, Option.bind_eq_bind, Option.bind_eq_some_iff, Option.pure_def, Option.some.injEq] at h; obtain ⟨x', hx, y', hy, rfl⟩ := h; exact ⟨x, y, rfl, hx, hy⟩
  | cond q x y => simp only [cCode, Option.bind_eq_bind, Option.bind_eq_some_iff, Option.pure_def, Option.some.injEq] at h; obtain ⟨q', hq, x', hx, y', hy, rfl⟩ := h; exact ⟨q, x, y, rfl, hq, hx, hy⟩
  | block id x => simp only [cCode, Option.bind_eq_bind, Option.bind_eq_some_iff, Option.pure_def, Option.some.injEq] at h; obtain ⟨x', hx, rfl⟩ := h; exact ⟨x, rfl, hx⟩
  | loop x => simp only [cCode, Option.bind_eq_bind, Option.bind_eq_some_iff, Option.pure_def, Option.some.injEq] at h; obtain ⟨x', hx, rfl⟩ := h; exact ⟨x, rfl, hx⟩
  | _ => simp [cCode] at h
/-- What follows a label, in both. -/
theorem findA_ok : ∀ (c : Code) (ac : ACode) (l : Nat), cCode P c = some ac → (∀ r, findA ac l = some r → ∃ r', findLabel c l = some r' ∧ cCode P r' = some r) ∧ (findA ac l = none → findLabel c l = none) := by
  intro c
  induction c with
  | seq x y ihx ihy =>
    intro ac l h
    simp only [cCode, Option.bind_eq_bind, Option.bind_eq_some_iff, Option.pure_def, Option.some.injEq] at h
    obtain ⟨x', hx, y', hy, rfl⟩ := h
    obtain ⟨h1, h2⟩ := ihx x' l hx
    obtain ⟨h3, h4⟩ := ihy y' l hy
    simp only [findA, findLabel]
    cases e : findA x' l with
    | some r =>
      obtain ⟨r', e1, e2⟩ := h1 r e
      rw [e1]
      refine ⟨fun q hq => ?_, fun hq => by simp at hq⟩
      simp only [Option.some.injEq] at hq
      subst hq
      exact ⟨_, rfl, by simp [cCode, e2, hy]⟩
    | none =>
      rw [h2 e]
      exact ⟨fun q hq => h3 q (by simpa using hq), fun hq => h4 (by simpa using hq)⟩
  | label k =>
    intro ac l h
    simp only [cCode, Option.some.injEq] at h
    subst h
    simp only [findA, findLabel]
    by_cases e : k = l
    · subst e
      simp [cCode]
    · have e1 : Nat.beq k l = false := by
        cases hb : Nat.beq k l with
        | true => exact absurd (Nat.eq_of_beq_eq_true hb) e
        | false => rfl
      rw [e1]
      simp [e]
  | _ =>
    intro ac l h
    refine ⟨fun r hr => ?_, fun _ => rfl⟩
    have := cCode_inv h
    cases ac <;> simp only [findA] at hr this <;> first | cases hr | skip
    all_goals first
      | (obtain ⟨_, _, e, _⟩ := this; cases e)
      | (cases this)
theorem jump_ok {l : Nat} : ∀ {todo : List AItem} {mt : List MItem} {m n : Nat} {r c : ACode} {k : List AItem}, IRels P E todo mt → jump l todo = some (m, n, r, c, k) → 0 < m →
    ∃ mt', IRels P E (.code r :: .scope (m - 1) n c :: k) mt' ∧ ∀ a w, kont P Q mt' .normal a w → kont P Q mt (.goto l) a w
  | [], mt, m, n, r, c, k, _, h, _ => by simp [jump] at h
  | x :: todo, mt, m, n, r, c, k, hi, h, hm => by
    cases mt with
    | nil => exact hi.elim
    | cons y mt =>
      obtain ⟨h1, h2⟩ := hi
      have go : jump l todo = some (m, n, r, c, k) → (∀ a w, kont P Q mt (.goto l) a w → kont P Q (y :: mt) (.goto l) a w) → ∃ mt', IRels P E (.code r :: .scope (m - 1) n c :: k) mt' ∧ ∀ a w, kont P Q mt' .normal a w → kont P Q (y :: mt) (.goto l) a w := by
        intro h hk
        obtain ⟨mt', h3, h4⟩ := jump_ok h2 h hm
        exact ⟨mt', h3, fun a w hq => hk a w (h4 a w hq)⟩
      cases x <;> cases y <;> simp only [IRel] at h1
      case code.code c c' => exact go (by simpa [jump] using h) (fun a w h => by simpa [kont] using h)
      case ops.ops l full l' => exact go (by simpa [jump] using h) (fun a w h => by simpa [kont] using h)
      case again.again J J' => exact go (by simpa [jump] using h) (fun a w h => by simpa [kont] using h)
      case block.block i j => exact go (by simpa [jump] using h) (fun a w h => by simpa [kont] using h)
      case inLoop.inLoop m1 c1 m2 c2 =>
        exact go (by simpa [jump] using h) (fun a w h => by rw [kont, lpK_same c2 _ m2 (by simp)]; exact h)
      case scope.scope m1 n1 c1 m2 c2 =>
        obtain ⟨rfl, hn, hc⟩ := h1
        obtain ⟨f1, f2⟩ := findA_ok c2 c1 l hc
        simp only [jump] at h
        cases e : findA c1 l with
        | none =>
          rw [e] at h
          exact go (by simpa using h) (fun a w h => by rw [kont, scK_pass c2 _ m1 l (f2 e)]; exact h)
        | some q =>
          rw [e] at h
          simp only [Option.some.injEq, Prod.mk.injEq] at h
          obtain ⟨rfl, rfl, rfl, rfl, rfl⟩ := h
          obtain ⟨q', e1, e2⟩ := f1 q e
          obtain ⟨m, rfl⟩ : ∃ m, m1 = m + 1 := ⟨m1 - 1, by omega⟩
          have ek : ∀ a w, kont P Q (.scope (m + 1) c2 :: mt) (.goto l) a w = q'.wp P (scK P c2 (kont P Q mt) m) a w := fun a w => by simp [kont, scK, e1]
          have plain : ∃ mt', IRels P E (.code q :: .scope (m + 1 - 1) n1 c1 :: todo) mt' ∧ ∀ a w, kont P Q mt' .normal a w → kont P Q (.scope (m + 1) c2 :: mt) (.goto l) a w :=
            ⟨.code q' :: .scope m c2 :: mt, ⟨e2, ⟨rfl, hn, hc⟩, h2⟩, fun a w hq => by
              rw [ek]
              have hq : q'.wp P (kont P Q (.scope m c2 :: mt)) a w := hq
              refine wp_mono hq fun e a w h => ?_
              rw [kont] at h
              exact h⟩
          unfold restA
          split
          · rename_i b
            have hq := cCode_inv e2
            obtain ⟨x', y', rfl, hx, hy⟩ := hq
            have hx' := cCode_inv hx
            simp only at hx'
            subst hx'
            refine ⟨.code y' :: .scope m c2 :: mt, ⟨hy, ⟨rfl, hn, hc⟩, h2⟩, fun a w hq => ?_⟩
            rw [ek]
            have hq : y'.wp P (kont P Q (.scope m c2 :: mt)) a w := hq
            refine wp_seq (wp_skip ?_)
            show Code.wp P y' _ a w
            refine wp_mono hq fun e a w h => ?_
            rw [kont] at h
            exact h
          · exact plain
/-- A scope with so many jumps. -/
theorem wp_scope_n {c : Code} : ∀ (m : Nat) {a : Act} {w : World}, c.wp P (scK P c Q m) a w → (Code.scope c).wp P Q a w := by
  have key : ∀ (m : Nat) (rest : Code) (a : Act) (w : World), rest.wp P (scK P c Q m) a w → ∀ b k cs, ∃ e a' w', Q e a' w' ∧ Arrives P (lone (b.at a (.code rest :: .inScope c :: k)) cs w) b k cs e a' w' := by
    intro m
    induction m with
    | zero =>
      intro rest a w h b k cs
      obtain ⟨e, a₁, w₁, hq, harr⟩ := h b (.inScope c :: k) cs
      cases e with
      | normal => exact ⟨.normal, a₁, w₁, hq, Steps.trans harr (.one step_inScope)⟩
      | exit id => exact ⟨.exit id, a₁, w₁, hq, fun k' hk => harr k' (by simp [exitTo, hk])⟩
      | goto l =>
        simp only [scK] at hq
        split at hq
        · rename_i e
          exact ⟨.goto l, a₁, w₁, hq, fun k' hk => harr k' (by simp [gotoIn, e, hk])⟩
        · exact hq.elim
      | ret => exact ⟨_, a₁, w₁, hq, harr⟩
      | panic ch => exact ⟨_, a₁, w₁, hq, harr⟩
      | outgrown => exact ⟨_, a₁, w₁, hq, harr⟩
    | succ m ih =>
      intro rest a w h b k cs
      obtain ⟨e, a₁, w₁, hq, harr⟩ := h b (.inScope c :: k) cs
      cases e with
      | normal => exact ⟨.normal, a₁, w₁, hq, Steps.trans harr (.one step_inScope)⟩
      | exit id => exact ⟨.exit id, a₁, w₁, hq, fun k' hk => harr k' (by simp [exitTo, hk])⟩
      | goto l =>
        simp only [scK] at hq
        split at hq
        · rename_i e
          exact ⟨.goto l, a₁, w₁, hq, fun k' hk => harr k' (by simp [gotoIn, e, hk])⟩
        · rename_i r e
          obtain ⟨e₂, a₂, w₂, hq₂, harr₂⟩ := ih r a₁ w₁ hq b k cs
          exact ⟨e₂, a₂, w₂, hq₂, .of_steps (harr _ (by simp [gotoIn, e])) harr₂⟩
      | ret => exact ⟨_, a₁, w₁, hq, harr⟩
      | panic ch => exact ⟨_, a₁, w₁, hq, harr⟩
      | outgrown => exact ⟨_, a₁, w₁, hq, harr⟩
  intro m a w h b k cs
  obtain ⟨e, a₁, w₁, hq, harr⟩ := key m c a w h b k cs
  exact ⟨e, a₁, w₁, hq, .of_steps (.one step_scope) harr⟩
theorem getL_size (C : Conc E gs Pr tm hs a w) {s : Nat} (h : getL tm s ≠ .any) : a.tmps[s]? = some (a.tmps.getD s undef) := by
  have : s < tm.length := by
    rw [getL_eq] at h
    apply Decidable.byContradiction
    intro hs
    exact h (by simp [List.getD_eq_getElem?_getD, List.getElem?_eq_none (Nat.le_of_not_lt hs)])
  have h2 : s < a.tmps.size := by rw [C.size]; exact this
  rw [Array.getElem?_eq_getElem h2]
  simp [Array.getD, h2]
/-- A guard that is known. -/
theorem wanted_of {full : Array Oper} {o : Oper} {j s : Nat} {b : Bool} (hg : o.guard = some (j, b)) (hd : (full[j]?).bind (·.dst) = some s) {v : Bool} (hv : a.tmps[s]? = some (.bool v)) : Region.wanted o (yielded full a.tmps) = (v == b) := by
  have hy : yielded full a.tmps j = some v := by
    unfold yielded
    rw [hd]
    simp only [Option.bind_some, hv]
  simp only [Region.wanted, hg, hy]
  cases v <;> cases b <;> rfl
theorem wanted_un {full : Array Oper} {o : Oper} {j s : Nat} {b : Bool} (hg : o.guard = some (j, b)) (hd : (full[j]?).bind (·.dst) = some s) (hv : a.tmps[s]? = some (.tuple #[])) : Region.wanted o (yielded full a.tmps) = false := by
  have hy : yielded full a.tmps j = none := by
    unfold yielded
    rw [hd]
    simp only [Option.bind_some, hv]
  simp only [Region.wanted, hg, hy]
  rfl
theorem wpList_on {full : Array Oper} {o : Oper} {l : List Oper} (hw : Region.wanted o (yielded full a.tmps) = true) (h : o.wp P a w (wpList P full Q l) Q) : wpList P full Q (o :: l) a w := by
  unfold wpList
  rw [if_pos hw]
  exact .inl h
theorem wpList_off {full : Array Oper} {o : Oper} {l : List Oper} (hw : Region.wanted o (yielded full a.tmps) = false) (h : wpList P full Q l (a.put o.dst undef) w) : wpList P full Q (o :: l) a w := by
  unfold wpList
  rw [if_neg (by rw [hw]; simp)]
  exact h
theorem nf_true (tm : List AV) (hs : List AObj) : nf tm hs = true := by
  induction tm with
  | nil =>
    induction hs with
    | nil => rfl
    | cons x hs ih => exact ih
  | cons x l ih => exact ih
/-- AN EVALUATION SHOWS WHAT IT SAYS. -/
theorem eval_sound' : ∀ (n : Nat) (todo : List AItem) (tm : List AV) (hs : List AObj), NodeOK P rs post (eval rs n true todo tm hs) → AW P rs todo tm hs post := by
  intro n
  induction n with
  | zero => intro todo tm hs h; exact h
  | succ n ih =>
    intro todo tm hs hN
    cases todo with
    | nil =>
      intro fn hrs E mt hi gs Pr a w C
      cases mt with
      | cons y mt => exact hi.elim
      | nil => exact fin_sound hrs C hN
    | cons x todo =>
      cases x with
      | block id =>
        intro fn hrs E mt hi gs Pr a w C
        cases mt with
        | nil => exact hi.elim
        | cons y mt =>
          obtain ⟨h1, h2⟩ := hi
          cases y <;> simp only [IRel] at h1
          simpa [kont] using ih todo tm hs hN fn hrs E mt h2 gs Pr a w C
      | again J =>
        intro fn hrs E mt hi gs Pr a w C
        cases mt with
        | nil => exact hi.elim
        | cons y mt =>
          obtain ⟨h1, h2⟩ := hi
          cases y <;> simp only [IRel] at h1
          exact h1 gs Pr tm hs a w C hN
      | inLoop m c =>
        intro fn hrs E mt hi gs Pr a w C
        cases mt with
        | nil => exact hi.elim
        | cons y mt =>
          obtain ⟨h1, h2⟩ := hi
          cases y <;> simp only [IRel] at h1
          rename_i m' c'
          obtain ⟨rfl, hc⟩ := h1
          cases m with
          | zero => exact hN.elim
          | succ m =>
            have := ih (.code c :: .inLoop m c :: todo) tm hs hN fn hrs E (.code c' :: .inLoop m c' :: mt) ⟨hc, ⟨rfl, hc⟩, h2⟩ gs Pr a w C
            show c'.wp P (lpK P c' (kont P (bodyPost P fn (Rfin E post)) mt) m) a w
            refine wp_mono (show c'.wp P (kont P (bodyPost P fn (Rfin E post)) (.inLoop m c' :: mt)) a w from this) fun e a w h => ?_
            rwa [kont] at h
      | scope m n' c =>
        intro fn hrs E mt hi gs Pr a w C
        cases mt with
        | nil => exact hi.elim
        | cons y mt =>
          obtain ⟨h1, h2⟩ := hi
          cases y <;> simp only [IRel] at h1
          rename_i m' c'
          rw [kont, scK_same c' _ m' (by simp)]
          exact ih todo tm hs hN fn hrs E mt h2 gs Pr a w C
      | ops l =>
        intro fn hrs E mt hi gs Pr a w C
        cases mt with
        | nil => exact hi.elim
        | cons y mt =>
          obtain ⟨h1, h2⟩ := hi
          cases y <;> simp only [IRel] at h1
          rename_i full l'
          cases l with
          | nil =>
            have : l' = [] := by
              cases l' with
              | nil => rfl
              | cons o l' =>
                simp only [cOpers, List.mapM_cons, Option.bind_eq_bind, Option.bind_eq_some_iff, Option.pure_def, Option.some.injEq] at h1
                obtain ⟨p, _, m, _, e⟩ := h1
                cases e
            subst this
            simpa [kont, wpList] using ih todo tm hs hN fn hrs E mt h2 gs Pr a w C
          | cons ao l =>
            cases l' with
            | nil => simp [cOpers] at h1
            | cons o l' =>
              simp only [cOpers, List.mapM_cons, Option.bind_eq_bind, Option.bind_eq_some_iff, Option.pure_def, Option.some.injEq] at h1
              obtain ⟨p, hp, m, hm, e⟩ := h1
              injection e with e1 e2
              subst e1; subst e2
              have hR : Next P rs post E (fun tm hs => AW P rs (.ops m :: todo) tm hs post) (wpList P full (kont P (bodyPost P fn (Rfin E post)) mt) l') := by
                intro tm hs hA gs Pr a w C
                have := hA fn hrs E (.ops full l' :: mt) ⟨hm, h2⟩ gs Pr a w C
                simpa [kont] using this
              have hK : Next P rs post E (fun tm hs => NodeOK P rs post (eval rs n (nf tm hs) (.ops m :: todo) tm hs)) (wpList P full (kont P (bodyPost P fn (Rfin E post)) mt) l') := fun tm hs h => hR tm hs (ih _ tm hs (by
                have h' : NodeOK P rs post (eval rs n (nf tm hs) (.ops m :: todo) tm hs) := h
                rw [nf_true] at h'
                exact h'))
              have hF : CallOK P rs post E (.ops m :: todo) (wpList P full (kont P (bodyPost P fn (Rfin E post)) mt) l') := by
                intro f args d tm hs hA gs Pr a w C vs hvs
                obtain ⟨h3, h4⟩ := hA fn hrs E (.ops full l' :: mt) ⟨hm, h2⟩ gs Pr a w C vs hvs
                exact ⟨h3, by simpa [kont] using h4⟩
              show wpList P full (kont P (bodyPost P fn (Rfin E post)) mt) (o :: l') a w
              unfold cOper at hp
              simp only [Option.bind_eq_bind, Option.bind_eq_some_iff] at hp
              obtain ⟨op, hop, hp⟩ := hp
              have doit : ∀ {tm : List AV}, Conc E gs Pr tm hs a w → NodeOK P rs post (opN (fun tm hs => eval rs n (nf tm hs) (.ops m :: todo) tm hs) o.dst op (.ops m :: todo) tm hs) → o.wp P a w (wpList P full (kont P (bodyPost P fn (Rfin E post)) mt) l') (kont P (bodyPost P fn (Rfin E post)) mt) :=
                fun C hN => op_sound hK hR hF C o hop hN
              split at hp
              · rename_i hg
                simp only [Option.pure_def, Option.some.injEq] at hp
                subst hp
                exact wpList_on (by simp [Region.wanted, hg]) (doit C hN)
              · rename_i j b hg
                split at hp
                case h_2 => cases hp
                rename_i s hd
                simp only [Option.pure_def, Option.some.injEq] at hp
                subst hp
                have known : ∀ {x : AV}, getL tm s = x → x ≠ .any → a.tmps[s]? = some (a.tmps.getD s undef) ∧ Cz gs (dom hs) Pr w x (a.tmps.getD s undef) := by
                  intro x e hx
                  subst e
                  exact ⟨getL_size C hx, C.tms s⟩
                have hun : Cz gs (dom hs) Pr w (.tup []) undef := .tup [] #[] rfl (fun j a v e => by simp at e)
                have on : ∀ (v : Bool), a.tmps[s]? = some (.bool v) → v = b → ∀ {tm : List AV}, Conc E gs Pr tm hs a w → NodeOK P rs post (opN (fun tm hs => eval rs n (nf tm hs) (.ops m :: todo) tm hs) o.dst op (.ops m :: todo) tm hs) → wpList P full (kont P (bodyPost P fn (Rfin E post)) mt) (o :: l') a w :=
                  fun v hv hb _ C hN => wpList_on (by rw [wanted_of hg hd hv, hb]; simp) (doit C hN)
                have off : ∀ (v : Bool), a.tmps[s]? = some (.bool v) → v ≠ b → ∀ {tm : List AV}, Conc E gs Pr tm hs a w → NodeOK P rs post (eval rs n (nf (putL tm o.dst (.tup [])) hs) (.ops m :: todo) (putL tm o.dst (.tup [])) hs) → wpList P full (kont P (bodyPost P fn (Rfin E post)) mt) (o :: l') a w :=
                  fun v hv hb _ C hN => wpList_off (by rw [wanted_of hg hd hv]; simpa using hb) (hK _ _ hN _ _ _ _ (C.put o.dst hun))
                have off0 : a.tmps[s]? = some (.tuple #[]) → ∀ {tm : List AV}, Conc E gs Pr tm hs a w → NodeOK P rs post (eval rs n (nf (putL tm o.dst (.tup [])) hs) (.ops m :: todo) (putL tm o.dst (.tup [])) hs) → wpList P full (kont P (bodyPost P fn (Rfin E post)) mt) (o :: l') a w :=
                  fun hv _ C hN => wpList_off (by rw [wanted_un hg hd hv]) (hK _ _ hN _ _ _ _ (C.put o.dst hun))
                cases b with
                | true =>
                  simp only [eval] at hN
                  split at hN
                  · rename_i e
                    obtain ⟨h3, h4⟩ := known e (by simp)
                    rw [h4.tt] at h3
                    exact on true h3 rfl C hN
                  · rename_i e
                    obtain ⟨h3, h4⟩ := known e (by simp)
                    rw [h4.ff] at h3
                    exact off false h3 (by simp) C hN
                  · rename_i v e
                    obtain ⟨h3, h4⟩ := known e (by simp)
                    have h5 := h4.bool
                    rw [h5] at h3
                    cases v with
                    | true => exact on true h3 rfl (C.setTm s (x := .tt) (by rw [h5]; exact .lf .tt)) (hN.1 rfl)
                    | false => exact off false h3 (by simp) (C.setTm s (x := .ff) (by rw [h5]; exact .lf .ff)) (hN.2 rfl)
                  · rename_i e
                    obtain ⟨h3, h4⟩ := known e (by simp)
                    obtain ⟨vs, h5, h6, _⟩ := h4.tup_
                    have : vs = #[] := by simpa using h6
                    rw [h5, this] at h3
                    exact off0 h3 C hN
                  · exact hN.elim
                | false =>
                  simp only [eval] at hN
                  split at hN
                  · rename_i e
                    obtain ⟨h3, h4⟩ := known e (by simp)
                    rw [h4.ff] at h3
                    exact on false h3 rfl C hN
                  · rename_i e
                    obtain ⟨h3, h4⟩ := known e (by simp)
                    rw [h4.tt] at h3
                    exact off true h3 (by simp) C hN
                  · rename_i v e
                    obtain ⟨h3, h4⟩ := known e (by simp)
                    have h5 := h4.bool
                    rw [h5] at h3
                    cases v with
                    | true => exact off true h3 (by simp) (C.setTm s (x := .tt) (by rw [h5]; exact .lf .tt)) (hN.1 rfl)
                    | false => exact on false h3 rfl (C.setTm s (x := .ff) (by rw [h5]; exact .lf .ff)) (hN.2 rfl)
                  · rename_i e
                    obtain ⟨h3, h4⟩ := known e (by simp)
                    obtain ⟨vs, h5, h6, _⟩ := h4.tup_
                    have : vs = #[] := by simpa using h6
                    rw [h5, this] at h3
                    exact off0 h3 C hN
                  · exact hN.elim
      | code c =>
        cases c with
        | loop c => exact hN
        | dreg l cl => exact hN
        | scope c => exact hN
        | _ =>
          intro fn hrs E mt hi gs Pr a w C
          cases mt with
          | nil => exact hi.elim
          | cons y mt =>
            obtain ⟨h1, h2⟩ := hi
            cases y <;> simp only [IRel] at h1
            rename_i c'
            have hc := cCode_inv h1
            simp only at hc
            show c'.wp P (kont P (bodyPost P fn (Rfin E post)) mt) a w
            first
              | (subst hc
                 first
                   | exact wp_skip (ih todo tm hs hN fn hrs E mt h2 gs Pr a w C)
                   | exact wp_ret (by rw [kont_ret]; exact fin_sound hrs C hN)
                   | exact wp_label (hN fn hrs E mt h2 gs Pr a w C)
                   | (simp only [eval] at hN
                      split at hN
                      · rename_i m k r c todo' hl
                        obtain ⟨mt', h3, h4⟩ := jump_ok h2 hl hN.1
                        exact wp_goto (h4 a w (hN.2 fn hrs E mt' h3 gs Pr a w C))
                      · exact hN.elim)
                   | (simp only [eval] at hN
                      split at hN
                      · rename_i todo' hl
                        obtain ⟨mt', h3, h4⟩ := leave_ok h2 hl
                        exact wp_exit (h4 a w (ih todo' tm hs hN fn hrs E mt' h3 gs Pr a w C))
                      · exact hN.elim))
              | (obtain ⟨id, ops, rfl, hl⟩ := hc
                 exact wp_region_list (ih _ tm hs hN fn hrs E (.ops ops ops.toList :: mt) ⟨hl, h2⟩ gs Pr a w C))
              | (obtain ⟨x', y', rfl, hx, hy⟩ := hc
                 refine wp_seq (wp_mono (ih _ tm hs hN fn hrs E (.code x' :: .code y' :: mt) ⟨hx, hy, h2⟩ gs Pr a w C) fun e a w h => ?_)
                 cases e <;> simpa [kont, Exit.then] using h)
              | (obtain ⟨x', rfl, hx⟩ := hc
                 refine wp_block (wp_mono (ih _ tm hs hN fn hrs E (.code x' :: .block _ :: mt) ⟨hx, rfl, h2⟩ gs Pr a w C) fun e a w h => ?_)
                 cases e <;> simpa [kont, Exit.inBlock] using h)
              | (obtain ⟨q', x', y', rfl, hq, hx, hy⟩ := hc
                 rename_i q cx cy
                 cases q with
                 | c v => exact hN.elim
                 | t s =>
                   simp only [eval] at hN
                   have hs0 := C.opd hq
                   have hqt : q' = .tmp s := by
                     cases q' with
                     | tmp t => simp [cOpd] at hq; subst hq; rfl
                     | global g => simp only [cOpd] at hq; split at hq <;> simp at hq
                     | const v => simp [cOpd] at hq
                     | func f => simp [cOpd] at hq
                   subst hqt
                   have tr : ∀ {tm : List AV}, Conc E gs Pr tm hs a w → (Act.eval a (.tmp s)) = .bool true → NodeOK P rs post (eval rs n (nf tm hs) (.code cx :: todo) tm hs) → (Code.cond (.tmp s) x' y').wp P (kont P (bodyPost P fn (Rfin E post)) mt) a w :=
                     fun {tm} C e hN => wp_cond_true e (ih (.code cx :: todo) tm hs (by rw [nf_true] at hN; exact hN) fn hrs E (.code x' :: mt) ⟨hx, h2⟩ gs Pr a w C)
                   have fl : ∀ {tm : List AV}, Conc E gs Pr tm hs a w → (Act.eval a (.tmp s)) = .bool false → NodeOK P rs post (eval rs n (nf tm hs) (.code cy :: todo) tm hs) → (Code.cond (.tmp s) x' y').wp P (kont P (bodyPost P fn (Rfin E post)) mt) a w :=
                     fun {tm} C e hN => wp_cond_false e (ih (.code cy :: todo) tm hs (by rw [nf_true] at hN; exact hN) fn hrs E (.code y' :: mt) ⟨hy, h2⟩ gs Pr a w C)
                   simp only [ev] at hs0
                   split at hN
                   · rename_i e; rw [e] at hs0; exact tr C hs0.tt (by rw [nf_true]; exact hN)
                   · rename_i e; rw [e] at hs0; exact fl C hs0.ff (by rw [nf_true]; exact hN)
                   · rename_i v e
                     rw [e] at hs0
                     have h5 := hs0.bool
                     have h6 : a.tmps.getD s undef = .bool v := h5
                     cases v with
                     | true => exact tr (C.setTm s (x := .tt) (by rw [h6]; exact .lf .tt)) h5 (hN.1 rfl)
                     | false => exact fl (C.setTm s (x := .ff) (by rw [h6]; exact .lf .ff)) h5 (hN.2 rfl)
                   · exact hN.elim)
theorem eval_sound (n : Nat) (todo : List AItem) (tm : List AV) (hs : List AObj) (h : NodeOK P rs post (eval rs n (nf tm hs) todo tm hs)) : AW P rs todo tm hs post := by
  rw [nf_true] at h
  exact eval_sound' n todo tm hs h
end
end Go.Proofs.YtlnafekmiidpkaaDoor.S
