/- '==' of structs and arrays; lengths; the greatest and the least; texts. -/
import Derived.Test.YtlnafekmiidpkaaDoorS8
import Derived.Laws.StructEq
namespace Go.Proofs.YtlnafekmiidpkaaDoor.S
set_option linter.all false
set_option linter.unusedVariables false
set_option linter.unusedSimpArgs false
theorem orNo_ok {α : Type} {b : Bool} {x : Option α} {y : α} (h : orNo b x = some y) : b = true ∧ x = some y := by
  unfold orNo at h
  split at h
  · exact ⟨rfl, h⟩
  · cases h
theorem Fit.len : ∀ {s : List Sh} {cs es : List AV}, Fit s cs es → cs.length = s.length ∧ es.length = s.length
  | [], [], [], _ => ⟨rfl, rfl⟩
  | .i :: s, .int _ _ :: l, .int _ _ :: m, h => by have := Fit.len h.2; simp [this.1, this.2]
  | .s :: s, .str _ :: l, .str _ :: m, h => by have := Fit.len (s := s) h; simp [this.1, this.2]
  | .b :: s, x :: l, y :: m, h => by
    have h : isB x = true ∧ isB y = true ∧ Fit s l m := by cases x <;> cases y <;> first | exact h | exact h.elim
    have := Fit.len h.2.2; simp [this.1, this.2]
theorem Fit.b_ {s : List Sh} {x y : AV} {l m : List AV} : Fit (.b :: s) (x :: l) (y :: m) = (isB x = true ∧ isB y = true ∧ Fit s l m) := by
  cases x <;> cases y <;> rfl
theorem Fit.append : ∀ {s r : List Sh} {cs es : List AV}, Fit (s ++ r) cs es → Fit s (cs.take s.length) (es.take s.length) ∧ Fit r (cs.drop s.length) (es.drop s.length) ∧ eqCells cs es = (eqCells (cs.take s.length) (es.take s.length) && eqCells (cs.drop s.length) (es.drop s.length))
  | [], r, cs, es, h => by simp [Fit, eqCells]; exact h
  | .i :: s, r, .int k a :: l, .int j b :: m, h => by
    have := Fit.append (s := s) (r := r) h.2
    refine ⟨⟨h.1, this.1⟩, this.2.1, ?_⟩
    simp only [eqCells, List.length_cons, List.take_succ_cons, List.drop_succ_cons, this.2.2, Bool.and_assoc]
  | .s :: s, r, .str a :: l, .str b :: m, h => by
    have := Fit.append (s := s) (r := r) h
    refine ⟨this.1, this.2.1, ?_⟩
    simp only [eqCells, List.length_cons, List.take_succ_cons, List.drop_succ_cons, this.2.2, Bool.and_assoc]
  | .b :: s, r, x :: l, y :: m, h => by
    rw [List.cons_append, Fit.b_] at h
    have := Fit.append (s := s) (r := r) h.2.2
    refine ⟨by simp only [List.length_cons, List.take_succ_cons]; rw [Fit.b_]; exact ⟨h.1, h.2.1, this.1⟩, this.2.1, ?_⟩
    simp only [eqCells, List.length_cons, List.take_succ_cons, List.drop_succ_cons, this.2.2, Bool.and_assoc]
/-- Values that stand for cells. -/
def Pw (Pr : Nat → Prop) (w : World) (cs : List AV) (xs : List Value) : Prop := xs.length = cs.length ∧ ∀ (j : Nat) a v, cs[j]? = some a → xs[j]? = some v → Lf Pr w a v
theorem Pw.drop {Pr : Nat → Prop} {w : World} {cs : List AV} {xs : List Value} (h : Pw Pr w cs xs) (n : Nat) : Pw Pr w (cs.drop n) (xs.drop n) :=
  ⟨by simp [h.1], fun j a v e1 e2 => h.2 (n + j) a v (by rw [← List.getElem?_drop]; exact e1) (by rw [← List.getElem?_drop]; exact e2)⟩
theorem Pw.take {Pr : Nat → Prop} {w : World} {cs : List AV} {xs : List Value} (h : Pw Pr w cs xs) (n : Nat) : Pw Pr w (cs.take n) (xs.take n) :=
  ⟨by simp [h.1], fun j a v e1 e2 => by
    rw [List.getElem?_take] at e1 e2
    split at e1
    · rename_i hj; rw [if_pos hj] at e2; exact h.2 j a v e1 e2
    · cases e1⟩
def mkV (agg : Bool) (xs : List Value) : Value := match agg with
  | true => .agg xs.toArray
  | false => xs.headD undef
theorem run_partV {P : Program} {w : World} {t : TypeId} {ag : Bool} {n off : Nat} {vs : List Value} (ha : aggT P t = some ag) (hn : szT P t = some n) (h1 : ag = false → n = 1) (hle : off + n ≤ vs.length) :
    (part t vs.toArray off).run P w = .ok (mkV ag ((vs.drop off).take n)) w := by
  cases ag with
  | true => exact run_part ha hn (.inl ⟨rfl, rfl⟩)
  | false =>
    obtain rfl := h1 rfl
    refine run_part ha hn (.inr ⟨rfl, ?_⟩)
    rw [List.getElem?_eq_getElem (by omega)]
    have : (vs.drop off).take 1 = [vs[off]] := by
      rw [List.take_one, List.head?_drop, List.getElem?_eq_getElem (by omega)]; rfl
    rw [this]; rfl
theorem run_eqArr {P : Program} (w : World) (d : Nat) (t : TypeId) (xs ys : Array Value) (len : Nat) (elem : TypeId) (n : Nat) (ht : P.underlying t = some (.array len elem)) (hn : szT P elem = some n)
    (px py : Nat → Value) (q : Nat → Bool) (hx : ∀ i, i < len → (part elem xs (i * n)).run P w = .ok (px i) w) (hy : ∀ i, i < len → (part elem ys (i * n)).run P w = .ok (py i) w)
    (he : ∀ i, i < len → (Op.equalIn d elem (px i) (py i)).run P w = .ok (q i) w) :
    (Op.equalIn (d + 1) t (.agg xs) (.agg ys)).run P w = .ok ((List.range len).all q) w := by
  simp only [Op.equalIn, Sem.run_bind, run_un ht, Result.andThen_ok]
  rw [run_sz hn, Result.andThen_ok, Std.Legacy.Range.forIn_eq_forIn_range']
  simp only [Std.Legacy.Range.size, Nat.sub_zero, Nat.add_sub_cancel, Nat.div_one]
  rw [← List.range_eq_range']
  have hl : ∀ i ∈ List.range len, i < len := fun i hi => List.mem_range.1 hi
  generalize List.range len = l at hl ⊢
  induction l with
  | nil => simp
  | cons i l ih =>
    have hi := hl i (by simp)
    simp only [List.forIn_cons, Sem.run_bind, hx i hi, hy i hi, he i hi, Result.andThen_ok, List.all_cons]
    cases hq : q i with
    | false => simp
    | true =>
      simp only [Bool.not_true, Bool.false_eq_true, if_false, Sem.run_pure, Result.andThen_ok, Bool.true_and]
      exact ih (fun j hj => hl j (by simp [hj]))
theorem all_chunks (s : List Sh) : ∀ (n : Nat) (cs es : List AV), Fit (List.replicate n s).flatten cs es → (List.range n).all (fun i => eqCells ((cs.drop (i * s.length)).take s.length) ((es.drop (i * s.length)).take s.length)) = eqCells cs es ∧
      ∀ i, i < n → Fit s ((cs.drop (i * s.length)).take s.length) ((es.drop (i * s.length)).take s.length)
  | 0, [], [], _ => ⟨by simp [eqCells], fun i hi => by omega⟩
  | n + 1, cs, es, h => by
    rw [List.replicate_succ, List.flatten_cons] at h
    obtain ⟨h1, h2, h3⟩ := Fit.append h
    obtain ⟨h4, h5⟩ := all_chunks s n _ _ h2
    have hd : ∀ i, (i + 1) * s.length = s.length + i * s.length := fun i => by rw [Nat.add_mul]; omega
    refine ⟨?_, fun i hi => ?_⟩
    · rw [List.range_succ_eq_map, List.all_cons, List.all_map, h3, ← h4]
      simp only [Nat.zero_mul, List.drop_zero, List.drop_drop]
      congr 2
      funext i
      simp only [Function.comp, Nat.succ_eq_add_one, hd]
    · cases i with
      | zero => simpa using h1
      | succ i =>
        have := h5 i (by omega)
        rw [List.drop_drop, List.drop_drop] at this
        rw [hd]; exact this
theorem shape_flat {P : Program} {d : Nat} {t : TypeId} {s : List Sh} (h : shapeT P d t = some s) : ∃ ag, aggT P t = some ag ∧ (ag = false → s.length = 1) := by
  cases d with
  | zero => simp [shapeT] at h
  | succ d =>
    unfold shapeT at h
    unfold aggT
    split at h <;> rename_i e
    · injection h with h; subst h; exact ⟨false, by rw [e], fun _ => rfl⟩
    · injection h with h; subst h; exact ⟨false, by rw [e], fun _ => rfl⟩
    · injection h with h; subst h; exact ⟨false, by rw [e], fun _ => rfl⟩
    · exact ⟨true, by rw [e], fun h => by cases h⟩
    · exact ⟨true, by rw [e], fun h => by cases h⟩
    · cases h
theorem eq_shape {P : Program} {Pr : Nat → Prop} {w : World} : ∀ (d : Nat) (t : TypeId) (s : List Sh), shapeT P d t = some s → ∀ (cs es : List AV) (xs ys : List Value), Fit s cs es → Pw Pr w cs xs → Pw Pr w es ys → ∀ ag, aggT P t = some ag → ∀ d', d ≤ d' →
    (Op.equalIn d' t (mkV ag xs) (mkV ag ys)).run P w = .ok (eqCells cs es) w
  | 0, t, s, h => by simp [shapeT] at h
  | d + 1, t, s, h => by
    intro cs es xs ys hf hx hy ag hag d' hd
    obtain ⟨d', rfl⟩ : ∃ m, d' = m + 1 := ⟨d' - 1, by omega⟩
    have one : ∀ {x : AV} {l : List Value}, Pw Pr w [x] l → ∃ v, l = [v] ∧ Lf Pr w x v := by
      intro x l hp
      obtain ⟨v, rfl⟩ := List.length_eq_one_iff.1 hp.1
      exact ⟨v, rfl, hp.2 0 x v rfl rfl⟩
    unfold shapeT at h
    split at h <;> rename_i e
    · injection h with h; subst h
      have : ag = false := by unfold aggT at hag; rw [e] at hag; injection hag with hag; exact hag.symm
      subst this
      match cs, es, hf with
      | .int k a :: l, .int j b :: m, hf =>
        obtain ⟨rfl, hf⟩ := hf
        have hl := Fit.len hf
        obtain rfl := List.length_eq_zero_iff.1 hl.1
        obtain rfl := List.length_eq_zero_iff.1 hl.2
        obtain ⟨u, rfl, hu⟩ := one hx
        obtain ⟨v, rfl, hv⟩ := one hy
        cases hu; cases hv
        simp [mkV, Op.equalIn, run_un e, eqCells, eqCell]
    · injection h with h; subst h
      have : ag = false := by unfold aggT at hag; rw [e] at hag; injection hag with hag; exact hag.symm
      subst this
      match cs, es, hf with
      | x :: l, y :: m, hf =>
        rw [Fit.b_] at hf
        obtain ⟨h1, h2, hf⟩ := hf
        have hl := Fit.len hf
        obtain rfl := List.length_eq_zero_iff.1 hl.1
        obtain rfl := List.length_eq_zero_iff.1 hl.2
        obtain ⟨u, rfl, hu⟩ := one hx
        obtain ⟨v, rfl, hv⟩ := one hy
        cases hu <;> (try (simp [isB] at h1; done)) <;> cases hv <;> (try (simp [isB] at h2; done)) <;> simp [mkV, Op.equalIn, run_un e, eqCells, eqCell]
    · injection h with h; subst h
      have : ag = false := by unfold aggT at hag; rw [e] at hag; injection hag with hag; exact hag.symm
      subst this
      match cs, es, hf with
      | .str a :: l, .str b :: m, hf =>
        have hl := Fit.len (s := []) hf
        obtain rfl := List.length_eq_zero_iff.1 hl.1
        obtain rfl := List.length_eq_zero_iff.1 hl.2
        obtain ⟨u, rfl, hu⟩ := one hx
        obtain ⟨v, rfl, hv⟩ := one hy
        cases hu; cases hv
        simp [mkV, Op.equalIn, run_un e, eqCells, eqCell]
    · rename_i n el
      have : ag = true := by unfold aggT at hag; rw [e] at hag; injection hag with hag; exact hag.symm
      subst this
      split at h
      case h_2 => cases h
      rename_i q hq
      obtain ⟨hsz, h⟩ := orNo_ok h
      injection h with h
      subst h
      have hsz : szT P el = some q.length := by simpa using hsz
      obtain ⟨ag, hag', h1⟩ := shape_flat hq
      have hl := Fit.len hf
      have hfl : ((List.replicate n q).flatten).length = n * q.length := by simp
      obtain ⟨hall, hch⟩ := all_chunks q n cs es hf
      rw [← hall]
      have hle : ∀ i, i < n → i * q.length + q.length ≤ n * q.length := fun i hi => by
        have : (i + 1) * q.length ≤ n * q.length := Nat.mul_le_mul_right _ hi
        rw [Nat.add_mul] at this; omega
      refine run_eqArr w d' t _ _ n el q.length e hsz (fun i => mkV ag ((xs.drop (i * q.length)).take q.length)) (fun i => mkV ag ((ys.drop (i * q.length)).take q.length)) _ (fun i hi => ?_) (fun i hi => ?_) (fun i hi => ?_)
      · exact run_partV hag' hsz h1 (by rw [hx.1, hl.1, hfl]; exact hle i hi)
      · exact run_partV hag' hsz h1 (by rw [hy.1, hl.2, hfl]; exact hle i hi)
      · exact eq_shape d el q hq _ _ _ _ (hch i hi) ((hx.drop _).take _) ((hy.drop _).take _) ag hag' d' (by omega)
    · rename_i fs
      have : ag = true := by unfold aggT at hag; rw [e] at hag; injection hag with hag; exact hag.symm
      subst this
      obtain ⟨hst, h⟩ := orNo_ok h
      have hst : P.stoodInHeld t = false := by simpa using hst
      have hfo : P.fieldsOf t = fs := by simp [Program.fieldsOf, e]
      show (Op.equalIn (d' + 1) t (.agg xs.toArray) (.agg ys.toArray)).run P w = _
      rw [run_equalIn_struct (P := P) w d' t xs.toArray ys.toArray (by rw [hfo]; exact e) hst, hfo]
      have key : ∀ (fs : List Field) (off : Nat) (s : List Sh), shGo P (shapeT P d) off fs = some s → off + s.length = xs.length → Fit s (cs.drop off) (es.drop off) → (Op.eqFields d' xs.toArray ys.toArray fs).run P w = .ok (eqCells (cs.drop off) (es.drop off)) w := by
        intro fs
        induction fs with
        | nil =>
          intro off s h1 h2 h3
          simp only [shGo, Option.some.injEq] at h1
          subst h1
          have hl := Fit.len h3
          rw [List.length_eq_zero_iff.1 hl.1, List.length_eq_zero_iff.1 hl.2]
          simp [Op.eqFields, eqCells]
        | cons f fs ih =>
          intro off s h1 h2 h3
          unfold shGo at h1
          split at h1
          case h_2 => cases h1
          rename_i q hq
          split at h1
          case h_2 => cases h1
          rename_i r hr
          obtain ⟨h4, h1⟩ := orNo_ok h1
          injection h1 with h1
          subst h1
          simp only [Bool.and_eq_true, bne_iff_ne, ne_eq, beq_iff_eq] at h4
          obtain ⟨⟨h5, h6⟩, h7⟩ := h4
          obtain ⟨ag, hag', h8⟩ := shape_flat hq
          obtain ⟨f1, f2, f3⟩ := Fit.append h3
          rw [List.drop_drop, List.drop_drop] at f2 f3
          have hlx : xs.length = ys.length := by rw [hx.1, hy.1, (Fit.len hf).1, (Fit.len hf).2]
          rw [List.length_append] at h2
          have p1 := run_partV (P := P) (w := w) (vs := xs) hag' h7 h8 (show off + q.length ≤ xs.length by omega)
          have p2 := run_partV (P := P) (w := w) (vs := ys) hag' h7 h8 (show off + q.length ≤ ys.length by omega)
          have p3 := eq_shape d f.type q hq _ _ _ _ f1 ((hx.drop off).take _) ((hy.drop off).take _) ag hag' d' (by omega)
          have p4 := ih (off + q.length) r hr (by omega) f2
          simp only [Op.eqFields, h5, ne_eq, not_false_eq_true, if_true, h6, Sem.run_bind, p1, p2, p3, Result.andThen_ok, f3]
          cases eqCells (List.take q.length (List.drop off cs)) (List.take q.length (List.drop off es)) with
          | true => simpa using p4
          | false => simp
      have := key fs.toList 0 s h (by rw [hx.1, (Fit.len hf).1]; omega) (by simpa using hf)
      simpa using this
    · cases h
section
variable {P : Program} {rs : List ARes} {post : AV → List AObj → Prop} {E : Env} {NK : List AV → List AObj → Node} {K : Act → World → Prop} {rest : List AItem} {Q : Exit → Act → World → Prop}
  {gs : Nat → Gh} {Pr : Nat → Prop} {tm : List AV} {hs : List AObj} {a : Act} {w : World} {d : Option Nat} {ty : TypeId} {pos : String} {af : Array Edge} {g : Option (Nat × Bool)} {op : AOp} {o : Oper}
variable (hK : Next P rs post E (fun tm hs => NodeOK P rs post (NK tm hs)) K) (hR : Next P rs post E (fun tm hs => AW P rs rest tm hs post) K) (C : Conc E gs Pr tm hs a w)
include hK C
theorem S_eqa {q : BinOp} {t yt : TypeId} {x y : Operand} {x' y' : Opd} {neg : Bool} {sh : List Sh} (hsh : shapeT P 12 t = some sh) (hag : aggT P t = some true) (hgt : P.eqGuardType P.depth t = false) (hq : neg = false ∧ q = .eql ∨ neg = true ∧ q = .neq)
    (hx : cOpd x = some x') (hy : cOpd y = some y') (hN : NodeOK P rs post (opN NK d (.eqa neg sh x' y') rest tm hs)) : Oper.wp P ⟨d, .binOp q t x y yt, ty, pos, af, g⟩ a w K Q := by
  have hX := C.opd hx
  have hY := C.opd hy
  simp only [opN] at hN
  split at hN
  case h_2 => exact hN.elim
  rename_i cs es e1 e2
  rw [e1] at hX; rw [e2] at hY
  obtain ⟨hf, hN⟩ := hN
  obtain ⟨vs, e3, e4, e5, _⟩ := hX.arr_.arr_
  obtain ⟨us, e6, e7, e8, _⟩ := hY.arr_.arr_
  have he := eq_shape (P := P) (Pr := Pr) (w := w) 12 t sh hsh cs es vs.toList us.toList hf ⟨by simpa using e4, fun j a v h1 h2 => e5 j a v h1 (by simpa using h2)⟩ ⟨by simpa using e7, fun j a v h1 h2 => e8 j a v h1 (by simpa using h2)⟩ true hag Op.maxDepth (by decide)
  simp only [mkV, Array.toArray_toList] at he
  have hg : ∀ q, (eqGuard q t x y (.agg vs) (.agg us)).run P w = .ok () w := by
    intro q
    unfold eqGuard
    cases q <;> simp [hgt]
  rcases hq with ⟨rfl, rfl⟩ | ⟨rfl, rfl⟩
  · exact S_bin2 hK C e3 e6 (hg _) (by simp only [binOp, Op.equal, Sem.run_bind, he, Result.andThen_ok, Sem.run_pure]) (.lf (.bool _)) hN
  · exact S_bin2 hK C e3 e6 (hg _) (by simp only [binOp, Op.equal, Sem.run_bind, he, Result.andThen_ok, Sem.run_pure]) (.lf (.bool _)) hN
omit hK C in
/-- How a builtin runs. -/
theorem run_builtin {b : Builtin} {l : List Operand} {ts : Array TypeId} {r : Value} {w' : World} (h : (builtin b ts ty (l.toArray.map fun | .const _ => true | _ => false) (l.map a.eval).toArray).run P w = .ok (.value r) w') :
    (execOp a.eval ⟨d, .call { callee := .builtin b, args := l.toArray, argTypes := ts }, ty, pos, af, g⟩).run P w = .ok (.value r) w' := by
  simp only [execOp, resolve, Sem.run_bind, Sem.run_pure, Result.andThen_ok, invoke, List.map_toArray] at h ⊢
  exact h
theorem S_lenS {x : Operand} {x' : Opd} {ts : Array TypeId} {t0 : TypeId} (ht : ts[0]? = some t0) (hu : P.underlying t0 = some .string) (hx : cOpd x = some x') (hN : NodeOK P rs post (opN NK d (.lenS x') rest tm hs)) :
    Oper.wp P ⟨d, .call { callee := .builtin .len, args := #[x], argTypes := ts }, ty, pos, af, g⟩ a w K Q := by
  have hX := C.opd hx
  simp only [opN] at hN
  split at hN
  case h_2 => exact hN.elim
  rename_i s e
  rw [e] at hX
  refine fin_ hK C (v := .int .i64 s.size) (run_builtin (l := [x]) ?_) (.lf (.int _ _)) hN
  simp [builtin, Builtin.len_, ht, hX.str, run_un hu, goInt]
omit hK C in
theorem ro_len {sz : Nat} {xs : List (List AV)} {v : Value} (h : Lf Pr w (.ro sz xs) v) : ∃ A cap, v = .slice A xs.length cap := by
  cases h with
  | ro0 sz A cap hA => exact ⟨A, cap, rfl⟩
  | ro sz xs b o cap f hp hc hn hv hm => exact ⟨_, cap, rfl⟩
theorem S_lenB {x : Operand} {x' : Opd} {ts : Array TypeId} {t0 e : TypeId} (ht : ts[0]? = some t0) (hu : P.underlying t0 = some (.slice e)) (hx : cOpd x = some x') (hN : NodeOK P rs post (opN NK d (.lenB x') rest tm hs)) :
    Oper.wp P ⟨d, .call { callee := .builtin .len, args := #[x], argTypes := ts }, ty, pos, af, g⟩ a w K Q := by
  have hX := C.opd hx
  simp only [opN] at hN
  have fin : ∀ {A n c}, a.eval x = .slice A n c → NodeOK P rs post (NK (putL tm d (.int .i64 n)) hs) → Oper.wp P ⟨d, .call { callee := .builtin .len, args := #[x], argTypes := ts }, ty, pos, af, g⟩ a w K Q := by
    intro A n c e hN
    refine fin_ hK C (v := .int .i64 n) (run_builtin (l := [x]) ?_) (.lf (.int _ _)) hN
    simp [builtin, Builtin.len_, ht, e, run_un hu, goInt]
  split at hN
  · rename_i e; rw [e] at hX
    obtain ⟨A, c, e⟩ := ro_len hX.ro_
    exact fin e hN
  · rename_i e; rw [e] at hX; exact fin hX.nils hN
  · rename_i e; rw [e] at hX; exact fin hX.sl_.1 hN
  · rename_i k e; rw [e] at hX
    obtain ⟨e1, hk⟩ := hX.own_
    split at hN
    · rename_i ho
      obtain ⟨_, _, h⟩ := C.objG hk ho
      rcases h with ⟨rfl, h⟩ | ⟨cap, h, _⟩
      · exact fin (e1.trans h) hN
      · exact fin (e1.trans h) hN
    · rename_i ho
      obtain ⟨A, c, e⟩ := ro_len (C.objG hk ho)
      exact fin (e1.trans e) hN
    · exact hN.elim
  · exact hN.elim
theorem S_lenC {x : Operand} {x' : Opd} {n : Nat} {ts : Array TypeId} {t0 e : TypeId} (ht : ts[0]? = some t0) (hu : P.underlying t0 = some (.array n e)) (hx : cOpd x = some x') (hN : NodeOK P rs post (opN NK d (.lenC n) rest tm hs)) :
    Oper.wp P ⟨d, .call { callee := .builtin .len, args := #[x], argTypes := ts }, ty, pos, af, g⟩ a w K Q := by
  simp only [opN] at hN
  refine fin_ hK C (v := .int .i64 n) (run_builtin (l := [x]) ?_) (.lf (.int _ _)) hN
  simp [builtin, Builtin.len_, ht, run_un hu, goInt]
theorem S_mx {x : Operand} {x' : Opd} {l : List Operand} {l' : List Opd} {ts : Array TypeId} (hx : cOpd x = some x') (hl : l.mapM cOpd = some l') (hN : NodeOK P rs post (opN NK d (.mx x' l') rest tm hs)) :
    Oper.wp P ⟨d, .call { callee := .builtin .max, args := (x :: l).toArray, argTypes := ts }, ty, pos, af, g⟩ a w K Q := by
  have key : ∀ (l : List Operand) (l' : List Opd) (z : AV) (v : Value), l.mapM cOpd = some l' → Cz gs (dom hs) Pr w z v → NodeOK P rs post (mxA l' tm z fun v => NK (putL tm d v) hs) →
      ∃ r z', ((l.map a.eval).foldlM Builtin.max2 v).run P w = .ok r w ∧ Cz gs (dom hs) Pr w z' r ∧ NodeOK P rs post (NK (putL tm d z') hs) := by
    intro l
    induction l with
    | nil => intro l' z v h hz hN; simp at h; subst h; exact ⟨v, z, rfl, hz, hN⟩
    | cons x l ih =>
      intro l' z v h hz hN
      simp only [List.mapM_cons, Option.bind_eq_bind, Option.bind_eq_some_iff, Option.pure_def, Option.some.injEq] at h
      obtain ⟨y, h1, m, h2, rfl⟩ := h
      simp only [mxA] at hN
      have hy := C.opd h1
      split at hN
      · rename_i k p j q e
        rw [e] at hy
        obtain ⟨r, z', h3, h4, h5⟩ := ih m _ (.int k (if q > p then q else p)) h2 (.lf (.int _ _)) hN
        refine ⟨r, z', ?_, h4, h5⟩
        simp only [List.map_cons, List.foldlM_cons, hz.int, hy.int, Builtin.max2, pure_bind]
        exact h3
      · exact hN.elim
  simp only [opN] at hN
  obtain ⟨r, z, h1, h2, h3⟩ := key l l' _ _ hl (C.opd hx) hN
  refine fin_ hK C (v := r) (run_builtin (l := x :: l) ?_) h2 h3
  simp only [builtin, Builtin.max_, List.map_cons, Sem.run_bind, h1, Result.andThen_ok, Sem.run_pure]
theorem S_mn {x : Operand} {x' : Opd} {l : List Operand} {l' : List Opd} {ts : Array TypeId} (hx : cOpd x = some x') (hl : l.mapM cOpd = some l') (hN : NodeOK P rs post (opN NK d (.mn x' l') rest tm hs)) :
    Oper.wp P ⟨d, .call { callee := .builtin .min, args := (x :: l).toArray, argTypes := ts }, ty, pos, af, g⟩ a w K Q := by
  have key : ∀ (l : List Operand) (l' : List Opd) (z : AV) (v : Value), l.mapM cOpd = some l' → Cz gs (dom hs) Pr w z v → NodeOK P rs post (mnA l' tm z fun v => NK (putL tm d v) hs) →
      ∃ r z', ((l.map a.eval).foldlM Builtin.min2 v).run P w = .ok r w ∧ Cz gs (dom hs) Pr w z' r ∧ NodeOK P rs post (NK (putL tm d z') hs) := by
    intro l
    induction l with
    | nil => intro l' z v h hz hN; simp at h; subst h; exact ⟨v, z, rfl, hz, hN⟩
    | cons x l ih =>
      intro l' z v h hz hN
      simp only [List.mapM_cons, Option.bind_eq_bind, Option.bind_eq_some_iff, Option.pure_def, Option.some.injEq] at h
      obtain ⟨y, h1, m, h2, rfl⟩ := h
      simp only [mnA] at hN
      have hy := C.opd h1
      split at hN
      · rename_i k p j q e
        rw [e] at hy
        obtain ⟨r, z', h3, h4, h5⟩ := ih m _ (.int k (if q < p then q else p)) h2 (.lf (.int _ _)) hN
        refine ⟨r, z', ?_, h4, h5⟩
        simp only [List.map_cons, List.foldlM_cons, hz.int, hy.int, Builtin.min2, pure_bind]
        exact h3
      · exact hN.elim
  simp only [opN] at hN
  obtain ⟨r, z, h1, h2, h3⟩ := key l l' _ _ hl (C.opd hx) hN
  refine fin_ hK C (v := r) (run_builtin (l := x :: l) ?_) h2 h3
  simp only [builtin, Builtin.min_, List.map_cons, Sem.run_bind, h1, Result.andThen_ok, Sem.run_pure]
theorem S_cvId {s t : TypeId} {x : Operand} {y : Opd} (h1 : P.underlying s = some .string) (h2 : P.underlying t = some .string) (hy : cOpd x = some y)
    (hN : NodeOK P rs post (opN NK d (.cvId y) rest tm hs)) : Oper.wp P ⟨d, .convert s t x, ty, pos, af, g⟩ a w K Q := by
  have h := C.opd hy
  simp only [opN] at hN
  split at hN
  · rename_i e
    rw [e] at h
    refine fin_ hK C (v := .string _) ?_ (.lf (.str _)) hN
    simp only [execOp, convert, h.str, Sem.run_bind, run_un h1, run_un h2, Result.andThen_ok, Sem.run_pure]
  · exact hN.elim
omit hK C in
/-- A slice that reads as rows. -/
def Rd (Pr : Nat → Prop) (w : World) (sz : Nat) (xs : List (List AV)) (v : Value) : Prop :=
  ∃ A cap, v = .slice A xs.length cap ∧ xs.length ≤ cap ∧ (A = none → cap = 0) ∧ (xs = [] ∨ ∃ b o, ∃ l : List Value, A = some (at_ b o) ∧ b < w.heap.size ∧ (∀ row ∈ xs, row.length = sz) ∧ l.length = xs.length * sz ∧ (∀ (j : Nat) u, l[j]? = some u → w.cell? (at_ b (o + j)) = some u) ∧
    (∀ (i : Nat) row (j : Nat) a u, xs[i]? = some row → row[j]? = some a → l[i * sz + j]? = some u → Lf Pr w a u) ∧ ∀ u ∈ l, u.oneCell' = true)
omit hK in
theorem rd_ro {sz : Nat} {xs : List (List AV)} {v : Value} (h : Lf Pr w (.ro sz xs) v) : Rd Pr w sz xs v := by
  cases h with
  | ro0 sz A cap hA => exact ⟨A, cap, rfl, Nat.zero_le _, hA, .inl rfl⟩
  | ro sz xs b o cap f hp hc hn hv hm =>
    refine ⟨_, cap, rfl, hc, fun h => by simp at h, .inr ⟨b, o, (List.range (xs.length * sz)).map f, rfl, C.rep.pr b hp, hn, by simp, fun j u hj => ?_, fun i row j a u e1 e2 e3 => ?_, fun u hu => ?_⟩⟩
    · have hlt := (List.getElem?_eq_some_iff.1 hj).1
      simp only [List.length_map, List.length_range] at hlt
      simp [hlt] at hj
      rw [← hj]; exact (hm j hlt).1
    · have hlt := (List.getElem?_eq_some_iff.1 e3).1
      simp only [List.length_map, List.length_range] at hlt
      simp [hlt] at e3
      rw [← e3]; exact hv _ _ _ _ e1 e2
    · simp only [List.mem_map, List.mem_range] at hu
      obtain ⟨q, hq, rfl⟩ := hu
      exact (hm q hq).2
omit hK in
/-- The rows that a slice reads as. -/
theorem rowsV_ok {sz : Nat} {x : AV} {v : Value} {k : List (List AV) → Node} (hX : Cz gs (dom hs) Pr w x v) (hN : NodeOK P rs post (rowsV sz hs x k)) : ∃ xs, Rd Pr w sz xs v ∧ NodeOK P rs post (k xs) := by
  unfold rowsV at hN
  split at hN
  · split at hN
    · rename_i hz; obtain rfl := Nat.eq_of_beq_eq_true hz
      exact ⟨_, rd_ro C hX.ro_, hN⟩
    · exact hN.elim
  · exact ⟨[], ⟨none, 0, hX.nils, Nat.le_refl _, fun _ => rfl, .inl rfl⟩, hN⟩
  · rename_i k'
    obtain ⟨e1, hk⟩ := hX.own_
    split at hN
    · rename_i t z xs ho
      split at hN
      case h_2 => exact hN.elim
      rename_i hz; obtain rfl := Nat.eq_of_beq_eq_true hz
      refine ⟨xs, ?_, hN⟩
      obtain ⟨h0, h1, h2⟩ := C.objG hk ho
      rcases h2 with ⟨rfl, h2⟩ | ⟨cap, h2, h3, h4⟩
      · exact ⟨none, 0, e1.trans h2, Nat.le_refl _, fun _ => rfl, .inl rfl⟩
      · obtain ⟨c, hm, hoc, hsz, hv⟩ := blk_cells h4
        have hle : xs.length * z ≤ c.size := by rw [hsz]; exact Nat.mul_le_mul_right _ h3
        refine ⟨_, cap, e1.trans h2, h3, fun h => by simp at h, .inr ⟨_, 0, c.toList.take (xs.length * z), rfl, h4.lt, h1, by simp; omega, fun j u hj => ?_, fun i row j a u f1 f2 f3 => ?_, fun u hu => hoc u (List.mem_of_mem_take hu)⟩⟩
        · rw [List.getElem?_take] at hj
          split at hj
          · rw [Nat.zero_add]; exact hm j u hj
          · cases hj
        · rw [List.getElem?_take] at f3
          split at f3
          · exact hv i row j a u f1 f2 (by simpa using f3)
          · cases f3
    · rename_i z xs ho
      split at hN
      case h_2 => exact hN.elim
      rename_i hz; obtain rfl := Nat.eq_of_beq_eq_true hz
      refine ⟨xs, ?_, hN⟩
      rw [e1]
      exact rd_ro C (C.objG hk ho)
    · exact hN.elim
  · rename_i k' off len cap
    obtain ⟨e1, hk⟩ := hX.sl_
    split at hN
    case h_2 =>
      split at hN
      case h_2 => exact hN.elim
      rename_i t cs ho
      obtain ⟨⟨hle, hcap⟩, hN⟩ := hN
      refine ⟨_, ?_, hN⟩
      obtain ⟨c, hm, hoc, hsz, hv⟩ := blk_cells (C.obj hk ho)
      have hl : ((List.range len).map fun i => seg cs (off + i * sz) sz).length = len := by simp
      have hin : ∀ i, i < len → i * sz + sz ≤ len * sz := fun i hi => by
        have : (i + 1) * sz ≤ len * sz := Nat.mul_le_mul_right _ hi
        rw [Nat.add_mul] at this
        omega
      refine ⟨_, cap, by rw [hl]; exact e1, by rw [hl]; exact hcap, fun h => by simp at h, .inr ⟨_, off, (c.toList.drop off).take (len * sz), rfl, (Blk.lt (C.obj hk ho)), ?_, by rw [hl]; simp; omega, fun j u hj => ?_, fun i row j a u f1 f2 f3 => ?_, fun u hu => hoc u (List.mem_of_mem_drop (List.mem_of_mem_take hu))⟩⟩
      · intro row hr
        simp only [List.mem_map, List.mem_range] at hr
        obtain ⟨i, hi, rfl⟩ := hr
        have := hin i hi
        simp [seg]; omega
      · rw [List.getElem?_take, List.getElem?_drop] at hj
        split at hj
        · exact hm _ u hj
        · cases hj
      · rw [List.getElem?_map, Option.map_eq_some_iff] at f1
        obtain ⟨i', hi', rfl⟩ := f1
        obtain ⟨hi, rfl⟩ := List.getElem?_eq_some_iff.1 hi'
        rw [List.length_range] at hi
        rw [List.getElem_range] at f2
        rw [seg, List.getElem?_take, List.getElem?_drop] at f2
        rw [List.getElem?_take, List.getElem?_drop] at f3
        split at f2
        · split at f3
          · exact hv _ _ _ f2 (by rw [show off + i * sz + j = off + (i * sz + j) by omega]; simpa using f3)
          · cases f3
        · cases f2
    rename_i hz
    obtain rfl := Nat.eq_of_beq_eq_true hz
    split at hN
    case h_2 => exact hN.elim
    rename_i t cs ho
    obtain ⟨⟨hle, hcap⟩, hN⟩ := hN
    refine ⟨_, ?_, hN⟩
    obtain ⟨c, hm, hoc, hsz, hv⟩ := blk_cells (C.obj hk ho)
    have hl : ((seg cs off len).map fun a => [a]).length = len := by simp [seg]; omega
    refine ⟨_, cap, by rw [hl]; exact e1, by rw [hl]; exact hcap, fun h => by simp at h, .inr ⟨_, off, (c.toList.drop off).take len, rfl, (Blk.lt (C.obj hk ho)), ?_, by simp [seg]; omega, fun j u hj => ?_, fun i row j a u f1 f2 f3 => ?_, fun u hu => hoc u (List.mem_of_mem_drop (List.mem_of_mem_take hu))⟩⟩
    · intro row hr
      simp only [List.mem_map] at hr
      obtain ⟨x, _, rfl⟩ := hr
      rfl
    · rw [List.getElem?_take, List.getElem?_drop] at hj
      split at hj
      · exact hm _ u hj
      · cases hj
    · simp only [List.getElem?_map, Option.map_eq_some_iff] at f1
      obtain ⟨x, hx, rfl⟩ := f1
      have hj0 : j = 0 := by
        have := (List.getElem?_eq_some_iff.1 f2).1
        simpa using this
      subst hj0
      simp at f2
      subst f2
      rw [Nat.mul_one, Nat.add_zero, List.getElem?_take, List.getElem?_drop] at f3
      rw [seg, List.getElem?_take, List.getElem?_drop] at hx
      split at f3
      · rename_i hi
        rw [if_pos hi] at hx
        exact hv _ _ _ hx (by simpa using f3)
      · cases f3
  · exact hN.elim
omit hK C in
theorem Lf.int_ {k : IntKind} {n : Int} {v : Value} (h : Lf Pr w (.int k n) v) : v = .int k n := by cases h; rfl
omit hK C in
theorem bytes_list : ∀ (xs : List (List AV)), Bytes xs → ∃ ns : List Int, xs = ns.map fun n => [AV.int .u8 n]
  | [], _ => ⟨[], rfl⟩
  | x :: l, h => by
    obtain ⟨n, rfl⟩ := h x (by simp)
    obtain ⟨ns, rfl⟩ := bytes_list l (fun r hr => h r (by simp [hr]))
    exact ⟨n :: ns, rfl⟩
omit hK C in
theorem push_all (ns : List Int) : ns.foldl (fun r n => r.push (UInt8.ofNat n.toNat)) ByteArray.empty = ⟨(ns.map fun n => UInt8.ofNat n.toNat).toArray⟩ := by
  have key : ∀ (ns : List Int) (s : ByteArray), (ns.foldl (fun r n => r.push (UInt8.ofNat n.toNat)) s).data.toList = s.data.toList ++ ns.map fun n => UInt8.ofNat n.toNat := by
    intro ns
    induction ns with
    | nil => intro s; simp
    | cons n ns ih => intro s; rw [List.foldl_cons, ih]; simp
  have := key ns ByteArray.empty
  apply ByteArray.ext
  apply Array.toList_inj.1
  rw [this]; simp
theorem S_cvBS {s t e : TypeId} {x : Operand} {y : Opd} (h1 : P.underlying s = some (.slice e)) (he : P.underlying e = some (.int .u8)) (h2 : P.underlying t = some .string) (hy : cOpd x = some y)
    (hN : NodeOK P rs post (opN NK d (.cvBS y) rest tm hs)) : Oper.wp P ⟨d, .convert s t x, ty, pos, af, g⟩ a w K Q := by
  have h := C.opd hy
  simp only [opN] at hN
  obtain ⟨xs, ⟨A, cap, e1, hcap, _, hr⟩, hb, hN⟩ := rowsV_ok C h hN
  refine fin_ hK C (v := .string (strOf xs)) ?_ (.lf (.str _)) hN
  have run : (Conv.bytesToString (a.eval x)).run P w = .ok (.string (strOf xs)) w := by
    rw [e1]
    obtain ⟨ns, rfl⟩ := bytes_list xs hb
    have hst : strOf (ns.map fun n => [AV.int .u8 n]) = ns.foldl (fun r n => r.push (UInt8.ofNat n.toNat)) ByteArray.empty := by
      rw [push_all]
      simp only [strOf, List.map_map]
      rfl
    rw [hst]
    cases A with
    | none =>
      have : ns = [] := by
        rcases hr with h | ⟨b, o, l, h, _⟩
        · simpa using h
        · cases h
      subst this; rfl
    | some ad =>
      refine run_bytesToString w ad _ cap ns ?_
      rcases hr with h | ⟨b, o, l, hA, h4, h5, h6, h7, h8, h9⟩
      · have : ns = [] := by simpa using h
        subst this; rfl
      · injection hA with hA
        subst hA
        have hl : l = ns.map (Value.int .u8) := by
          apply List.ext_getElem?
          intro j
          have hz : l.length = ns.length := by simpa using h6
          by_cases hj : j < ns.length
          · have := h8 j [.int .u8 ns[j]] 0 (.int .u8 ns[j]) (l[j]'(by omega)) (by simp [hj]) rfl (by simp [hz, hj])
            rw [List.getElem?_eq_getElem (by omega), Lf.int_ this]
            simp [hj]
          · rw [List.getElem?_eq_none (by omega), List.getElem?_eq_none (by simp; omega)]
        have := run_loadCells_list (P := P) w (at_ b o) l (fun j v hj => by rw [at_add]; exact h7 j v hj)
        rw [hl] at this
        simpa using this
  simp only [execOp, convert, Sem.run_bind, run_un h1, run_un h2, run_un he, Result.andThen_ok, e1]
  rw [← e1]
  simp only [run, Result.andThen_ok, Sem.run_pure]
end
end Go.Proofs.YtlnafekmiidpkaaDoor.S
