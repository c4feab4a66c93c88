/- Maps: what their operations do. -/
import Derived.Test.YtlnafekmiidpkaaDoorS15
import Derived.MapKept
import Derived.Maps.RangeRun
import Derived.WideKeyEntry
namespace Go.Proofs.YtlnafekmiidpkaaDoor.S
set_option linter.all false
set_option linter.unusedVariables false
set_option linter.unusedSimpArgs false
/- maps as functions -/
theorem Mp.look_emp (n : Int) : Mp.emp.look n = none := rfl
theorem Mp.es_emp : Mp.emp.es = [] := rfl
theorem look_at {l : List (Nat × Int × AV)} (kd : (l.map (·.2.1)).Nodup) {i : Nat} {b : Nat} {n : Int} {a : AV} (h : l[i]? = some (b, n, a)) : l.find? (fun e => e.2.1 == n) = some (b, n, a) := by
  induction l generalizing i with
  | nil => simp at h
  | cons x l ih =>
    cases i with
    | zero =>
      simp at h
      subst h
      simp
    | succ i =>
      have h : l[i]? = some (b, n, a) := by simpa using h
      have kd' := List.nodup_cons.1 (by simpa using kd : (x.2.1 :: l.map (·.2.1)).Nodup)
      have hne : x.2.1 ≠ n := fun e => kd'.1 (by rw [e]; exact List.mem_map.2 ⟨_, List.mem_of_getElem? h, rfl⟩)
      rw [List.find?_cons_of_neg (by simpa using hne)]
      exact ih kd'.2 h
theorem Mp.look_of {M : Mp} {b : Nat} {n : Int} {a : AV} (h : (b, n, a) ∈ M.es) : M.look n = some a := by
  obtain ⟨i, hi⟩ := List.getElem?_of_mem h
  unfold Mp.look
  rw [look_at M.kd hi]
  rfl
theorem Mp.look_some {M : Mp} {n : Int} {a : AV} (h : M.look n = some a) : ∃ b, (b, n, a) ∈ M.es := by
  unfold Mp.look at h
  rw [Option.map_eq_some_iff] at h
  obtain ⟨⟨b, k, v⟩, h1, rfl⟩ := h
  have h2 := List.find?_some h1
  have h3 := List.mem_of_find?_eq_some h1
  simp at h2
  subst h2
  exact ⟨b, h3⟩
theorem Mp.look_none {M : Mp} {n : Int} : M.look n = none ↔ ∀ e ∈ M.es, e.2.1 ≠ n := by
  constructor
  · intro h e he hn
    have := Mp.look_of (M := M) (b := e.1) (n := e.2.1) (a := e.2.2) he
    rw [hn, h] at this
    cases this
  · intro h
    cases hl : M.look n with
    | none => rfl
    | some a =>
      obtain ⟨b, hb⟩ := Mp.look_some hl
      exact absurd rfl (h _ hb)
theorem Mp.look_put (M : Mp) (n k : Int) (v : AV) : (M.put n v).look k = if k = n then some v else M.look k := by
  by_cases h : n ∈ M.es.map (·.2.1)
  · have he : (M.put n v).es = M.es.map fun e => if e.2.1 = n then (e.1, n, v) else e := by unfold Mp.put; rw [dif_pos h]
    split
    · rename_i e
      subst e
      obtain ⟨x, hx, rfl⟩ := List.mem_map.1 h
      exact Mp.look_of (b := x.1) (by rw [he]; exact List.mem_map.2 ⟨x, hx, by simp⟩)
    · rename_i hne
      cases hl : M.look k with
      | none =>
        rw [Mp.look_none] at hl ⊢
        intro e hm
        rw [he] at hm
        obtain ⟨x, hx, rfl⟩ := List.mem_map.1 hm
        split
        · exact fun e => hne e.symm
        · exact hl x hx
      | some a =>
        obtain ⟨b, hb⟩ := Mp.look_some hl
        exact Mp.look_of (b := b) (by rw [he]; exact List.mem_map.2 ⟨_, hb, by simp [hne]⟩)
  · have he : (M.put n v).es = M.es ++ [(M.clock, n, v)] := by unfold Mp.put; rw [dif_neg h]
    split
    · rename_i e
      subst e
      exact Mp.look_of (b := M.clock) (by rw [he]; simp)
    · rename_i hne
      cases hl : M.look k with
      | none =>
        rw [Mp.look_none] at hl ⊢
        intro e hm
        rw [he] at hm
        rcases List.mem_append.1 hm with hm | hm
        · exact hl e hm
        · simp at hm; subst hm; exact fun e => hne e.symm
      | some a =>
        obtain ⟨b, hb⟩ := Mp.look_some hl
        exact Mp.look_of (b := b) (by rw [he]; exact List.mem_append.2 (.inl hb))
theorem Mp.look_del (M : Mp) (n k : Int) : (M.del n).look k = if k = n then none else M.look k := by
  have he : (M.del n).es = M.es.filter fun e => !(e.2.1 == n) := rfl
  split
  · rename_i e
    subst e
    rw [Mp.look_none]
    intro e hm
    rw [he, List.mem_filter] at hm
    simpa using hm.2
  · rename_i hne
    cases hl : M.look k with
    | none =>
      rw [Mp.look_none] at hl ⊢
      intro e hm
      rw [he, List.mem_filter] at hm
      exact hl e hm.1
    | some a =>
      obtain ⟨b, hb⟩ := Mp.look_some hl
      exact Mp.look_of (b := b) (by rw [he, List.mem_filter]; exact ⟨hb, by simpa using hne⟩)
theorem Mp.mem_keys (M : Mp) (n : Int) : n ∈ M.es.map (·.2.1) ↔ ∃ v, M.look n = some v := by
  constructor
  · intro h
    obtain ⟨x, hx, rfl⟩ := List.mem_map.1 h
    exact ⟨_, Mp.look_of (b := x.1) (a := x.2.2) hx⟩
  · rintro ⟨v, h⟩
    obtain ⟨b, hb⟩ := Mp.look_some h
    exact List.mem_map.2 ⟨_, hb, rfl⟩
theorem Mp.len_put (M : Mp) (n : Int) (v : AV) : (M.put n v).es.length = if (M.look n).isSome then M.es.length else M.es.length + 1 := by
  by_cases h : n ∈ M.es.map (·.2.1)
  · have he : (M.put n v).es = M.es.map fun e => if e.2.1 = n then (e.1, n, v) else e := by unfold Mp.put; rw [dif_pos h]
    obtain ⟨a, ha⟩ := (Mp.mem_keys M n).1 h
    rw [he, ha]; simp
  · have he : (M.put n v).es = M.es ++ [(M.clock, n, v)] := by unfold Mp.put; rw [dif_neg h]
    have : M.look n = none := by
      cases hl : M.look n with
      | none => rfl
      | some a => exact absurd ((Mp.mem_keys M n).2 ⟨a, hl⟩) h
    rw [he, this]; simp
/- the model's maps -/
section
variable {Pr : Nat → Prop} {w : World} {kk : IntKind}
theorem MRel.keys {l : List (Nat × Int × AV)} {m : List MapEntry} (h : MRel Pr w kk l m) : ∀ x ∈ m, ∃ n, x.key = .int kk n := by
  intro x hx
  obtain ⟨i, hi⟩ := List.getElem?_of_mem hx
  have hlt := (List.getElem?_eq_some_iff.1 hi).1
  obtain ⟨⟨b, n, a⟩, hl⟩ : ∃ e, l[i]? = some e := ⟨l[i]'(by rw [h.1]; exact hlt), List.getElem?_eq_getElem _⟩
  exact ⟨n, (h.2 i b n a x hl hi).2.1⟩
theorem MRel.isKey {l : List (Nat × Int × AV)} {m : List MapEntry} (h : MRel Pr w kk l m) : ∀ x ∈ m, MapKept.IsKey (.int kk) x.key := by
  intro x hx
  obtain ⟨n, hn⟩ := h.keys x hx
  rw [hn]; rfl
/-- Which entry has a key. -/
theorem MRel.find {M : Mp} {es : Array MapEntry} (h : MRel Pr w kk M.es es.toList) (n : Int) :
    (M.look n = none ∧ Instr.findNow (.int kk) (.int kk n) es.toList 0 = some none ∧ (∀ x ∈ es.toList, x.key ≠ .int kk n)) ∨
    ∃ (j b : Nat) (a : AV) (e : MapEntry), M.look n = some a ∧ M.es[j]? = some (b, n, a) ∧ es.toList[j]? = some e ∧ e.key = .int kk n ∧ e.born = b ∧ Lf Pr w a e.val ∧ Instr.findNow (.int kk) (.int kk n) es.toList 0 = some (some (j, e.val)) := by
  rcases MapKept.findNow_spec (d := .int kk) (k := .int kk n) rfl es.toList 0 h.isKey with ⟨h1, h2⟩ | ⟨j, e0, h1, h2, h3⟩
  · left
    refine ⟨Mp.look_none.2 fun e he hn => ?_, h1, h2⟩
    obtain ⟨i, hi⟩ := List.getElem?_of_mem he
    have hlt := (List.getElem?_eq_some_iff.1 hi).1
    obtain ⟨x, hx⟩ : ∃ x, es.toList[i]? = some x := ⟨es.toList[i]'(by rw [← h.1]; exact hlt), List.getElem?_eq_getElem _⟩
    have := (h.2 i e.1 e.2.1 e.2.2 x hi hx).2.1
    exact h2 x (List.mem_of_getElem? hx) (by rw [this, hn])
  · right
    have hlt := (List.getElem?_eq_some_iff.1 h2).1
    obtain ⟨⟨b, k, a⟩, hl⟩ : ∃ e, M.es[j]? = some e := ⟨M.es[j]'(by rw [h.1]; exact hlt), List.getElem?_eq_getElem _⟩
    obtain ⟨g1, g2, g3⟩ := h.2 j b k a e0 hl h2
    have hk : k = n := by
      rw [h3] at g2
      injection g2 with _ g2
      exact g2.symm
    subst hk
    exact ⟨j, b, a, e0, Mp.look_of (b := b) (List.mem_of_getElem? hl), hl, h2, h3, g1, g3, by simpa using h1⟩
end
section
variable {P : Program} {rs : List ARes} {post : AV → List AObj → Prop} {E : Env} {NK : List AV → List AObj → Node} {K : Act → World → Prop} {rest : List AItem} {Q : Exit → Act → World → Prop}
  {gs : Nat → Gh} {Pr : Nat → Prop} {tm : List AV} {hs : List AObj} {a : Act} {w w' : World} {d : Option Nat} {ty : TypeId} {pos : String} {af : Array Edge} {g : Option (Nat × Bool)} {op : AOp} {o : Oper}
variable (hK : Next P rs post E (fun tm hs => NodeOK P rs post (NK tm hs)) K) (hR : Next P rs post E (fun tm hs => AW P rs rest tm hs post) K) (C : Conc E gs Pr tm hs a w)
theorem set_at {w : World} {b : Nat} {o : Obj} (hb : b < w.heap.size) : ({ w with heap := w.heap.setIfInBounds b o } : World).heap[b]? = some o := by
  simp [hb]
theorem set_ne {w : World} {b c : Nat} {o : Obj} (h : c ≠ b) : ({ w with heap := w.heap.setIfInBounds b o } : World).heap[c]? = w.heap[c]? := by
  simp [Array.getElem?_setIfInBounds]
  intro e
  exact absurd e.symm h
theorem zeroV_run {t : TypeId} {z : AV} (hz : zeroV P t = some z) : ∃ v, (zeroValue t).run P w = .ok v w ∧ Cz gs (dom hs) Pr w z v := by
  unfold zeroV at hz
  cases hi : P.info? t with
  | none => simp [hi] at hz
  | some i =>
    simp only [hi, Option.bind_some] at hz
    cases hzz : i.zero with
    | none => simp [hzz] at hz
    | some v =>
      refine ⟨v, by simp [zeroValue, typeInfo, hi, hzz], ?_⟩
      rw [hzz] at hz
      split at hz
      · rename_i cs e
        injection e with e
        subst e
        obtain ⟨h1, h2⟩ := orNo_ok hz
        have hoc : ∀ v ∈ cs.toList, v.oneCell' = true := List.all_eq_true.1 h1
        have hpt : ∀ (j : Nat) a v, (cs.toList.map ofV)[j]? = some a → cs[j]? = some v → a = ofV v := by
          intro j a v e1 e2
          have e2 : cs.toList[j]? = some v := by simpa using e2
          rw [List.getElem?_map, e2] at e1
          injection e1 with e1; exact e1.symm
        split at h2
        · rename_i hall
          injection h2 with h2; subst h2
          refine .lf (.arr _ _ (by simp) (fun j a v e1 e2 => ?_) hoc)
          rw [hpt j a v e1 e2]
          exact Cz_val (gs := gs) (D := dom hs) (allVal_mem hall _ (by rw [← hpt j a v e1 e2]; exact List.mem_of_getElem? e1)) (Cz_ofV v)
        · injection h2 with h2; subst h2
          exact .agg _ _ (by simp) (fun j a v e1 e2 => by rw [hpt j a v e1 e2]; exact Cz_ofV v) hoc
      · injection hz with hz
        subst hz
        rename_i u hu e
        injection e with e
        subst e
        exact Cz_ofV _
      · cases hz
include hK C
theorem S_mkMap {t k e : TypeId} {kk : IntKind} (hu : P.underlying t = some (.map k e)) (hN : NodeOK P rs post (opN NK d (.mkMap kk) rest tm hs)) : Oper.wp P ⟨d, .makeMap t none, ty, pos, af, g⟩ a w K Q := by
  have C1 := C.alloc (w' := w.alloc (.map #[] 0)) ⟨w.heap.size, .nilFunc⟩ (.map kk Mp.emp) (fun _ => rfl) (fun b hb => heap_push hb) (by simp) rfl rfl rfl
    ⟨#[], heap_new, rfl, fun i b n a e h1 h2 => by simp [Mp.emp] at h1⟩
  have hp := Cz.mp (gs := upd gs (lenO hs) ⟨w.heap.size, .nilFunc⟩) (D := dom (snocO hs (.map kk Mp.emp))) (Pr := Pr) (w := w.alloc (.map #[] 0)) (lenO hs) (by rw [dom_snoc]; exact .inr rfl)
  rw [upd_self] at hp
  refine wp_val ?_ (hK _ _ hN _ _ _ _ (C1.put d hp))
  simp [execOp, Instr.makeMap, newObj]
  rfl
theorem mp_obj {k : Nat} {kk : IntKind} {M : Mp} (hk : dom hs k) (h : getO hs k = .map kk M) : ∃ es : Array MapEntry, w.heap[(gs k).blk]? = some (.map es M.clock) ∧ MRel Pr w kk M.es es.toList := C.obj hk h
include hR
theorem S_lkup {t k e : TypeId} {kt : IntKind} {x i : Operand} {ok : Bool} {z : AV} {x' i' : Opd} (hu : P.underlying t = some (.map k e)) (hk : P.underlying k = some (.int kt)) (hz : zeroV P e = some z) (hx : cOpd x = some x') (hi : cOpd i = some i')
    (hN : NodeOK P rs post (opN NK d (.lkup kt z ok x' i') rest tm hs)) : Oper.wp P ⟨d, .lookup t x i ok, ty, pos, af, g⟩ a w K Q := by
  have hX := C.opd hx
  have hI := C.opd hi
  obtain ⟨zv, hzv, hzc⟩ := zeroV_run (P := P) (gs := gs) (hs := hs) (Pr := Pr) (w := w) hz
  have two : ∀ {v : Value} {y : AV} {b : Bool} {bv : AV}, Cz gs (dom hs) Pr w y v → Cz gs (dom hs) Pr w bv (.bool b) → Cz gs (dom hs) Pr w (lookR y ok bv) (if ok then .tuple #[v, .bool b] else v) := by
    intro v y b bv h1 h2
    cases ok with
    | false => exact h1
    | true =>
      refine .tup _ _ rfl fun j p q e1 e2 => ?_
      match j, e1, e2 with
      | 0, e1, e2 => simp at e1 e2; subst e1; subst e2; exact h1
      | 1, e1, e2 => simp at e1 e2; subst e1; subst e2; exact h2
  simp only [opN] at hN
  split at hN
  · rename_i e1
    rw [e1] at hX
    split at hN
    case h_2 => exact hN.elim
    rename_i j n e2
    rw [e2] at hI
    have q1 := sameK_ok hN
    clear hN
    obtain ⟨q2, hN⟩ := q1
    subst q2
    refine fin_ hK C (v := if ok then .tuple #[zv, .bool false] else zv) ?_ (two hzc (.lf .ff)) hN
    have h1 : (Instr.checkKey true 10000 k (.int kt n)).run P w = .ok () w := MapKept.run_checkKey hk (show MapKept.IsKey (.int kt) (.int kt n) from rfl) true 9999
    have h2 : (Instr.findKey k (.int kt n) []).run P w = .ok none w := MapKept.run_findKey hk rfl
    simp [execOp, Instr.lookup, hX.nilm, hI.int, run_un hu, h1, h2, hzv]
  · rename_i q e1
    rw [e1] at hX
    obtain ⟨hv, hq⟩ := hX.mp_
    split at hN
    case h_2 => exact hN.elim
    rename_i kk M hM
    split at hN
    case h_2 => exact hN.elim
    rename_i j n e2
    rw [e2] at hI
    have q1 := sameK_ok hN
    clear hN
    obtain ⟨q2, q3⟩ := q1
    have q4 := sameK_ok q3
    clear q3
    obtain ⟨q5, hN⟩ := q4
    subst q5; subst q2
    obtain ⟨es, hb, hrel⟩ := mp_obj hK C hq hM
    have h1 : (Instr.checkKey es.isEmpty 10000 k (.int kt n)).run P w = .ok () w := MapKept.run_checkKey hk (show MapKept.IsKey (.int kt) (.int kt n) from rfl) es.isEmpty 9999
    obtain ⟨hS, hNo⟩ := hN
    rcases hrel.find n with ⟨g1, g2, _⟩ | ⟨j, b, av, e0, g1, g2, g3, g4, g5, g6, g7⟩
    · refine finR_ hR C (v := if ok then .tuple #[zv, .bool false] else zv) ?_ (two hzc (.lf .ff)) (hNo g1)
      have h2 := MapKept.run_findKey (w := w) hk g2
      simp [execOp, Instr.lookup, hv, hI.int, run_un hu, MapKept.run_getObj_map hb, h1, h2, hzv]
    · refine finR_ hR C (v := if ok then .tuple #[e0.val, .bool true] else e0.val) ?_ (two (.lf g6) (.lf .tt)) (hS av g1)
      have h2 := MapKept.run_findKey (w := w) hk g7
      simp [execOp, Instr.lookup, hv, hI.int, run_un hu, MapKept.run_getObj_map hb, h1, h2]
  · exact hN.elim
omit hR
theorem valOf_ok {x : AV} {v : Value} (hx : okVal x = true) (h : Cz gs (dom hs) Pr w x v) : Lf Pr w (valOf x) v := by
  cases x with
  | arr cs => exact h.arr_
  | agg cs =>
    obtain ⟨vs, rfl, h1, h2, h3⟩ := h.agg_
    exact .arr cs vs h1 (fun j b u e1 e2 => Cz_val (allVal_mem hx b (List.mem_of_getElem? e1)) (h2 j b u e1 e2)) h3
  | any => cases hx
  | _ => exact Cz_val hx h
theorem S_mset {t k e : TypeId} {kt : IntKind} {x i y : Operand} {x' i' y' : Opd} (hu : P.underlying t = some (.map k e)) (hk : P.underlying k = some (.int kt)) (hx : cOpd x = some x') (hi : cOpd i = some i') (hy : cOpd y = some y')
    (hN : NodeOK P rs post (opN NK d (.mset kt x' i' y') rest tm hs)) : Oper.wp P ⟨d, .mapUpdate t x i y, ty, pos, af, g⟩ a w K Q ∧ Oper.wp P ⟨d, .insert t x i y, ty, pos, af, g⟩ a w K Q := by
  have hX := C.opd hx
  have hI := C.opd hi
  have hY := C.opd hy
  simp only [opN] at hN
  split at hN
  case h_2 => exact hN.elim
  rename_i q e1
  rw [e1] at hX
  obtain ⟨hv, hq⟩ := hX.mp_
  split at hN
  case h_2 => exact hN.elim
  rename_i kk M hM
  split at hN
  case h_2 => exact hN.elim
  rename_i j n e2
  rw [e2] at hI
  have q1 := sameK_ok hN
  clear hN
  obtain ⟨q2, q3⟩ := q1
  have q4 := sameK_ok q3
  clear q3
  obtain ⟨q5, hN⟩ := q4
  subst q5; subst q2
  split at hN
  case h_2 => exact hN.elim
  rename_i hok
  have hL := valOf_ok hK C hok hY
  generalize valOf (ev tm y') = va at hL hN
  obtain ⟨es, hb, hrel⟩ := mp_obj hK C hq hM
  have hlt : (gs q).blk < w.heap.size := (Array.getElem?_eq_some_iff.1 hb).1
  have hlive : live (gs q) (getO hs q) := by rw [hM]; trivial
  have h1 : (Instr.checkKey false 10000 k (.int kt n)).run P w = .ok () w := MapKept.run_checkKey hk (show MapKept.IsKey (.int kt) (.int kt n) from rfl) false 9999
  have fin : ∀ (es' : Array MapEntry), MRel Pr w kt (M.put n va).es es'.toList → (Instr.mapUpdate t (.map (some (gs q).blk)) (.int kt n) (a.eval y)).run P w = .ok () { w with heap := w.heap.setIfInBounds (gs q).blk (.map es' (M.put n va).clock) } →
      Oper.wp P ⟨d, .mapUpdate t x i y, ty, pos, af, g⟩ a w K Q ∧ Oper.wp P ⟨d, .insert t x i y, ty, pos, af, g⟩ a w K Q := by
    intro es' hr hrun
    have hP : ∀ b, Pr b → ({ w with heap := w.heap.setIfInBounds (gs q).blk (.map es' (M.put n va).clock) } : World).heap[b]? = w.heap[b]? := fun b hb => set_ne fun e => (C.rep.mine q hq hlive).2 (e ▸ hb)
    have C1 := C.write (w' := { w with heap := w.heap.setIfInBounds (gs q).blk (.map es' (M.put n va).clock) }) hq hlive (.map kt (M.put n va)) (fun h => h.elim) (fun b hb => set_ne hb) (by simp) rfl rfl rfl ⟨es', set_at hlt, hr.mono (fun _ h => h) hP⟩
    constructor
    · refine wp_unit ?_ (hK _ _ hN _ _ _ _ (C1.put d (.any _)))
      simp [execOp, hv, hI.int, hrun]
    · refine wp_unit ?_ (hK _ _ hN _ _ _ _ (C1.put d (.any _)))
      simp [execOp, hv, hI.int, hrun]
  rcases hrel.find n with ⟨g1, g2, g3⟩ | ⟨j, b, av, e0, g1, g2, g3, g4, g5, g6, g7⟩
  · have hno : ¬ n ∈ M.es.map (·.2.1) := fun hm => by
      obtain ⟨v, hv⟩ := (Mp.mem_keys M n).1 hm
      rw [g1] at hv; cases hv
    have he : (M.put n va).es = M.es ++ [(M.clock, n, va)] := by unfold Mp.put; rw [dif_neg hno]
    have hc : (M.put n va).clock = M.clock + 1 := by unfold Mp.put; rw [dif_neg hno]
    refine fin (es.push ⟨.int kt n, a.eval y, M.clock⟩) ⟨by rw [he]; simp [hrel.1], fun i b m v e h2 h3 => ?_⟩ ?_
    · rw [he] at h2
      rw [Array.toList_push] at h3
      by_cases hil : i < M.es.length
      · rw [List.getElem?_append_left hil] at h2
        rw [List.getElem?_append_left (by rw [← hrel.1]; exact hil)] at h3
        exact hrel.2 i b m v e h2 h3
      · rw [List.getElem?_append_right (by omega)] at h2
        rw [List.getElem?_append_right (by rw [← hrel.1]; omega), ← hrel.1] at h3
        have : i - M.es.length = 0 := by have := (List.getElem?_eq_some_iff.1 h2).1; simp at this; omega
        rw [this] at h2 h3
        simp at h2 h3
        obtain ⟨rfl, rfl, rfl⟩ := h2
        subst h3
        exact ⟨rfl, rfl, hL⟩
    · have h2 := MapKept.run_findKey (w := w) hk g2
      rw [hc]
      simp [Instr.mapUpdate, run_un hu, MapKept.run_getObj_map hb, h1, h2, MapKept.run_setObj_map _ hb]
  · have hno : n ∈ M.es.map (·.2.1) := List.mem_map.2 ⟨_, List.mem_of_getElem? g2, rfl⟩
    have he : (M.put n va).es = M.es.map fun e => if e.2.1 = n then (e.1, n, va) else e := by unfold Mp.put; rw [dif_pos hno]
    have hc : (M.put n va).clock = M.clock := by unfold Mp.put; rw [dif_pos hno]
    have huniq : ∀ i b m v, M.es[i]? = some (b, m, v) → m = n → i = j := by
      intro i b' m v hi hm
      have hnd := M.kd
      have e1 : (M.es.map (·.2.1))[i]? = some n := by rw [List.getElem?_map, hi, ← hm]; rfl
      have e2 : (M.es.map (·.2.1))[j]? = some n := by rw [List.getElem?_map, g2]; rfl
      have l1 := (List.getElem?_eq_some_iff.1 e1).1
      exact (List.getElem?_inj l1 hnd).1 (by rw [e1, e2])
    refine fin (es.modify j fun e => { e with key := .int kt n, val := a.eval y }) ⟨by rw [he]; simp [hrel.1], fun i b' m v e h2 h3 => ?_⟩ ?_
    · rw [he, List.getElem?_map, Option.map_eq_some_iff] at h2
      obtain ⟨⟨b2, m2, v2⟩, hi, h2⟩ := h2
      rw [Array.toList_modify, List.getElem?_modify] at h3
      have hil := (List.getElem?_eq_some_iff.1 hi).1
      obtain ⟨e2, he2⟩ : ∃ x, es.toList[i]? = some x := ⟨es.toList[i]'(by rw [← hrel.1]; exact hil), List.getElem?_eq_getElem _⟩
      obtain ⟨f1, f2, f3⟩ := hrel.2 i b2 m2 v2 e2 hi he2
      rw [he2] at h3
      have h3 : some ((if j = i then (fun e : MapEntry => { e with key := .int kt n, val := a.eval y }) else id) e2) = some e := by
        split at h3 <;> rename_i q <;> simp only [q, if_true, if_false] <;> exact h3
      injection h3 with h3
      by_cases hm : m2 = n
      · have hij := huniq i b2 m2 v2 hi hm
        subst hij
        rw [if_pos rfl] at h3
        rw [if_pos hm] at h2
        simp only [Prod.mk.injEq] at h2
        obtain ⟨rfl, rfl, rfl⟩ := h2
        subst h3
        exact ⟨f1, rfl, hL⟩
      · have hij : j ≠ i := fun e => hm (by rw [← e, g2] at hi; simp at hi; exact hi.2.1.symm)
        rw [if_neg hij] at h3
        rw [if_neg hm] at h2
        simp only [Prod.mk.injEq] at h2
        obtain ⟨rfl, rfl, rfl⟩ := h2
        subst h3
        exact ⟨f1, f2, f3⟩
    · have h2 := MapKept.run_findKey (w := w) hk g7
      have hj : es[j]? = some e0 := by simpa using g3
      rw [hc]
      simp [Instr.mapUpdate, run_un hu, MapKept.run_getObj_map hb, h1, h2, hj, g4, MapKept.run_keyThatStays (show MapKept.IsKey (.int kt) (.int kt n) from rfl), MapKept.run_setObj_map _ hb]
theorem S_ment {t k e : TypeId} {kt : IntKind} {x i : Operand} {z : AV} {x' i' : Opd} (hu : P.underlying t = some (.map k e)) (hk : P.underlying k = some (.int kt)) (hz : zeroV P e = some z) (hx : cOpd x = some x') (hi : cOpd i = some i')
    (hN : NodeOK P rs post (opN NK d (.ment kt z x' i') rest tm hs)) : Oper.wp P ⟨d, .mapEntry t x i, ty, pos, af, g⟩ a w K Q := by
  have hX := C.opd hx
  have hI := C.opd hi
  obtain ⟨zv, hzv, hzc⟩ := zeroV_run (P := P) (gs := gs) (hs := hs) (Pr := Pr) (w := w) hz
  simp only [opN] at hN
  split at hN
  case h_2 => exact hN.elim
  rename_i q e1
  rw [e1] at hX
  obtain ⟨hv, hq⟩ := hX.mp_
  split at hN
  case h_2 => exact hN.elim
  rename_i kk M hM
  split at hN
  case h_2 => exact hN.elim
  rename_i j n e2
  rw [e2] at hI
  have q1 := sameK_ok hN
  clear hN
  obtain ⟨q2, q3⟩ := q1
  have q4 := sameK_ok q3
  clear q3
  obtain ⟨q5, hN⟩ := q4
  subst q5; subst q2
  obtain ⟨hnone, hN⟩ := hN
  split at hN
  case h_2 => exact hN.elim
  rename_i hok
  have hL := valOf_ok hK C hok hzc
  generalize valOf z = va at hL hN
  obtain ⟨es, hb, hrel⟩ := mp_obj hK C hq hM
  have hlt : (gs q).blk < w.heap.size := (Array.getElem?_eq_some_iff.1 hb).1
  have hlive : live (gs q) (getO hs q) := by rw [hM]; trivial
  have h1 : (Instr.checkKey false 10000 k (.int kt n)).run P w = .ok () w := MapKept.run_checkKey hk (show MapKept.IsKey (.int kt) (.int kt n) from rfl) false 9999
  rcases hrel.find n with ⟨g1, g2, g3⟩ | ⟨j, b, av, e0, g1, g2, g3, g4, g5, g6, g7⟩
  · have hno : ¬ n ∈ M.es.map (·.2.1) := fun hm => by
      obtain ⟨v, hv⟩ := (Mp.mem_keys M n).1 hm
      rw [g1] at hv; cases hv
    have he : (M.put n va).es = M.es ++ [(M.clock, n, va)] := by unfold Mp.put; rw [dif_neg hno]
    have hc : (M.put n va).clock = M.clock + 1 := by unfold Mp.put; rw [dif_neg hno]
    have hr : MRel Pr w kt (M.put n va).es (es.push ⟨.int kt n, zv, M.clock⟩).toList := by
      refine ⟨by rw [he]; simp [hrel.1], fun i b m v e h2 h3 => ?_⟩
      rw [he] at h2
      rw [Array.toList_push] at h3
      by_cases hil : i < M.es.length
      · rw [List.getElem?_append_left hil] at h2
        rw [List.getElem?_append_left (by rw [← hrel.1]; exact hil)] at h3
        exact hrel.2 i b m v e h2 h3
      · rw [List.getElem?_append_right (by omega)] at h2
        rw [List.getElem?_append_right (by rw [← hrel.1]; omega), ← hrel.1] at h3
        have : i - M.es.length = 0 := by have := (List.getElem?_eq_some_iff.1 h2).1; simp at this; omega
        rw [this] at h2 h3
        simp at h2 h3
        obtain ⟨rfl, rfl, rfl⟩ := h2
        subst h3
        exact ⟨rfl, rfl, hL⟩
    have hP : ∀ b, Pr b → ({ w with heap := w.heap.setIfInBounds (gs q).blk (.map (es.push ⟨.int kt n, zv, M.clock⟩) (M.put n va).clock) } : World).heap[b]? = w.heap[b]? := fun b hb => set_ne fun e => (C.rep.mine q hq hlive).2 (e ▸ hb)
    have C1 := C.write (w' := { w with heap := w.heap.setIfInBounds (gs q).blk (.map (es.push ⟨.int kt n, zv, M.clock⟩) (M.put n va).clock) }) hq hlive (.map kt (M.put n va)) (fun h => h.elim) (fun b hb => set_ne hb) (by simp) rfl rfl rfl ⟨_, set_at hlt, hr.mono (fun _ h => h) hP⟩
    refine wp_val (v := .tuple #[zv, goInt M.clock]) ?_ (hK _ _ hN _ _ _ _ (C1.put d (.tup _ _ rfl fun j p q e1 e2 => ?_)))
    · have h2 := MapKept.run_findKey (w := w) hk g2
      rw [hc]
      simp [execOp, hv, hI.int, Instr.mapEntry, run_un hu, MapKept.run_getObj_map hb, h1, h2, hzv, MapKept.run_setObj_map _ hb]
    · match j, e1, e2 with
      | 0, e1, e2 => simp at e1 e2; subst e1; subst e2; exact .lf (hL.mono (fun _ h => h) hP)
      | 1, e1, e2 => simp at e1 e2; subst e1; subst e2; exact .lf (.int _ _)
  · rw [hnone] at g1; cases g1
theorem S_mstore {t : TypeId} {x i y : Operand} {x' i' y' : Opd} (hx : cOpd x = some x') (hi : cOpd i = some i') (hy : cOpd y = some y')
    (hN : NodeOK P rs post (opN NK d (.mstore x' i' y') rest tm hs)) : Oper.wp P ⟨d, .entryStore t x i y, ty, pos, af, g⟩ a w K Q := by
  have hX := C.opd hx
  have hI := C.opd hi
  have hY := C.opd hy
  simp only [opN] at hN
  split at hN
  case h_2 => exact hN.elim
  rename_i q e1
  rw [e1] at hX
  obtain ⟨hv, hq⟩ := hX.mp_
  split at hN
  case h_2 => exact hN.elim
  rename_i kk M hM
  split at hN
  case h_2 => exact hN.elim
  rename_i n e2
  rw [e2] at hI
  obtain ⟨⟨⟨s, m, v⟩, hin, hs⟩, hN⟩ := hN
  simp only [] at hs
  subst hs
  split at hN
  case h_2 => exact hN.elim
  rename_i hok
  have hL := valOf_ok hK C hok hY
  generalize valOf (ev tm y') = va at hL hN
  obtain ⟨es, hb, hrel⟩ := mp_obj hK C hq hM
  have hlt : (gs q).blk < w.heap.size := (Array.getElem?_eq_some_iff.1 hb).1
  have hlive : live (gs q) (getO hs q) := by rw [hM]; trivial
  obtain ⟨j, hj⟩ := List.getElem?_of_mem hin
  have hjl := (List.getElem?_eq_some_iff.1 hj).1
  obtain ⟨e0, he0⟩ : ∃ x, es.toList[j]? = some x := ⟨es.toList[j]'(by rw [← hrel.1]; exact hjl), List.getElem?_eq_getElem _⟩
  have hmb : es.toList.map (·.born) = M.es.map (·.1) := by
    refine List.ext_getElem? fun i => ?_
    rw [List.getElem?_map, List.getElem?_map]
    by_cases hi : i < M.es.length
    · obtain ⟨⟨b, n, v⟩, hl⟩ : ∃ e, M.es[i]? = some e := ⟨M.es[i]'hi, List.getElem?_eq_getElem _⟩
      obtain ⟨y, hy⟩ : ∃ x, es.toList[i]? = some x := ⟨es.toList[i]'(by rw [← hrel.1]; exact hi), List.getElem?_eq_getElem _⟩
      rw [hl, hy]
      simp [(hrel.2 i b n v y hl hy).1]
    · rw [List.getElem?_eq_none (l := es.toList) (by rw [← hrel.1]; omega), List.getElem?_eq_none (l := M.es) (by omega)]; rfl
  have hnd : (es.toList.map (·.born)).Nodup := by rw [hmb]; exact M.nd
  have hb0 : e0.born = s := (hrel.2 j s m v e0 hj he0).1
  have hfind : es.findIdx? (fun e => (e.born : Int) == ((s : Nat) : Int)) = some j := by
    rw [WideElems.findIdx_arr]
    have := WideElems.findIdx_born hnd he0
    rw [hb0] at this
    exact this
  have hr : MRel Pr w kk (M.setB (s : Int) va).es (es.modify j fun e => { e with val := a.eval y }).toList := by
    refine ⟨by show (M.es.map _).length = _; simp [hrel.1], fun i b' m' v' e h2 h3 => ?_⟩
    rw [show (M.setB (s : Int) va).es = M.es.map fun e => if (e.1 : Int) = (s : Int) then (e.1, e.2.1, va) else e from rfl, List.getElem?_map, Option.map_eq_some_iff] at h2
    obtain ⟨⟨b2, m2, v2⟩, hi, h2⟩ := h2
    rw [Array.toList_modify, List.getElem?_modify] at h3
    have hil := (List.getElem?_eq_some_iff.1 hi).1
    obtain ⟨e2, he2⟩ : ∃ x, es.toList[i]? = some x := ⟨es.toList[i]'(by rw [← hrel.1]; exact hil), List.getElem?_eq_getElem _⟩
    obtain ⟨f1, f2, f3⟩ := hrel.2 i b2 m2 v2 e2 hi he2
    rw [he2] at h3
    have h3 : some ((if j = i then (fun e : MapEntry => { e with val := a.eval y }) else id) e2) = some e := by
      split at h3 <;> rename_i q <;> simp only [q, if_true, if_false] <;> exact h3
    injection h3 with h3
    by_cases hij : j = i
    · subst hij
      rw [hj] at hi
      simp at hi
      obtain ⟨rfl, rfl, rfl⟩ := hi
      rw [if_pos rfl] at h3
      rw [if_pos rfl] at h2
      simp only [Prod.mk.injEq] at h2
      obtain ⟨rfl, rfl, rfl⟩ := h2
      subst h3
      exact ⟨f1, f2, hL⟩
    · have hne : b2 ≠ s := fun e => hij (by
        have e1 : (M.es.map (·.1))[i]? = some s := by rw [List.getElem?_map, hi, ← e]; rfl
        have e2 : (M.es.map (·.1))[j]? = some s := by rw [List.getElem?_map, hj]; rfl
        exact ((List.getElem?_inj (List.getElem?_eq_some_iff.1 e1).1 M.nd).1 (by rw [e1, e2])).symm)
      rw [if_neg hij] at h3
      rw [if_neg (by omega)] at h2
      simp only [Prod.mk.injEq] at h2
      obtain ⟨rfl, rfl, rfl⟩ := h2
      subst h3
      exact ⟨f1, f2, f3⟩
  have hP : ∀ b, Pr b → ({ w with heap := w.heap.setIfInBounds (gs q).blk (.map (es.modify j fun e => { e with val := a.eval y }) M.clock) } : World).heap[b]? = w.heap[b]? := fun b hb => set_ne fun e => (C.rep.mine q hq hlive).2 (e ▸ hb)
  have C1 := C.write (w' := { w with heap := w.heap.setIfInBounds (gs q).blk (.map (es.modify j fun e => { e with val := a.eval y }) M.clock) }) hq hlive (.map kk (M.setB (s : Int) va)) (fun h => h.elim) (fun b hb => set_ne hb) (by simp) rfl rfl rfl ⟨_, set_at hlt, hr.mono (fun _ h => h) hP⟩
  refine wp_unit ?_ (hK _ _ hN _ _ _ _ (C1.put d (.any _)))
  simp [execOp, hv, hI.int, Instr.entryStore, MapKept.run_getObj_map hb, hfind, MapKept.run_setObj_map _ hb, asInt, asIntOf]
theorem S_mdel {ts : Array TypeId} {t0 k e : TypeId} {kt : IntKind} {x i : Operand} {x' i' : Opd} (h0 : ts[0]? = some t0) (hu : P.underlying t0 = some (.map k e)) (hk : P.underlying k = some (.int kt)) (hx : cOpd x = some x') (hi : cOpd i = some i')
    (hN : NodeOK P rs post (opN NK d (.mdel kt x' i') rest tm hs)) : Oper.wp P ⟨d, .call { callee := .builtin .delete, args := [x, i].toArray, argTypes := ts }, ty, pos, af, g⟩ a w K Q := by
  have hX := C.opd hx
  have hI := C.opd hi
  have hun : Cz gs (dom hs) Pr w (.tup []) (.tuple #[]) := .tup [] #[] rfl (fun j a v e => by simp at e)
  simp only [opN] at hN
  split at hN
  · rename_i e1
    rw [e1] at hX
    split at hN
    case h_2 => exact hN.elim
    rename_i j n e2
    rw [e2] at hI
    have q1 := sameK_ok hN
    clear hN
    obtain ⟨q2, hN⟩ := q1
    subst q2
    have h1 : (Instr.checkKey true 10000 k (.int kt n)).run P w = .ok () w := MapKept.run_checkKey hk (show MapKept.IsKey (.int kt) (.int kt n) from rfl) true 9999
    refine fin_ hK C (v := .tuple #[]) (run_builtin (l := [x, i]) ?_) hun hN
    simp [builtin, Builtin.delete_, h0, hX.nilm, hI.int, run_un hu, h1]
  · rename_i q e1
    rw [e1] at hX
    obtain ⟨hv, hq⟩ := hX.mp_
    split at hN
    case h_2 => exact hN.elim
    rename_i kk M hM
    split at hN
    case h_2 => exact hN.elim
    rename_i j n e2
    rw [e2] at hI
    have q1 := sameK_ok hN
    clear hN
    obtain ⟨q2, q3⟩ := q1
    have q4 := sameK_ok q3
    clear q3
    obtain ⟨q5, hN⟩ := q4
    subst q5; subst q2
    obtain ⟨es, hb, hrel⟩ := mp_obj hK C hq hM
    have hlt : (gs q).blk < w.heap.size := (Array.getElem?_eq_some_iff.1 hb).1
    have hlive : live (gs q) (getO hs q) := by rw [hM]; trivial
    have h1 : (Instr.checkKey es.isEmpty 10000 k (.int kt n)).run P w = .ok () w := MapKept.run_checkKey hk (show MapKept.IsKey (.int kt) (.int kt n) from rfl) es.isEmpty 9999
    have he : (M.del n).es = M.es.filter fun e => !(e.2.1 == n) := rfl
    have fin : ∀ (es' : Array MapEntry), MRel Pr w kt (M.del n).es es'.toList → (Builtin.delete_ ts ty #[.map (some (gs q).blk), .int kt n]).run P w = .ok (.tuple #[]) { w with heap := w.heap.setIfInBounds (gs q).blk (.map es' M.clock) } →
        Oper.wp P ⟨d, .call { callee := .builtin .delete, args := [x, i].toArray, argTypes := ts }, ty, pos, af, g⟩ a w K Q := by
      intro es' hr hrun
      have hP : ∀ b, Pr b → ({ w with heap := w.heap.setIfInBounds (gs q).blk (.map es' M.clock) } : World).heap[b]? = w.heap[b]? := fun b hb => set_ne fun e => (C.rep.mine q hq hlive).2 (e ▸ hb)
      have C1 := C.write (w' := { w with heap := w.heap.setIfInBounds (gs q).blk (.map es' M.clock) }) hq hlive (.map kt (M.del n)) (fun h => h.elim) (fun b hb => set_ne hb) (by simp) rfl rfl rfl ⟨es', set_at hlt, hr.mono (fun _ h => h) hP⟩
      refine wp_val (v := .tuple #[]) (run_builtin (l := [x, i]) ?_) (hK _ _ hN _ _ _ _ (C1.put d (.tup [] #[] rfl (fun j a v e => by simp at e))))
      simp [builtin, hv, hI.int, hrun]
    rcases hrel.find n with ⟨g1, g2, g3⟩ | ⟨j, b, av, e0, g1, g2, g3, g4, g5, g6, g7⟩
    · have hf : (M.es.filter fun e => !(e.2.1 == n)) = M.es := List.filter_eq_self.2 fun e hm => by simpa using Mp.look_none.1 g1 e hm
      refine fin es (by rw [he, hf]; exact hrel) ?_
      have h2 := MapKept.run_findKey (w := w) hk g2
      simp [Builtin.delete_, h0, run_un hu, MapKept.run_getObj_map hb, h1, h2, MapKept.run_setObj_map _ hb]
    · have hjl : j < M.es.length := (List.getElem?_eq_some_iff.1 g2).1
      have hjs : j < es.size := by have := (List.getElem?_eq_some_iff.1 g3).1; simpa using this
      have hf : (M.es.filter fun e => !(e.2.1 == n)) = M.es.eraseIdx j := ChangeMaps.filter_eq_eraseIdx (fun e => e.2.1 == n) M.es j _ g2 (by simp) (by
        refine (List.pairwise_map.1 (List.nodup_iff_pairwise_ne.1 M.kd)).imp fun {p q} hne hb => hne ?_
        simp at hb
        rw [hb.1, hb.2])
      have hsub : (es.eraseIdxIfInBounds j).toList = es.toList.eraseIdx j := by
        unfold Array.eraseIdxIfInBounds
        rw [dif_pos hjs]
        simp
      refine fin (es.eraseIdxIfInBounds j) ⟨by rw [he, hf, hsub, List.length_eraseIdx, List.length_eraseIdx, hrel.1], fun i b' m v e f1 f2 => ?_⟩ ?_
      · rw [he, hf, List.getElem?_eraseIdx] at f1
        rw [hsub, List.getElem?_eraseIdx] at f2
        split at f1
        · rename_i hlt; rw [if_pos hlt] at f2; exact hrel.2 _ _ _ _ _ f1 f2
        · rename_i hlt; rw [if_neg hlt] at f2; exact hrel.2 _ _ _ _ _ f1 f2
      · have h2 := MapKept.run_findKey (w := w) hk g7
        simp [Builtin.delete_, h0, run_un hu, MapKept.run_getObj_map hb, h1, h2, MapKept.run_setObj_map _ hb]
  · exact hN.elim
theorem S_lenM {x : Operand} {x' : Opd} {ts : Array TypeId} {t0 k e : TypeId} (ht : ts[0]? = some t0) (hu : P.underlying t0 = some (.map k e)) (hx : cOpd x = some x') (hN : NodeOK P rs post (opN NK d (.lenM x') rest tm hs)) :
    Oper.wp P ⟨d, .call { callee := .builtin .len, args := #[x], argTypes := ts }, ty, pos, af, g⟩ a w K Q := by
  have hX := C.opd hx
  simp only [opN] at hN
  split at hN
  · rename_i e1
    rw [e1] at hX
    refine fin_ hK C (v := .int .i64 0) (run_builtin (l := [x]) ?_) (.lf (.int _ _)) hN
    simp [builtin, Builtin.len_, ht, hX.nilm, run_un hu, goInt]
  · rename_i q e1
    rw [e1] at hX
    obtain ⟨hv, hq⟩ := hX.mp_
    split at hN
    case h_2 => exact hN.elim
    rename_i kk M hM
    obtain ⟨es, hb, hrel⟩ := mp_obj hK C hq hM
    refine fin_ hK C (v := .int .i64 es.size) (run_builtin (l := [x]) ?_) (by rw [show M.es.length = es.size by simpa using hrel.1]; exact .lf (.int _ _)) hN
    simp [builtin, Builtin.len_, ht, hv, run_un hu, goInt, MapKept.run_getObj_map hb]
  · exact hN.elim
theorem S_mrange {t k e : TypeId} {x : Operand} {x' : Opd} (hu : P.underlying t = some (.map k e)) (hx : cOpd x = some x') (hN : NodeOK P rs post (opN NK d (.mrange x') rest tm hs)) : Oper.wp P ⟨d, .range t x, ty, pos, af, g⟩ a w K Q := by
  have hX := C.opd hx
  simp only [opN] at hN
  split at hN
  case h_2 => exact hN.elim
  rename_i q e1
  rw [e1] at hX
  obtain ⟨hv, hq⟩ := hX.mp_
  split at hN
  case h_2 => exact hN.elim
  rename_i kk M hM
  obtain ⟨es, hb, hrel⟩ := mp_obj hK C hq hM
  have C1 := C.alloc (w' := w.alloc (.mapIter (some (gs q).blk) M.clock #[] M.clock)) ⟨w.heap.size, .nilFunc⟩ (.iter (.mp q) M.clock []) (fun _ => rfl) (fun b hb => heap_push hb) (by simp) rfl rfl rfl
    ⟨(gs q).blk, heap_new, by
      have := Cz.mp (gs := upd gs (lenO hs) ⟨w.heap.size, .nilFunc⟩) (D := dom (snocO hs (.iter (.mp q) M.clock []))) (Pr := Pr) (w := w.alloc (.mapIter (some (gs q).blk) M.clock #[] M.clock)) q (by rw [dom_snoc]; exact .inl hq)
      rwa [upd_ne _ _ (fun e => by rw [e] at hq; exact Nat.lt_irrefl _ hq)] at this⟩
  have hp := Cz.ptr (gs := upd gs (lenO hs) ⟨w.heap.size, .nilFunc⟩) (D := dom (snocO hs (.iter (.mp q) M.clock []))) (Pr := Pr) (w := w.alloc (.mapIter (some (gs q).blk) M.clock #[] M.clock)) (lenO hs) 0 (by rw [dom_snoc]; exact .inr rfl)
  rw [upd_self] at hp
  refine wp_val ?_ (hK _ _ hN _ _ _ _ (C1.put d hp))
  simp [execOp, Instr.range, hv, run_un hu, MapKept.run_getObj_map hb, newObj]
  rfl
include hR
theorem S_mnext {x : Operand} {x' : Opd} (hx : cOpd x = some x') (hN : NodeOK P rs post (opN NK d (.mnext x') rest tm hs)) : Oper.wp P ⟨d, .next x false, ty, pos, af, g⟩ a w K Q := by
  have hX := C.opd hx
  simp only [opN] at hN
  split at hN
  case h_2 => exact hN.elim
  rename_i k e1
  rw [e1] at hX
  obtain ⟨hv, hk⟩ := hX.ptr_
  split at hN
  case h_2 => exact hN.elim
  rename_i m c seen hI
  split at hN
  case h_2 => exact hN.elim
  rename_i kk M hM
  have hoI : ObjOK gs (dom hs) Pr w (gs k) (.iter (.mp m) c seen) := C.obj hk hI
  obtain ⟨b, hr, hz⟩ := hoI
  obtain ⟨hbm, hm⟩ := hz.mp_
  injection hbm with hbm
  injection hbm with hbm
  subst hbm
  obtain ⟨es, hb, hrel⟩ := mp_obj hK C hm hM
  obtain ⟨hcl, hS, hN⟩ := hN
  subst hcl
  have hborn : ∀ x ∈ es.toList, x.born < M.clock := by
    intro x hx
    obtain ⟨i, hi⟩ := List.getElem?_of_mem hx
    have hlt := (List.getElem?_eq_some_iff.1 hi).1
    obtain ⟨⟨b, n, v⟩, hl⟩ : ∃ e, M.es[i]? = some e := ⟨M.es[i]'(by rw [hrel.1]; exact hlt), List.getElem?_eq_getElem _⟩
    have := (hrel.2 i b n v x hl hi).1
    have h2 := M.lt _ (List.mem_of_getElem? hl)
    rw [this]; exact h2
  have hlive : live (gs k) (getO hs k) := by rw [hI]; trivial
  have hblk : (gs k).blk < w.heap.size := (Array.getElem?_eq_some_iff.1 hr).1
  rcases run_next_at (P := P) w ty (gs k).blk (gs m).blk M.clock M.clock seen.toArray es M.clock hr hb hborn (Nat.le_refl _) with ⟨h1, h2⟩ | ⟨e, he, w1, hw1, h2⟩
  · refine finR_ hR C (v := .tuple #[.bool false]) ?_ (.tup _ _ rfl fun j p q e1 e2 => ?_) (hN fun e he => ?_)
    · simp only [execOp, hv, Sem.run_bind, Sem.run_pure]
      have h2' : (Instr.next (Value.pointer (some (at_ (gs k).blk 0))) false ty).run P w = .ok (.tuple #[.bool false]) w := h2
      rw [h2']; rfl
    · match j, e1, e2 with
      | 0, e1, e2 => simp at e1 e2; subst e1; subst e2; exact .lf .ff
    · obtain ⟨i, hi⟩ := List.getElem?_of_mem he
      have hlt := (List.getElem?_eq_some_iff.1 hi).1
      obtain ⟨x, hx⟩ : ∃ x, es.toList[i]? = some x := ⟨es.toList[i]'(by rw [← hrel.1]; exact hlt), List.getElem?_eq_getElem _⟩
      have hb' := (hrel.2 i e.1 e.2.1 e.2.2 x hi hx).1
      have hz : (leftOf es seen.toArray).toList = [] := List.eq_nil_of_length_eq_zero (by simpa using h1)
      unfold leftOf at hz
      rw [Array.toList_filter, List.filter_eq_nil_iff] at hz
      have := hz x (List.mem_of_getElem? hx)
      simp at this
      rw [← hb']; exact this
  · unfold leftOf at he
    rw [Array.toList_filter, List.mem_filter] at he
    obtain ⟨he1, he2⟩ := he
    obtain ⟨i, hi⟩ := List.getElem?_of_mem he1
    have hlt := (List.getElem?_eq_some_iff.1 hi).1
    obtain ⟨⟨b, n, v⟩, hl⟩ : ∃ e, M.es[i]? = some e := ⟨M.es[i]'(by rw [hrel.1]; exact hlt), List.getElem?_eq_getElem _⟩
    obtain ⟨f1, f2, f3⟩ := hrel.2 i b n v e hl hi
    have hnot : b ∉ seen := by simp at he2; rw [← f1]; exact he2
    have A := hS (b, n, v) (List.mem_of_getElem? hl) hnot
    have hheap : w1.heap = w.heap := by rcases hw1 with rfl | rfl <;> rfl
    have hos : w1.os = w.os ∧ w1.tape = w.tape ∧ w1.output = w.output := by rcases hw1 with rfl | rfl <;> exact ⟨rfl, rfl, rfl⟩
    have hget : ∀ b, b ≠ (gs k).blk → (ChangeMaps.setBlock w1 (gs k).blk (.mapIter (some (gs m).blk) M.clock (seen.toArray.push e.born) M.clock)).heap[b]? = w.heap[b]? := by
      intro b hb
      simp only [ChangeMaps.setBlock, hheap]
      exact set_ne (w := w) hb
    have hP : ∀ b, Pr b → (ChangeMaps.setBlock w1 (gs k).blk (.mapIter (some (gs m).blk) M.clock (seen.toArray.push e.born) M.clock)).heap[b]? = w.heap[b]? := fun b hb => hget b fun e => (C.rep.mine k hk hlive).2 (e ▸ hb)
    have C1 := C.write (w' := ChangeMaps.setBlock w1 (gs k).blk (.mapIter (some (gs m).blk) M.clock (seen.toArray.push e.born) M.clock)) hk hlive (.iter (.mp m) M.clock (seen ++ [b])) (fun h => h.elim) hget (by simp [ChangeMaps.setBlock, hheap]) hos.1 hos.2.1 hos.2.2
      ⟨(gs m).blk, by
        simp only [ChangeMaps.setBlock, hheap]
        rw [Array.getElem?_setIfInBounds_self_of_lt hblk, f1]
        simp, .mp m hm⟩
    refine wp_val (v := .tuple #[.bool true, e.key, e.val]) ?_ (hR _ _ A _ _ _ _ (C1.put d (.tup _ _ rfl fun j p q e1 e2 => ?_)))
    · simp only [execOp, hv, Sem.run_bind, Sem.run_pure]
      have h2' : (Instr.next (Value.pointer (some (at_ (gs k).blk 0))) false ty).run P w = .ok (.tuple #[.bool true, e.key, e.val]) (ChangeMaps.setBlock w1 (gs k).blk (.mapIter (some (gs m).blk) M.clock (seen.toArray.push e.born) M.clock)) := h2
      rw [h2']; rfl
    · match j, e1, e2 with
      | 0, e1, e2 => simp at e1 e2; subst e1; subst e2; exact .lf .tt
      | 1, e1, e2 => simp at e1 e2; subst e1; subst e2; rw [f2]; exact .lf (.int _ _)
      | 2, e1, e2 => simp at e1 e2; subst e1; subst e2; exact .lf (f3.mono (fun _ h => h) hP)
theorem S_mentry {x : Operand} {x' : Opd} (hx : cOpd x = some x') (hN : NodeOK P rs post (opN NK d (.mentry x') rest tm hs)) : Oper.wp P ⟨d, .entry x, ty, pos, af, g⟩ a w K Q := by
  have hX := C.opd hx
  simp only [opN] at hN
  split at hN
  case h_2 => exact hN.elim
  rename_i k e1
  rw [e1] at hX
  obtain ⟨hv, hk⟩ := hX.ptr_
  split at hN
  case h_2 => exact hN.elim
  rename_i m c seen hI
  split at hN
  case h_2 => exact hN.elim
  rename_i kk M hM
  have hoI : ObjOK gs (dom hs) Pr w (gs k) (.iter (.mp m) c seen) := C.obj hk hI
  obtain ⟨b, hr, hz⟩ := hoI
  obtain ⟨hbm, hm⟩ := hz.mp_
  injection hbm with hbm
  injection hbm with hbm
  subst hbm
  obtain ⟨es, hb, hrel⟩ := mp_obj hK C hm hM
  obtain ⟨hcl, ⟨bb, n, v⟩, he, r, hseen, hN⟩ := hN
  subst hcl
  obtain ⟨i, hi⟩ := List.getElem?_of_mem he
  have hlt := (List.getElem?_eq_some_iff.1 hi).1
  obtain ⟨x, hxx⟩ : ∃ x, es.toList[i]? = some x := ⟨es.toList[i]'(by rw [← hrel.1]; exact hlt), List.getElem?_eq_getElem _⟩
  obtain ⟨f1, f2, f3⟩ := hrel.2 i _ _ _ x hi hxx
  have hnd : (es.toList.map (·.born)).Nodup := by
    have : es.toList.map (·.born) = M.es.map (·.1) := by
      refine List.ext_getElem? fun i => ?_
      rw [List.getElem?_map, List.getElem?_map]
      by_cases hi : i < M.es.length
      · obtain ⟨⟨b, n, v⟩, hl⟩ : ∃ e, M.es[i]? = some e := ⟨M.es[i]'hi, List.getElem?_eq_getElem _⟩
        obtain ⟨y, hy⟩ : ∃ x, es.toList[i]? = some x := ⟨es.toList[i]'(by rw [← hrel.1]; exact hi), List.getElem?_eq_getElem _⟩
        rw [hl, hy]
        simp [(hrel.2 i b n v y hl hy).1]
      · rw [List.getElem?_eq_none (l := es.toList) (by rw [← hrel.1]; omega), List.getElem?_eq_none (l := M.es) (by omega)]; rfl
    rw [this]; exact M.nd
  have hr' : w.heap[(gs k).blk]? = some (.mapIter (some (gs m).blk) M.clock (r.toArray.push x.born) M.clock) := by
    rw [hr, hseen, f1]; simp
  have h2 := run_entry_at (P := P) w (gs k).blk (gs m).blk M.clock r.toArray es M.clock x hr' hb (List.mem_of_getElem? hxx) hnd
  refine finR_ hR C (v := .tuple #[x.key, x.val]) ?_ (.tup _ _ rfl fun j p q e1 e2 => ?_) hN
  · simp only [execOp, hv, Sem.run_bind, Sem.run_pure]
    have h2' : (Instr.entry (Value.pointer (some (at_ (gs k).blk 0)))).run P w = .ok (.tuple #[x.key, x.val]) w := h2
    rw [h2']; rfl
  · match j, e1, e2 with
    | 0, e1, e2 => simp at e1 e2; subst e1; subst e2; rw [f2]; exact .lf (.int _ _)
    | 1, e1, e2 => simp at e1 e2; subst e1; subst e2; exact .lf f3
end
end Go.Proofs.YtlnafekmiidpkaaDoor.S
