/- Structs, arrays and slices that are built. -/
import Derived.Test.YtlnafekmiidpkaaDoorS11
import Derived.Great.FillDense
namespace Go.Proofs.YtlnafekmiidpkaaDoor.S
set_option linter.all false
set_option linter.unusedVariables false
set_option linter.unusedSimpArgs false
theorem mapM_get {α β : Type} {f : α → Option β} : ∀ {l : List α} {r : List β}, l.mapM f = some r → ∀ i : Nat, r[i]? = (l[i]?).bind f
  | [], r, h, i => by simp at h; subst h; simp
  | x :: l, r, h, i => by
    simp only [List.mapM_cons, Option.bind_eq_bind, Option.bind_eq_some_iff, Option.pure_def, Option.some.injEq] at h
    obtain ⟨y, h1, m, h2, rfl⟩ := h
    cases i with
    | zero => simp [h1]
    | succ i => simpa using mapM_get h2 i
theorem zeroT_ok {P : Program} {t : TypeId} {z : List AV} (h : zeroT P t = some z) : ∃ i v, P.info? t = some i ∧ i.zero = some v ∧ z = v.cells.toList.map ofV ∧ ∀ u ∈ v.cells.toList, u.oneCell' = true := by
  unfold zeroT at h
  cases hi : P.info? t with
  | none => simp [hi] at h
  | some i =>
    simp only [hi, Option.bind_some] at h
    cases hz : i.zero with
    | none => simp [hz] at h
    | some v =>
      rw [hz] at h
      obtain ⟨h1, h2⟩ := orNo_ok h
      injection h2 with h2
      exact ⟨i, v, rfl, hz, h2.symm, List.all_eq_true.1 h1⟩
theorem orT {b c : Bool} (h : b = false ∨ c = true) (e : b = true) : c = true := by
  rw [e] at h; simpa using h
/-- Cells that a part is put over. -/
theorem fill_step {off : Nat} {us : Array Value} {cur : Array Value} (h : off + us.size ≤ cur.size) : (us.zipIdx.foldl (fun cs (x : Value × Nat) => cs.setIfInBounds (off + x.2) x.1) cur) = (cur.toList.take off ++ us.toList ++ cur.toList.drop (off + us.size)).toArray := by
  have e : us.zipIdx.foldl (fun cs (x : Value × Nat) => cs.setIfInBounds (off + x.2) x.1) cur = (us.toList.zipIdx 0).foldl (fun cs (x : Value × Nat) => cs.setIfInBounds (off + x.2) x.1) cur := by
    rw [← Array.foldl_toList]; simp
  rw [e]
  obtain ⟨g1, g2⟩ := Great.foldl_set off us.toList 0 cur
  apply Array.ext_getElem?
  intro k
  rw [g2 k]
  simp only [Nat.add_zero, Array.length_toList, List.getElem?_toArray]
  have l1 : (cur.toList.take off).length = off := by simp; omega
  by_cases h1 : k < off
  · rw [if_neg (by omega), List.append_assoc, List.getElem?_append_left (by omega), List.getElem?_take, if_pos h1]; simp
  · by_cases h2 : k < off + us.size
    · rw [if_pos (by omega), List.append_assoc, List.getElem?_append_right (by omega), l1, List.getElem?_append_left (by simp; omega)]
    · rw [if_neg (by omega), List.append_assoc, List.getElem?_append_right (by omega), l1, List.getElem?_append_right (by simp; omega), List.getElem?_drop]
      rw [show off + us.size + (k - off - us.toList.length) = k by simp; omega]; simp
section
variable {P : Program} {rs : List ARes} {post : AV → List AObj → Prop} {E : Env} {NK : List AV → List AObj → Node} {K : Act → World → Prop} {rest : List AItem} {Q : Exit → Act → World → Prop}
  {gs : Nat → Gh} {Pr : Nat → Prop} {tm : List AV} {hs : List AObj} {a : Act} {w : World} {d : Option Nat} {ty : TypeId} {pos : String} {af : Array Edge} {g : Option (Nat × Bool)} {op : AOp} {o : Oper}
variable (hK : Next P rs post E (fun tm hs => NodeOK P rs post (NK tm hs)) K) (hR : Next P rs post E (fun tm hs => AW P rs rest tm hs post) K) (C : Conc E gs Pr tm hs a w)
include C
theorem fillN_ok {f : AV → Bool} {R : AV → Value → Prop} {place : Nat → Option (Nat × Nat)} {G : Nat × Operand → Option (Nat × Nat × Opd)} {k : List AV → Node}
    (hG : ∀ p q, G p = some q → place p.1 = some (q.1, q.2.1) ∧ cOpd p.2 = some q.2.2)
    (hf : ∀ x v, Cz gs (dom hs) Pr w x v → f x = true → v.cells.size = (cellsOf x).length ∧ (∀ (j : Nat) a u, (cellsOf x)[j]? = some a → v.cells[j]? = some u → R a u) ∧ ∀ u ∈ v.cells.toList, u.oneCell' = true) :
    ∀ (ps : List (Nat × Operand)) (l : List (Nat × Nat × Opd)) (cs : List AV) (cur : Array Value), ps.mapM G = some l → cur.size = cs.length → (∀ (j : Nat) a v, cs[j]? = some a → cur[j]? = some v → R a v) → (∀ v ∈ cur.toList, v.oneCell' = true) →
      NodeOK P rs post (fillN f tm l cs k) → ∃ cs' cur', Instr.fill place cur (ps.map fun p => (p.1, a.eval p.2)) = some cur' ∧ cur'.size = cs'.length ∧ (∀ (j : Nat) a v, cs'[j]? = some a → cur'[j]? = some v → R a v) ∧ (∀ v ∈ cur'.toList, v.oneCell' = true) ∧ NodeOK P rs post (k cs')
  | [], l, cs, cur, h, h1, h2, h3, hN => by
    simp at h; subst h
    exact ⟨cs, cur, rfl, h1, h2, h3, hN⟩
  | p :: ps, l, cs, cur, h, h1, h2, h3, hN => by
    simp only [List.mapM_cons, Option.bind_eq_bind, Option.bind_eq_some_iff, Option.pure_def, Option.some.injEq] at h
    obtain ⟨⟨off, n, y⟩, hp, m, hm, rfl⟩ := h
    obtain ⟨g1, g2⟩ := hG _ _ hp
    simp only at g1 g2
    have hc := C.opd g2
    have step : (cellsOf (ev tm y)).length = n → off + n ≤ cs.length → f (ev tm y) = true → NodeOK P rs post (fillN f tm m (overL cs off (cellsOf (ev tm y))) k) →
        ∃ cs' cur', Instr.fill place cur ((p :: ps).map fun p => (p.1, a.eval p.2)) = some cur' ∧ cur'.size = cs'.length ∧ (∀ (j : Nat) a v, cs'[j]? = some a → cur'[j]? = some v → R a v) ∧ (∀ v ∈ cur'.toList, v.oneCell' = true) ∧ NodeOK P rs post (k cs') := by
      intro e1 e2 e3 hN
      obtain ⟨f1, f2, f3⟩ := hf _ _ hc e3
      rw [overL_eq _ _ _ (by omega)] at hN
      have hsz : off + (a.eval p.2).cells.size ≤ cur.size := by omega
      have hst := fill_step hsz
      have hl : (a.eval p.2).cells.toList.length = (cellsOf (ev tm y)).length := by simpa using f1
      obtain ⟨cs', cur', r1, r2, r3, r4, r5⟩ := fillN_ok hG hf ps m _ (cur.toList.take off ++ (a.eval p.2).cells.toList ++ cur.toList.drop (off + (a.eval p.2).cells.size)).toArray hm (by simp; omega)
        (fun j b u q1 q2 => pw_over (R := R) (cs := cs) (cur := cur.toList) (us := (a.eval p.2).cells.toList) (by simpa using h1) hl (by omega) (fun j a v f1 f2 => h2 j a v f1 (by simpa using f2)) (fun j a v g1 g2 => f2 j a v g1 (by simpa using g2)) j b u q1 (by simpa using q2))
        (fun u hu => by
          simp only [List.mem_append] at hu
          rcases hu with (hu | hu) | hu
          · exact h3 u (List.mem_of_mem_take hu)
          · exact f3 u hu
          · exact h3 u (List.mem_of_mem_drop hu)) hN
      refine ⟨cs', cur', ?_, r2, r3, r4, r5⟩
      simp only [List.map_cons]
      unfold Instr.fill
      simp only [g1]
      rw [if_neg (by simp; omega), hst]
      exact r1
    simp only [fillN] at hN
    split at hN
    case h_2 => exact hN.elim
    rename_i hfx
    split at hN
    · rename_i vs e
      rw [e] at step
      exact step hN.1.1 hN.1.2 (by rw [← e]; exact hfx) hN.2
    · rename_i vs e
      rw [e] at step
      exact step hN.1.1 hN.1.2 (by rw [← e]; exact hfx) hN.2
    · rename_i v e1 e2
      split at hN
      case h_2 => exact hN.elim
      rename_i hn1
      obtain rfl := Nat.eq_of_beq_eq_true hn1
      split at hN
      case h_2 => exact hN.elim
      rename_i hft
      have hcl : cellsOf (ev tm y) = [ev tm y] := by
        generalize ev tm y = q at e1 e2
        cases q <;> first | rfl | (exact absurd rfl (e1 _)) | (exact absurd rfl (e2 _))
      rw [hcl] at step
      exact step rfl (fits_le hft) hfx hN
include hK
theorem S_build {t : TypeId} {ps : Array (Nat × Operand)} (hc : cOp P (.build t ps) = some op) (hN : NodeOK P rs post (opN NK d op rest tm hs)) : Oper.wp P ⟨d, .build t ps, ty, pos, af, g⟩ a w K Q := by
  simp only [cOp, Option.bind_eq_bind, Option.bind_eq_some_iff] at hc
  obtain ⟨z, hz, hc⟩ := hc
  obtain ⟨it, zv, hit, hzv, rfl, hzo⟩ := zeroT_ok hz
  have zpt : ∀ (j : Nat) a v, (zv.cells.toList.map ofV)[j]? = some a → zv.cells[j]? = some v → a = ofV v := by
    intro j a v e1 e2
    have e2 : zv.cells.toList[j]? = some v := by simpa using e2
    rw [List.getElem?_map, e2] at e1
    injection e1 with e1; exact e1.symm
  have main : ∀ {flat : Bool} {l : List (Nat × Nat × Opd)} {place : Nat → Option (Nat × Nat)} {G : Nat × Operand → Option (Nat × Nat × Opd)}, (∀ p q, G p = some q → place p.1 = some (q.1, q.2.1) ∧ cOpd p.2 = some q.2.2) → ps.toList.mapM G = some l →
      (flat = true → allVal (zv.cells.toList.map ofV) = true) → (∀ cur', Instr.fill place zv.cells (ps.toList.map fun p => (p.1, a.eval p.2)) = some cur' → P.built t (ps.map fun (i, x) => (i, a.eval x)).toList = some cur') →
      NodeOK P rs post (opN NK d (.build flat (zv.cells.toList.map ofV) l) rest tm hs) → Oper.wp P ⟨d, .build t ps, ty, pos, af, g⟩ a w K Q := by
    intro flat l place G hG hl hfl hb hN
    have fin : ∀ (cur' : Array Value) (z : AV), Instr.fill place zv.cells (ps.toList.map fun p => (p.1, a.eval p.2)) = some cur' → Cz gs (dom hs) Pr w z (.agg cur') → NodeOK P rs post (NK (putL tm d z) hs) → Oper.wp P ⟨d, .build t ps, ty, pos, af, g⟩ a w K Q := by
      intro cur' z h1 h2 h3
      exact fin_ hK C (v := .agg cur') (by simp only [execOp, Sem.run_bind, run_build w t _ cur' (hb cur' h1), Result.andThen_ok, Sem.run_pure]) h2 h3
    simp only [opN] at hN
    cases flat with
    | true =>
      obtain ⟨cs', cur', r1, r2, r3, r4, r5⟩ := fillN_ok C (R := Lf Pr w) hG (fun x v h1 h2 => h1.vals h2) ps.toList l _ zv.cells hl (by simp) (fun j b u e1 e2 => by
        have := zpt j b u e1 e2
        subst this
        exact Cz_val (gs := gs) (D := dom hs) (allVal_mem (hfl rfl) _ (List.mem_of_getElem? e1)) (Cz_ofV u)) hzo hN
      exact fin cur' _ r1 (.lf (.arr _ _ r2 r3 r4)) r5
    | false =>
      obtain ⟨cs', cur', r1, r2, r3, r4, r5⟩ := fillN_ok C (R := Cz gs (dom hs) Pr w) hG (fun x v h1 h2 => h1.cells h2) ps.toList l _ zv.cells hl (by simp) (fun j b u e1 e2 => by rw [zpt j b u e1 e2]; exact Cz_ofV u) hzo hN
      exact fin cur' _ r1 (.agg _ _ r2 r3 r4) r5
  have hpl : (ps.map fun (i, x) => (i, a.eval x)).toList = ps.toList.map fun p => (p.1, a.eval p.2) := by simp
  split at hc
  · rename_i fs hu
    simp only [Option.bind_eq_some_iff] at hc
    obtain ⟨l, hl, hc⟩ := hc
    obtain ⟨h1, hc⟩ := orNo_ok hc
    injection hc with hc
    subst hc
    simp only [Bool.and_eq_true, Bool.or_eq_true, Bool.not_eq_true', Option.isSome_iff_exists] at h1
    obtain ⟨⟨places, hpls⟩, h1⟩ := h1
    refine main (place := (places.toArray[·]?)) (G := cPart P fs) (fun p q h => ?_) hl (fun e => orT h1 e) (fun cur' h => ?_) hN
    · unfold cPart at h
      split at h
      case h_2 => cases h
      rename_i f hf
      split at h
      case h_2 => cases h
      rename_i n x hn hx
      injection h with h
      subst h
      refine ⟨?_, hx⟩
      have hg := mapM_get hpls p.1
      obtain ⟨i, hi, hin⟩ := szT_ok hn
      simp only [List.getElem?_toArray]
      rw [hg, Array.getElem?_toList, hf]
      simp [hi, hin]
    · rw [hpl]
      unfold Program.built
      simp only [hit, hu, hzv, hpls]
      exact h
  · rename_i len e hu
    simp only [Option.bind_eq_some_iff] at hc
    obtain ⟨n, hn, l, hl, hc⟩ := hc
    obtain ⟨h1, hc⟩ := orNo_ok hc
    injection hc with hc
    subst hc
    simp only [Bool.or_eq_true, Bool.not_eq_true'] at h1
    obtain ⟨ie, hie, hin⟩ := szT_ok hn
    refine main (place := fun i => some (i * n, n)) (G := cPartA n) (fun p q h => ?_) hl (fun e => orT h1 e) (fun cur' h => ?_) hN
    · unfold cPartA at h
      split at h
      case h_2 => cases h
      rename_i x hx
      injection h with h
      subst h
      exact ⟨rfl, hx⟩
    · rw [hpl]
      unfold Program.built
      simp only [hit, hu, hzv, hie, hin]
      exact h
  · cases hc
end
end Go.Proofs.YtlnafekmiidpkaaDoor.S
