/- Loads, elements, pieces, lengths. -/
import Derived.Test.YtlnafekmiidpkaaDoorS6
namespace Go.Proofs.YtlnafekmiidpkaaDoor.S
set_option linter.all false
set_option linter.unusedVariables false
set_option linter.unusedSimpArgs false
section
variable {P : Program} {rs : List ARes} {post : AV → List AObj → Prop} {E : Env} {NK : List AV → List AObj → Node} {K : Act → World → Prop} {rest : List AItem} {Q : Exit → Act → World → Prop}
  {gs : Nat → Gh} {Pr : Nat → Prop} {tm : List AV} {hs : List AObj} {a : Act} {w : World} {d : Option Nat} {ty : TypeId} {pos : String} {af : Array Edge} {g : Option (Nat × Bool)} {op : AOp}
/-- A variable is read out of cells that are known. -/
theorem run_loadPart {t : TypeId} {ag : Bool} {n b o off : Nat} {vs : List Value} {r : Value} (ha : aggT P t = some ag) (hn : szT P t = some n) (hm : ∀ (j : Nat) v, vs[j]? = some v → w.cell? (at_ b (o + j)) = some v)
    (hr : ag = true ∧ off + n ≤ vs.length ∧ r = .agg ((vs.drop off).take n).toArray ∨ ag = false ∧ vs[off]? = some r) : (loadVar t (at_ b (o + off))).run P w = .ok r w := by
  rcases hr with ⟨rfl, hle, rfl⟩ | ⟨rfl, hr⟩
  · refine run_loadAgg ha hn (by simp; omega) (fun j v hj => ?_)
    rw [List.getElem?_take, List.getElem?_drop] at hj
    split at hj
    · rw [Nat.add_assoc]; exact hm _ _ hj
    · cases hj
  · exact run_load1 ha (hm _ _ hr)
theorem run_loadPart0 {t : TypeId} {ag : Bool} {n b off : Nat} {vs : List Value} {r : Value} (ha : aggT P t = some ag) (hn : szT P t = some n) (hm : ∀ (j : Nat) v, vs[j]? = some v → w.cell? (at_ b j) = some v)
    (hr : ag = true ∧ off + n ≤ vs.length ∧ r = .agg ((vs.drop off).take n).toArray ∨ ag = false ∧ vs[off]? = some r) : (loadVar t (at_ b off)).run P w = .ok r w := by
  have := run_loadPart (o := 0) ha hn (fun j v hj => by rw [Nat.zero_add]; exact hm j v hj) hr
  rwa [Nat.zero_add] at this
theorem blk_cells {b t : Nat} {R : Array Value → Prop} (h : Blk w b t R) : ∃ c : Array Value, (∀ (j : Nat) v, c.toList[j]? = some v → w.cell? (at_ b j) = some v) ∧ (∀ v ∈ c.toList, v.oneCell' = true) ∧ R c := by
  obtain ⟨c, fr, h1, h2, h3, h4⟩ := h
  exact ⟨c, fun j v hj => by rw [cell_at h1]; simpa using hj, h3, h4⟩
variable (hK : Next P rs post E (fun tm hs => NodeOK P rs post (NK tm hs)) K) (hR : Next P rs post E (fun tm hs => AW P rs rest tm hs post) K) (C : Conc E gs Pr tm hs a w)
include hK hR C
theorem S_ld {t : TypeId} {x : Operand} (hc : cOp P (.load t x) = some op) (hN : NodeOK P rs post (opN NK d op rest tm hs)) : Oper.wp P ⟨d, .load t x, ty, pos, af, g⟩ a w K Q := by
  simp only [cOp, Option.bind_eq_bind, Option.bind_eq_some_iff, Option.pure_def, Option.some.injEq] at hc
  obtain ⟨n, hn, ag, hag, y, hy, rfl⟩ := hc
  have h := C.opd hy
  have run : ∀ {b o : Nat} {r : Value}, a.eval x = .pointer (some (at_ b o)) → (loadVar t (at_ b o)).run P w = .ok r w → (execOp a.eval ⟨d, .load t x, ty, pos, af, g⟩).run P w = .ok (.value r) w := by
    intro b o r e hr
    simp only [execOp, Instr.loadAt, Instr.sureAddr, e, Sem.run_bind, Sem.run_pure, Result.andThen_ok, hr]
  have fin : ∀ {b o : Nat} {r : Value} {z : AV}, a.eval x = .pointer (some (at_ b o)) → (loadVar t (at_ b o)).run P w = .ok r w → Cz gs (dom hs) Pr w z r → NodeOK P rs post (NK (putL tm d z) hs) → Oper.wp P ⟨d, .load t x, ty, pos, af, g⟩ a w K Q := by
    intro b o r z e hr hz hN
    exact wp_val (run e hr) (hK _ _ hN _ _ _ _ (C.put d hz))
  have finR : ∀ {b o : Nat} {r : Value} {z : AV}, a.eval x = .pointer (some (at_ b o)) → (loadVar t (at_ b o)).run P w = .ok r w → Cz gs (dom hs) Pr w z r → AW P rs rest (putL tm d z) hs post → Oper.wp P ⟨d, .load t x, ty, pos, af, g⟩ a w K Q := by
    intro b o r z e hr hz hN
    exact wp_val (run e hr) (hR _ _ hN _ _ _ _ (C.put d hz))
  simp only [opN] at hN
  split at hN
  · rename_i k off e
    rw [e] at h
    obtain ⟨e1, hk⟩ := h.ptr_
    split at hN
    · rename_i t' cs ho
      obtain ⟨c, hm, hoc, hsz, hv⟩ := blk_cells (C.obj hk ho)
      rcases partA_ok (vs := c.toList) (by simpa using hsz) (fun j a v h1 h2 => hv j a v h1 (by simpa using h2)) hoc hN with ⟨rfl, hle, x', hz, hN⟩ | ⟨rfl, v, hv, x', hz, hN⟩
      · exact fin e1 (run_loadPart0 hag hn hm (.inl ⟨rfl, by simp; omega, rfl⟩)) (.lf hz) hN
      · exact fin e1 (run_loadPart0 hag hn hm (.inr ⟨rfl, hv⟩)) (.lf hz) hN
    · rename_i t' cs ho
      obtain ⟨c, hm, hoc, hsz, hv⟩ := blk_cells (C.obj hk ho)
      rcases part_ok (vs := c.toList) (by simpa using hsz) (fun j a v h1 h2 => hv j a v h1 (by simpa using h2)) hoc hN with ⟨rfl, hle, x', hz, hN⟩ | ⟨rfl, v, hv, x', hz, hN⟩
      · exact fin e1 (run_loadPart0 hag hn hm (.inl ⟨rfl, by simp; omega, rfl⟩)) hz hN
      · exact fin e1 (run_loadPart0 hag hn hm (.inr ⟨rfl, hv⟩)) hz hN
    · exact hN.elim
  · rename_i k off e
    rw [e] at h
    obtain ⟨e1, hk⟩ := h.ptrS_
    split at hN
    · rename_i t' cs ho
      obtain ⟨c, hm, hoc, hsz, hv⟩ := blk_cells (C.obj hk ho)
      cases ag with
      | true =>
        obtain ⟨hle, hN⟩ := hN
        have hA : NodeOK P rs post (partA cs off n true fun v => NK (putL tm d v) hs) := by
          refine ⟨hle, ?_⟩
          rw [segL_eq]; exact hN
        rcases partA_ok (vs := c.toList) (by simpa using hsz) (fun j a v h1 h2 => hv j a v h1 (by simpa using h2)) hoc hA with ⟨_, hle, x', hz, hN⟩ | ⟨hf, _⟩
        · exact fin e1 (run_loadPart0 hag hn hm (.inl ⟨rfl, by simp; omega, rfl⟩)) (.lf hz) hN
        · cases hf
      | false =>
        obtain ⟨x', hx', hN⟩ := hN
        have hlt : off < c.size := by rw [hsz]; exact (List.getElem?_eq_some_iff.1 hx').1
        refine finR e1 (r := c[off]) (run_loadPart0 hag hn hm (.inr ⟨rfl, by simpa using hlt⟩)) (.lf (hv off _ _ hx' (Array.getElem?_eq_getElem hlt))) hN
    · rename_i t' cs ho
      obtain ⟨c, hm, hoc, hsz, hv⟩ := blk_cells (C.obj hk ho)
      rcases part_ok (vs := c.toList) (by simpa using hsz) (fun j a v h1 h2 => hv j a v h1 (by simpa using h2)) hoc hN with ⟨rfl, hle, x', hz, hN⟩ | ⟨rfl, v, hv, x', hz, hN⟩
      · exact fin e1 (run_loadPart0 hag hn hm (.inl ⟨rfl, by simp; omega, rfl⟩)) hz hN
      · exact fin e1 (run_loadPart0 hag hn hm (.inr ⟨rfl, hv⟩)) hz hN
    · exact hN.elim
  · rename_i c off e
    rw [e] at h
    obtain ⟨b, o, e1, hp, hv⟩ := rp_ h
    have hl : ∃ vs : List Value, vs.length = c.length ∧ (∀ (j : Nat) v, vs[j]? = some v → w.cell? (at_ b (o + j)) = some v) ∧ (∀ (j : Nat) a v, c[j]? = some a → vs[j]? = some v → Cz gs (dom hs) Pr w a v) ∧ ∀ v ∈ vs, v.oneCell' = true := by
      have key : ∀ j, j < c.length → ∃ v, w.cell? (at_ b (o + j)) = some v ∧ v.oneCell' = true ∧ ∀ a, c[j]? = some a → Lf Pr w a v := by
        intro j hj
        obtain ⟨v, h1, h2, h3⟩ := hv j _ (List.getElem?_eq_getElem hj)
        exact ⟨v, h1, h2, fun a ha => by rw [List.getElem?_eq_getElem hj] at ha; injection ha with ha; rw [← ha]; exact h3⟩
      have hget : ∀ (j : Nat) v, ((List.range c.length).map fun j => (w.cell? (at_ b (o + j))).getD undef)[j]? = some v → j < c.length ∧ w.cell? (at_ b (o + j)) = some v := by
        intro j v hj
        have hlt : j < c.length := by have := (List.getElem?_eq_some_iff.1 hj).1; simpa using this
        obtain ⟨u, h1, _⟩ := key j hlt
        simp [hlt, h1] at hj
        exact ⟨hlt, by rw [h1, hj]⟩
      refine ⟨(List.range c.length).map fun j => (w.cell? (at_ b (o + j))).getD undef, by simp, fun j v hj => (hget j v hj).2, fun j a v ha hj => ?_, fun v hv' => ?_⟩
      · obtain ⟨hlt, h1⟩ := hget j v hj
        obtain ⟨u, h2, _, h3⟩ := key j hlt
        rw [h1] at h2
        injection h2 with h2
        rw [h2]
        exact .lf (h3 a ha)
      · obtain ⟨j, hj⟩ := List.getElem?_of_mem hv'
        obtain ⟨hlt, h1⟩ := hget j v hj
        obtain ⟨u, h2, h3, _⟩ := key j hlt
        rw [h1] at h2
        injection h2 with h2
        rw [h2]; exact h3
    obtain ⟨vs, hn', hm, hpt, hoc⟩ := hl
    rcases part_ok hn' hpt hoc hN with ⟨rfl, hle, x', hz, hN⟩ | ⟨rfl, v, hv, x', hz, hN⟩
    · exact fin e1 (run_loadPart hag hn hm (.inl ⟨rfl, by omega, rfl⟩)) hz hN
    · exact fin e1 (run_loadPart hag hn hm (.inr ⟨rfl, hv⟩)) hz hN
  · rename_i k sz i off e
    rw [e] at h
    obtain ⟨e1, hk⟩ := h.gp_
    split at hN
    case h_2 => exact hN.elim
    rename_i t' z xs ho
    split at hN
    case h_2 => exact hN.elim
    rename_i hz
    obtain rfl := Nat.eq_of_beq_eq_true hz
    obtain ⟨row, hrow, hN⟩ := hN
    obtain ⟨h0, h1, h2⟩ := C.objG hk ho
    rcases h2 with ⟨rfl, _⟩ | ⟨cap, hhd, hcap, hb⟩
    · simp at hrow
    obtain ⟨c, hm, hoc, hsz, hv⟩ := blk_cells hb
    have hrl : row.length = z := h1 row (List.mem_of_getElem? hrow)
    have hil : i < xs.length := (List.getElem?_eq_some_iff.1 hrow).1
    have hcs : i * z + z ≤ c.size := by
      rw [hsz]
      have : (i + 1) * z ≤ cap * z := Nat.mul_le_mul_right _ (by omega)
      rw [Nat.add_mul] at this; omega
    have hlen : ((c.toList.drop (i * z)).take z).length = row.length := by simp; omega
    have hm' : ∀ (j : Nat) v, ((c.toList.drop (i * z)).take z)[j]? = some v → w.cell? (at_ (gs k).blk (i * z + j)) = some v := by
      intro j v hj
      rw [List.getElem?_take, List.getElem?_drop] at hj
      split at hj
      · exact hm _ _ hj
      · cases hj
    have hpt : ∀ (j : Nat) a v, row[j]? = some a → ((c.toList.drop (i * z)).take z)[j]? = some v → Cz gs (dom hs) Pr w a v := by
      intro j a v ha hj
      rw [List.getElem?_take, List.getElem?_drop] at hj
      split at hj
      · exact .lf (hv i row j a v hrow ha (by simpa using hj))
      · cases hj
    have hoc' : ∀ v ∈ (c.toList.drop (i * z)).take z, v.oneCell' = true := fun v hv => hoc v (List.mem_of_mem_drop (List.mem_of_mem_take hv))
    obtain ⟨hN1, hN2⟩ := hN
    cases ag with
    | true =>
      obtain ⟨hf, hN⟩ := hN1 rfl
      have hle := fits_le hf
      have hNN : NodeOK P [] (fun v _ => v = mkAgg (flatT P 12 t) (segL row off n)) (partN (flatT P 12 t) row off n true fun v => .ret v []) := by
        simp only [partN, hf]; rfl
      rcases part_ok hlen hpt hoc' hNN with ⟨_, hle, x', hz, hN'⟩ | ⟨hf, _⟩
      · have hN' : x' = _ := hN'
        subst hN'
        exact finR e1 (run_loadPart hag hn hm' (.inl ⟨rfl, by omega, rfl⟩)) hz hN
      · cases hf
    | false =>
      obtain ⟨hf, hN⟩ := hN2 rfl
      have hle := fits_le hf
      have hNN : NodeOK P [] (fun v _ => v = getL row off) (partN (flatT P 12 t) row off n false fun v => .ret v []) := by
        simp only [partN, hf]; rfl
      rcases part_ok hlen hpt hoc' hNN with ⟨hf, _⟩ | ⟨_, v, hv, x', hz, hN'⟩
      · cases hf
      · have hN' : x' = _ := hN'
        subst hN'
        exact finR e1 (run_loadPart hag hn hm' (.inr ⟨rfl, hv⟩)) hz hN
  · exact hN.elim
end
end Go.Proofs.YtlnafekmiidpkaaDoor.S
