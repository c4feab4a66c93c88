/- copy; texts as bytes. -/
import Derived.Test.YtlnafekmiidpkaaDoorS14
namespace Go.Proofs.YtlnafekmiidpkaaDoor.S
set_option linter.all false
set_option linter.unusedVariables false
set_option linter.unusedSimpArgs false
/-- Rows side by side. -/
theorem flatten_at {z : Nat} : ∀ {ys : List (List AV)}, (∀ row ∈ ys, row.length = z) → ∀ {q : Nat} {b : AV}, ys.flatten[q]? = some b → ∃ row, ys[q / z]? = some row ∧ row[q % z]? = some b ∧ q < ys.length * z
  | [], _, q, b, h => by simp at h
  | r :: ys, hl, q, b, h => by
    have hr := hl r (by simp)
    rw [List.flatten_cons] at h
    by_cases hq : q < z
    · rw [List.getElem?_append_left (by omega)] at h
      rw [Nat.div_eq_of_lt hq, Nat.mod_eq_of_lt hq]
      exact ⟨r, rfl, h, by simp [Nat.add_mul]; omega⟩
    · rw [List.getElem?_append_right (by omega), hr] at h
      obtain ⟨row, h1, h2, h3⟩ := flatten_at (fun row hr => hl row (by simp [hr])) h
      have hz : 0 < z := by
        rcases Nat.eq_zero_or_pos z with e | e
        · subst e; omega
        · exact e
      have hd : q / z = (q - z) / z + 1 := by
        rw [← Nat.add_div_right _ hz]; congr 1; omega
      refine ⟨row, by rw [hd]; simpa using h1, by rw [Nat.mod_eq_sub_mod (by omega)]; exact h2, ?_⟩
      simp only [List.length_cons, Nat.add_mul, Nat.one_mul]; omega
theorem flatten_len {z : Nat} : ∀ {ys : List (List AV)}, (∀ row ∈ ys, row.length = z) → ys.flatten.length = ys.length * z
  | [], _ => by simp
  | r :: ys, hl => by
    rw [List.flatten_cons, List.length_append, hl r (by simp), flatten_len (fun row hr => hl row (by simp [hr])), List.length_cons, Nat.add_mul]; omega
section
variable {P : Program} {rs : List ARes} {post : AV → List AObj → Prop} {E : Env} {NK : List AV → List AObj → Node} {K : Act → World → Prop} {rest : List AItem} {Q : Exit → Act → World → Prop}
  {gs : Nat → Gh} {Pr : Nat → Prop} {tm : List AV} {hs : List AObj} {a : Act} {w w' : World} {d : Option Nat} {ty : TypeId} {pos : String} {af : Array Edge} {g : Option (Nat × Bool)} {op : AOp} {o : Oper}
variable (hK : Next P rs post E (fun tm hs => NodeOK P rs post (NK tm hs)) K) (hR : Next P rs post E (fun tm hs => AW P rs rest tm hs post) K) (C : Conc E gs Pr tm hs a w)
include hK C
theorem S_cpy' {ts : Array TypeId} {t0 e : TypeId} {sz : Nat} {x y : Operand} {k off len cap t' : Nat} {cs : List AV} {ys : List (List AV)} (h0 : ts[0]? = some t0) (hu0 : P.underlying t0 = some (.slice e)) (hsz : szT P e = some sz) (hs0 : 0 < sz)
    (hx : Cz gs (dom hs) Pr w (.sl k off len cap) (a.eval x)) (ho : getO hs k = .arr t' cs) (hsrc : Src P Pr w sz ys (a.eval y)) (hle : off + len * sz ≤ cs.length)
    (hN : NodeOK P rs post (NK (putL tm d (.int .i64 (min ys.length len : Nat))) (setO hs k (.arr t' (over cs off (ys.flatten.take ((min ys.length len) * sz))))))) : Oper.wp P ⟨d, .call { callee := .builtin .copy, args := #[x, y], argTypes := ts }, ty, pos, af, g⟩ a w K Q := by
  obtain ⟨e1, hk⟩ := hx.sl_
  obtain ⟨hlen, hyl, hfirst⟩ := hsrc
  obtain ⟨news, hnl, hnf, hnp, hno⟩ := hfirst (min ys.length len) (Nat.min_le_left _ _)
  obtain ⟨c, fr, hc1, hfz, hoc, hcs, hpt⟩ := C.obj hk ho
  have hlk : live (gs k) (getO hs k) := by rw [ho]; trivial
  have hmz : min ys.length len * sz ≤ len * sz := Nat.mul_le_mul_right _ (Nat.min_le_right _ _)
  have hmy : min ys.length len * sz ≤ ys.length * sz := Nat.mul_le_mul_right _ (Nat.min_le_left _ _)
  have hst := run_store_row P (gs k).blk off t' fr news 0 c w hc1 hfz (by omega) hno
  rw [Nat.add_zero] at hst
  have hvl : (ys.flatten.take ((min ys.length len) * sz)).length = news.length := by
    rw [List.length_take, flatten_len hyl, hnl]; omega
  have hr : (Builtin.copy_ ts ty #[a.eval x, a.eval y]).run P w = .ok (.int .i64 (min ys.length len : Nat)) (w.setRow (gs k).blk (c.toList.take off ++ news ++ c.toList.drop (off + news.length)).toArray) := by
    have hm : Nat.min ys.length len = min ys.length len := rfl
    simp [Builtin.copy_, h0, run_un hu0, e1, hlen w, run_sz hsz, hm, hnf w rfl, hst, goInt]
  have hP : ∀ b, Pr b → (w.setRow (gs k).blk (c.toList.take off ++ news ++ c.toList.drop (off + news.length)).toArray).heap[b]? = w.heap[b]? := fun b hb => setRow_other _ _ _ _ fun e => (C.rep.mine k hk hlk).2 (e ▸ hb)
  have hob : ObjOK gs (dom hs) Pr (w.setRow (gs k).blk (c.toList.take off ++ news ++ c.toList.drop (off + news.length)).toArray) (gs k) (.arr t' (over cs off (ys.flatten.take ((min ys.length len) * sz)))) := by
    refine ⟨(c.toList.take off ++ news ++ c.toList.drop (off + news.length)).toArray, fr, setRow_heap _ _ _ _ _ _ hc1, ?_, fun u hu => ?_, ?_, fun j b u f1 f2 => ?_⟩
    · have : (c.toList.take off ++ news ++ c.toList.drop (off + news.length)).toArray.size = c.size := by simp; omega
      rw [this]; exact hfz
    · simp only [List.mem_append] at hu
      rcases hu with (hu | hu) | hu
      · exact hoc u (List.mem_of_mem_take hu)
      · exact hno u hu
      · exact hoc u (List.mem_of_mem_drop hu)
    · simp only [over, List.size_toArray, List.length_append, List.length_take, List.length_drop, Array.length_toList]
      have := hvl
      rw [List.length_take] at this
      omega
    · refine (pw_over (R := Lf Pr w) (cs := cs) (vs := ys.flatten.take ((min ys.length len) * sz)) (cur := c.toList) (us := news) (o := off) (by simpa using hcs) hvl.symm (by rw [hvl, hnl]; omega) (fun j a v g1 g2 => hpt j a v g1 (by simpa using g2)) (fun j a v g1 g2 => ?_) j b u f1 (by simpa using f2)).mono (fun _ h => h) hP
      rw [List.getElem?_take] at g1
      split at g1
      · rename_i hj
        obtain ⟨row, q1, q2, q3⟩ := flatten_at hyl g1
        refine hnp (j / sz) row (j % sz) a v ?_ q1 q2 ?_
        · exact (Nat.div_lt_iff_lt_mul hs0).2 hj
        · rw [Nat.mul_comm, Nat.div_add_mod]; exact g2
      · cases g1
  have C1 := C.write hk hlk (.arr t' (over cs off (ys.flatten.take ((min ys.length len) * sz)))) (fun h => h.elim) (fun b hb => setRow_other _ _ _ _ hb) (by simp [World.setRow]) rfl rfl rfl hob
  refine wp_val (v := .int .i64 (min ys.length len : Nat)) ?_ (hK _ _ hN _ _ _ _ (C1.put _ (.lf (.int _ _))))
  refine run_builtin (l := [x, y]) ?_
  simp only [builtin, List.map_cons, List.map_nil, Sem.run_bind, hr, Result.andThen_ok, Sem.run_pure]
theorem S_cpy {ts : Array TypeId} {t0 e : TypeId} {sz : Nat} {x y : Operand} {x' y' : Opd} (h0 : ts[0]? = some t0) (hu0 : P.underlying t0 = some (.slice e)) (hsz : szT P e = some sz) (hs0 : 0 < sz) (hx : cOpd x = some x') (hy : cOpd y = some y')
    (hN : NodeOK P rs post (opN NK d (.cpy sz x' y') rest tm hs)) : Oper.wp P ⟨d, .call { callee := .builtin .copy, args := #[x, y], argTypes := ts }, ty, pos, af, g⟩ a w K Q := by
  have hX := C.opd hx
  have hY := C.opd hy
  simp only [opN] at hN
  split at hN
  case h_2 => exact hN.elim
  rename_i k off len cap e1
  rw [e1] at hX
  split at hN
  case h_2 => exact hN.elim
  rename_i t' cs ho
  obtain ⟨ys, hrd, hle, hN⟩ := rowsV_ok C hY hN
  exact S_cpy' hK C h0 hu0 hsz hs0 hX ho (src_rd hrd) hle hN
theorem S_cpyS {ts : Array TypeId} {t0 e : TypeId} {x y : Operand} {x' y' : Opd} (h0 : ts[0]? = some t0) (hu0 : P.underlying t0 = some (.slice e)) (hsz : szT P e = some 1) (hx : cOpd x = some x') (hy : cOpd y = some y')
    (hN : NodeOK P rs post (opN NK d (.cpyS x' y') rest tm hs)) : Oper.wp P ⟨d, .call { callee := .builtin .copy, args := #[x, y], argTypes := ts }, ty, pos, af, g⟩ a w K Q := by
  have hX := C.opd hx
  have hY := C.opd hy
  simp only [opN] at hN
  split at hN
  case h_2 => exact hN.elim
  rename_i k off len cap e1
  rw [e1] at hX
  split at hN
  case h_2 => exact hN.elim
  rename_i t' cs ho
  split at hN
  case h_2 => exact hN.elim
  rename_i s e2
  rw [e2] at hY
  obtain ⟨hle, hN⟩ := hN
  exact S_cpy' hK C h0 hu0 hsz Nat.one_pos hX ho (by rw [hY.str]; exact src_str s) hle hN
theorem S_cvSB {s t e : TypeId} {x : Operand} {y : Opd} (h1 : P.underlying s = some .string) (h2 : P.underlying t = some (.slice e)) (he : P.underlying e = some (.int .u8)) (hy : cOpd x = some y)
    (hN : NodeOK P rs post (opN NK d (.cvSB e y) rest tm hs)) : Oper.wp P ⟨d, .convert s t x, ty, pos, af, g⟩ a w K Q := by
  have h := C.opd hy
  simp only [opN] at hN
  split at hN
  case h_2 => exact hN.elim
  rename_i str e1
  rw [e1] at h
  let cap := grownCap w str.size 0 e
  let cells : Array Value := (str.data.map fun b => Value.int .u8 b.toNat) ++ Array.replicate (cap - str.size) (.int .u8 0)
  have hcap : str.size ≤ cap := grownCap_ge w _ 0 e
  have hds : str.data.size = str.size := rfl
  have hcs : cells.size = cap := by simp [cells, hds]; omega
  let w1 : World := w.drew.alloc (.cells cells e)
  have hh1 : w1.heap[w.heap.size]? = some (.cells cells e (0, 0)) := heap_new (w := w.drew)
  let w2 : World := w1.freeze ⟨w.heap.size, cells.size, none⟩ 1
  have hh2 : w2.heap[w.heap.size]? = some (.cells cells e (cells.size, cells.size + 1)) := by
    show (w1.freeze _ 1).heap[_]? = _
    unfold World.freeze
    rw [if_neg (by decide)]
    simp only [Array.getElem?_modify, if_true, hh1, Option.map_some]
    rfl
  have hold : ∀ b, b < w.heap.size → w2.heap[b]? = w.heap[b]? := by
    intro b hb
    show (w1.freeze _ 1).heap[b]? = _
    unfold World.freeze
    rw [if_neg (by decide)]
    simp only [Array.getElem?_modify]
    rw [if_neg (by omega)]
    exact heap_push (w := w.drew) hb
  have hsz2 : w.heap.size ≤ w2.heap.size := by
    show _ ≤ (w1.freeze _ 1).heap.size
    unfold World.freeze
    rw [if_neg (by decide)]
    simp [w1]
  have hf2 : w2.os = w.os ∧ w2.tape = w.tape ∧ w2.output = w.output := by
    show (w1.freeze _ 1).os = _ ∧ (w1.freeze _ 1).tape = _ ∧ (w1.freeze _ 1).output = _
    unfold World.freeze
    rw [if_neg (by decide)]
    exact ⟨rfl, rfl, rfl⟩
  have hsh : w1.shape? w.heap.size = some (e, cells.size) := by
    unfold World.shape?
    rw [hh1]
  have hr : (execOp a.eval ⟨d, .convert s t x, ty, pos, af, g⟩).run P w = .ok (.value (.slice (some (at_ w.heap.size 0)) (bytesOf str).length cap)) w2 := by
    have hm : (markStringish (at_ w.heap.size 0)).run P w1 = .ok () w2 := by
      simp only [markStringish, at_, Sem.run_bind, run_shape, hsh, Result.andThen_ok, run_freeze]
      rfl
    have hs1 : (Conv.stringToBytes e str).run P w = (do markStringish (at_ w.heap.size 0); pure (Value.slice (some (at_ w.heap.size 0)) str.size cap) : Sem Value).run P w1 := rfl
    rw [strCells_len]
    simp only [execOp, convert, h.str, Sem.run_bind, run_un h1, run_un h2, run_un he, Result.andThen_ok, hs1, hm, Sem.run_pure]
  refine fin_grow hK C (o := ⟨d, .convert s t x, ty, pos, af, g⟩) (n := 0) (t := e) (sz := 1) Nat.one_pos hr hh2 hold hsz2 hf2.1 hf2.2.1 hf2.2.2 (.inr (Nat.le_refl _)) (fun v hv => ?_) (by rw [strCells_len]; exact hcap) (by rw [hcs, Nat.mul_one]) (fun row hr => by simp only [bytesOf, List.mem_map] at hr; obtain ⟨b, _, rfl⟩ := hr; rfl) (fun i row j b u f1 f2 f3 => ?_) hN
  · simp only [cells, Array.toList_append, List.mem_append, Array.toList_map, List.mem_map, Array.toList_replicate] at hv
    rcases hv with ⟨b, _, rfl⟩ | hv
    · rfl
    · rw [List.eq_of_mem_replicate hv]; rfl
  · simp only [bytesOf, List.getElem?_map, Option.map_eq_some_iff] at f1
    obtain ⟨q, hq, rfl⟩ := f1
    have hj0 : j = 0 := by have := (List.getElem?_eq_some_iff.1 f2).1; simpa using this
    subst hj0
    simp at f2
    subst f2
    have hlt := (List.getElem?_eq_some_iff.1 hq).1
    rw [Nat.mul_one, Nat.add_zero] at f3
    have f3 : cells.toList[i]? = some u := by simpa using f3
    simp only [cells, Array.toList_append, Array.toList_map] at f3
    rw [List.getElem?_append_left (by simpa using hlt), List.getElem?_map, hq] at f3
    injection f3 with f3
    rw [← f3]; exact .int _ _
theorem S_cvMk {s e : TypeId} {x : Operand} {y : Opd} (h1 : P.underlying s = some (.slice e)) (he : P.underlying e = some (.int .u8)) (hy : cOpd x = some y)
    (hN : NodeOK P rs post (opN NK d (.cvMk y) rest tm hs)) : Oper.wp P ⟨d, .convert s s x, ty, pos, af, g⟩ a w K Q := by
  have h := C.opd hy
  simp only [opN] at hN
  split at hN
  case h_2 => exact hN.elim
  rename_i k e1
  rw [e1] at h
  obtain ⟨e2, hk⟩ := h.own_
  split at hN
  case h_2 => exact hN.elim
  rename_i t z xs ho
  obtain ⟨hne, hN⟩ := hN
  obtain ⟨h0, hrl, hob⟩ := C.obj hk ho
  rcases hob with ⟨hx, _⟩ | ⟨cap, hhd, hcap, c, fr, hc1, hfz, hoc, hcs, hpt⟩
  · exact absurd hx hne
  have hlk : live (gs k) (getO hs k) := by
    rw [ho]
    show (gs k).hd ≠ _
    rw [hhd]; simp
  let w2 : World := w.freeze ⟨(gs k).blk, c.size, none⟩ 1
  have hsh : w.shape? (gs k).blk = some (t, c.size) := by
    unfold World.shape?
    rw [hc1]
  have hr : (execOp a.eval ⟨d, .convert s s x, ty, pos, af, g⟩).run P w = .ok (.value (gs k).hd) w2 := by
    have hm : (markStringish (at_ (gs k).blk 0)).run P w = .ok () w2 := by
      simp only [markStringish, at_, Sem.run_bind, run_shape, hsh, Result.andThen_ok, run_freeze]
      rfl
    simp only [execOp, convert, e2, hhd, Sem.run_bind, run_un h1, run_un he, Result.andThen_ok, beq_self_eq_true, hm, Sem.run_pure]
  have hh2 : ∃ fr', w2.heap[(gs k).blk]? = some (.cells c t fr') ∧ Fz fr' c.size := by
    show ∃ fr', (w.freeze _ 1).heap[_]? = _ ∧ _
    unfold World.freeze
    rw [if_neg (by decide)]
    simp only [Array.getElem?_modify, if_true, hc1, Option.map_some]
    obtain ⟨lo, hi⟩ := fr
    by_cases hlh : lo = hi
    · subst hlh
      exact ⟨(c.size, c.size + 1), by simp, .inr (Nat.le_refl _)⟩
    · have hlo : c.size ≤ lo := by
        rcases hfz with h | h
        · exact absurd h hlh
        · exact h
      exact ⟨(min lo c.size, max hi (c.size + 1)), by simp [hlh], .inr (by show c.size ≤ min lo c.size; omega)⟩
  obtain ⟨fr', hh2, hfz'⟩ := hh2
  have hold : ∀ b, b ≠ (gs k).blk → w2.heap[b]? = w.heap[b]? := by
    intro b hb
    show (w.freeze _ 1).heap[b]? = _
    unfold World.freeze
    rw [if_neg (by decide)]
    simp only [Array.getElem?_modify]
    rw [if_neg (fun h => hb h.symm)]
  have hf2 : w2.heap.size = w.heap.size ∧ w2.os = w.os ∧ w2.tape = w.tape ∧ w2.output = w.output := by
    show (w.freeze _ 1).heap.size = _ ∧ (w.freeze _ 1).os = _ ∧ (w.freeze _ 1).tape = _ ∧ (w.freeze _ 1).output = _
    unfold World.freeze
    rw [if_neg (by decide)]
    exact ⟨by simp, rfl, rfl, rfl⟩
  have hP : ∀ b, Pr b → w2.heap[b]? = w.heap[b]? := fun b hb => hold b fun e => (C.rep.mine k hk hlk).2 (e ▸ hb)
  have C1 := C.write hk hlk (.grow t z xs) (fun _ => by rw [ho]; trivial) hold hf2.1 hf2.2.1 hf2.2.2.1 hf2.2.2.2 ⟨h0, hrl, .inr ⟨cap, hhd, hcap, c, fr', hh2, hfz', hoc, hcs, fun i row j b u e1 e2 e3 => (hpt i row j b u e1 e2 e3).mono (fun _ h => h) hP⟩⟩
  have hset : setO hs k (.grow t z xs) = hs := by
    rw [setO_eq, ← ho, getO_eq, List.getD_eq_getElem?_getD]
    apply List.ext_getElem?
    intro j
    have hk' : k < hs.length := by rw [← lenO_eq]; exact hk
    by_cases hj : k = j
    · subst hj; simp [hk']
    · rw [List.getElem?_set_ne hj]
  rw [hset] at C1
  exact wp_val hr (hK _ _ hN _ _ _ _ (C1.put d (.own k hk ⟨_, _, _, hhd⟩)))
end
end Go.Proofs.YtlnafekmiidpkaaDoor.S
