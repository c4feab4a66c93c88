/- New blocks, and blocks that are written. -/
import Derived.Test.YtlnafekmiidpkaaDoorS9
import Derived.Laws.Tables
import Derived.Laws.CopyRow
namespace Go.Proofs.YtlnafekmiidpkaaDoor.S
set_option linter.all false
set_option linter.unusedVariables false
set_option linter.unusedSimpArgs false
/-- Nobody tells of a label any more. -/
theorem killV_ok {gs : Nat → Gh} {D Pr : Nat → Prop} {w : World} {k : Nat} {g' : Gh} {x : AV} {v : Value} (h : Cz gs D Pr w x v) : Cz (upd gs k g') D Pr w (killV k x) v := by
  have eqn : ∀ (j : Nat) (y : AV), (j ≠ k → Cz (upd gs k g') D Pr w y v) → Cz (upd gs k g') D Pr w (ifEq j k .any y) v := by
    intro j y hy
    unfold ifEq
    split
    · exact .any v
    · rename_i e
      exact hy fun he => by rw [he] at e; simp at e
  cases h with
  | any v => exact .any v
  | lf h => cases h <;> exact .lf (by constructor <;> assumption)
  | rp c off b o hp h => exact .rp c off b o hp h
  | ptr j off hk => exact eqn j _ fun e => by have := Cz.ptr (gs := upd gs k g') (Pr := Pr) (w := w) j off hk; rwa [upd_ne gs g' e] at this
  | ptrS j off hk => exact eqn j _ fun e => by have := Cz.ptrS (gs := upd gs k g') (Pr := Pr) (w := w) j off hk; rwa [upd_ne gs g' e] at this
  | sl j off len cap hk => exact eqn j _ fun e => by have := Cz.sl (gs := upd gs k g') (Pr := Pr) (w := w) j off len cap hk; rwa [upd_ne gs g' e] at this
  | own j hk hh => exact eqn j _ fun e => by have := Cz.own (gs := upd gs k g') (Pr := Pr) (w := w) j hk (by rw [upd_ne gs g' e]; exact hh); rwa [upd_ne gs g' e] at this
  | mp j hk => exact eqn j _ fun e => by have := Cz.mp (gs := upd gs k g') (Pr := Pr) (w := w) j hk; rwa [upd_ne gs g' e] at this
  | gp j sz i off hk => exact eqn j _ fun e => by have := Cz.gp (gs := upd gs k g') (Pr := Pr) (w := w) j sz i off hk; rwa [upd_ne gs g' e] at this
  | fn f a b => exact .any _
  | agg cs => exact .any _
  | tup cs => exact .any _
theorem killL_len (k : Nat) : ∀ l, (killL k l).length = l.length
  | [] => rfl
  | _ :: l => by simp [killL, killL_len k l]
theorem killL_get (k : Nat) : ∀ (l : List AV) (j : Nat), (killL k l)[j]? = (l[j]?).map (killV k)
  | [], j => by simp [killL]
  | x :: l, 0 => by simp [killL]
  | x :: l, j + 1 => by simpa [killL] using killL_get k l j
theorem kill1L_len (k : Nat) : ∀ l, (kill1L k l).length = l.length
  | [] => rfl
  | _ :: l => by simp [kill1L, kill1L_len k l]
theorem kill1L_get (k : Nat) : ∀ (l : List AV) (j : Nat), (kill1L k l)[j]? = (l[j]?).map (kill1 k)
  | [], j => by simp [kill1L]
  | x :: l, 0 => by simp [kill1L]
  | x :: l, j + 1 => by simpa [kill1L] using kill1L_get k l j
theorem kills_len (k : Nat) : ∀ l, (kills k l).length = l.length
  | [] => rfl
  | _ :: l => by simp [kills, kills_len k l]
theorem kills_get (k : Nat) : ∀ (l : List AV) (j : Nat), getL (kills k l) j = kill k (getL l j)
  | [], j => rfl
  | x :: l, 0 => rfl
  | x :: l, j + 1 => kills_get k l j
theorem killOs_len (k : Nat) : ∀ l, lenO (killOs k l) = lenO l
  | [] => rfl
  | _ :: l => by simp [killOs, lenO, killOs_len k l]
theorem killOs_get (k : Nat) : ∀ (l : List AObj) (j : Nat), getO (killOs k l) j = killO k (getO l j)
  | [], j => rfl
  | x :: l, 0 => rfl
  | x :: l, j + 1 => killOs_get k l j
section
variable {gs : Nat → Gh} {D Pr : Nat → Prop} {w : World} {k : Nat} {g' : Gh}
theorem killL_ok {cs : List AV} {vs : Array Value} (h : ∀ (j : Nat) a v, cs[j]? = some a → vs[j]? = some v → Cz gs D Pr w a v) : ∀ (j : Nat) a v, (killL k cs)[j]? = some a → vs[j]? = some v → Cz (upd gs k g') D Pr w a v := by
  intro j a v e1 e2
  rw [killL_get, Option.map_eq_some_iff] at e1
  obtain ⟨x, hx, rfl⟩ := e1
  exact killV_ok (h j x v hx e2)
theorem kill1_ok {x : AV} {v : Value} (h : Cz gs D Pr w x v) : Cz (upd gs k g') D Pr w (kill1 k x) v := by
  cases x <;> first | exact killV_ok h | skip
  case agg cs =>
    obtain ⟨vs, rfl, h1, h2, h3⟩ := h.agg_
    exact .agg _ vs (by rw [killL_len]; exact h1) (killL_ok h2) h3
  case fn f a b =>
    obtain ⟨va, vb, rfl, h1, h2⟩ := h.fn_
    exact .fn _ _ _ va vb (by rw [killL_len]; exact h1.1) (by rw [killL_len]; exact h2.1) (killL_ok h1.2) (killL_ok h2.2)
theorem kill1L_ok {cs : List AV} {vs : Array Value} (h : ∀ (j : Nat) a v, cs[j]? = some a → vs[j]? = some v → Cz gs D Pr w a v) : ∀ (j : Nat) a v, (kill1L k cs)[j]? = some a → vs[j]? = some v → Cz (upd gs k g') D Pr w a v := by
  intro j a v e1 e2
  rw [kill1L_get, Option.map_eq_some_iff] at e1
  obtain ⟨x, hx, rfl⟩ := e1
  exact kill1_ok (h j x v hx e2)
theorem kill_ok {x : AV} {v : Value} (h : Cz gs D Pr w x v) : Cz (upd gs k g') D Pr w (kill k x) v := by
  cases x <;> first | exact kill1_ok h | skip
  case tup cs =>
    obtain ⟨vs, rfl, h1, h2⟩ := h.tup_
    exact .tup _ vs (by rw [kill1L_len]; exact h1) (kill1L_ok h2)
theorem killO_ok {g : Gh} {o : AObj} (h : ObjOK gs D Pr w g o) : ObjOK (upd gs k g') D Pr w g (killO k o) := by
  cases o with
  | cells t cs =>
    obtain ⟨c, fr, h1, h2, h3, h4, h5⟩ := h
    exact ⟨c, fr, h1, h2, h3, by rw [kill1L_len]; exact h4, kill1L_ok h5⟩
  | iter x c seen =>
    obtain ⟨b, h1, h2⟩ := h
    exact ⟨b, h1, kill1_ok h2⟩
  | _ => exact h
theorem live_killO {g : Gh} {o : AObj} : live g (killO k o) ↔ live g o := by cases o <;> exact Iff.rfl
end
section
variable {E : Env} {gs : Nat → Gh} {Pr : Nat → Prop} {tm : List AV} {hs : List AObj} {a : Act} {w w' : World}
/-- A block more. -/
theorem Conc.alloc (C : Conc E gs Pr tm hs a w) (g : Gh) (o : AObj) (hb : live g o → g.blk = w.heap.size) (hold : ∀ b, b < w.heap.size → w'.heap[b]? = w.heap[b]?) (hsz : w.heap.size ≤ w'.heap.size)
    (hos : w'.os = w.os) (htp : w'.tape = w.tape) (hout : w'.output = w.output) (ho : ObjOK (upd gs (lenO hs) g) (dom (snocO hs o)) Pr w' g o) : Conc E (upd gs (lenO hs) g) Pr tm (snocO hs o) a w' := by
  have hn : ¬ dom hs (lenO hs) := Nat.lt_irrefl _
  have hD : ∀ k, dom hs k → dom (snocO hs o) k := fun k hk => by rw [dom_snoc]; exact .inl hk
  have hg : ∀ k, dom hs k → upd gs (lenO hs) g k = gs k := fun k hk => upd_ne gs g (fun e => hn (e ▸ hk))
  refine ⟨?_, C.size, fun i => (C.tms i).mono hD hg (fun _ h => h) (fun b hb => hold b (C.rep.pr b hb)), C.dfs, ⟨hos.trans C.kp.os, htp.trans C.kp.tape, hout.trans C.kp.output, Nat.le_trans C.kp.size hsz, fun b hb hS => ?_⟩, C.p0, C.pm, fun k hk hg' => ?_, ?_, fun k hk hg' => C.kind k hk ?_⟩
  · rw [dom_snoc, getO_snoc]
    rw [dom_snoc] at ho
    exact C.rep.alloc hn g o hb (.inr C.kp.size) hold hsz ho
  · rw [hold b (Nat.lt_of_lt_of_le hb C.kp.size)]; exact C.kp.block b hb hS
  · rw [hg k (Nat.lt_of_lt_of_le hk C.len0)]; exact C.agree k hk hg'
  · have : lenO (snocO hs o) = lenO hs + 1 := by rw [lenO_eq, lenO_eq, snocO_eq]; simp
    rw [this]; exact Nat.le_trans C.len0 (Nat.le_succ _)
  · rw [getO_snoc, upd_ne _ _ (fun e => Nat.lt_irrefl _ (e ▸ Nat.lt_of_lt_of_le hk C.len0))] at hg'; exact hg'
/-- A label's block is written. -/
theorem Conc.write (C : Conc E gs Pr tm hs a w) {k : Nat} (hk : dom hs k) (hl : live (gs k) (getO hs k)) (o : AObj) (hgo : isGrow o → isGrow (getO hs k)) (hold : ∀ b, b ≠ (gs k).blk → w'.heap[b]? = w.heap[b]?) (hsz : w'.heap.size = w.heap.size)
    (hos : w'.os = w.os) (htp : w'.tape = w.tape) (hout : w'.output = w.output) (ho : ObjOK gs (dom hs) Pr w' (gs k) o) : Conc E gs Pr tm (setO hs k o) a w' := by
  have hP : ∀ b, Pr b → w'.heap[b]? = w.heap[b]? := fun b hb => hold b fun e => (C.rep.mine k hk hl).2 (e ▸ hb)
  have hM := (C.rep.mine k hk hl).1
  refine ⟨?_, C.size, fun i => ?_, C.dfs, ⟨hos.trans C.kp.os, htp.trans C.kp.tape, hout.trans C.kp.output, by rw [hsz]; exact C.kp.size, fun b hb hS => ?_⟩, C.p0, C.pm, C.agree, ?_, fun j hj hg' => C.kind j hj ?_⟩
  · rw [dom_set, getO_set hk]
    exact C.rep.set hk hl o (fun _ => trivial) hold hsz ho
  · rw [dom_set]
    exact (C.tms i).mono (fun _ h => h) (fun _ _ => rfl) (fun _ h => h) hP
  · rw [hold b (fun e => ?_)]
    · exact C.kp.block b hb hS
    · rcases hM with h | h
      · exact hS (e ▸ h)
      · omega
  · have : lenO (setO hs k o) = lenO hs := by rw [lenO_eq, lenO_eq, setO_eq]; simp
    rw [this]; exact C.len0
  · rw [getO_set hk] at hg'
    by_cases e : j = k
    · subst e; rw [upd_self] at hg'; exact hgo hg'
    · rwa [upd_ne _ _ e] at hg'
/-- A label stands for another slice; who told of the elder one tells no more. -/
theorem Conc.rebind (C : Conc E gs Pr tm hs a w) {k : Nat} (hk : dom hs k) (hgk : isGrow (getO hs k)) (g' : Gh) (o : AObj) (hold : ∀ b, b < w.heap.size → (live (gs k) (getO hs k) → b ≠ (gs k).blk) → w'.heap[b]? = w.heap[b]?) (hsz : w.heap.size ≤ w'.heap.size)
    (hos : w'.os = w.os) (htp : w'.tape = w.tape) (hout : w'.output = w.output) (hb : live g' o → (g'.blk = (gs k).blk ∧ live (gs k) (getO hs k)) ∨ w.heap.size ≤ g'.blk) (ho : ObjOK (upd gs k g') (dom hs) Pr w' g' o) :
    Conc E (upd gs k g') Pr (kills k tm) (setO (killOs k hs) k o) a w' := by
  have hP : ∀ b, Pr b → w'.heap[b]? = w.heap[b]? := fun b hb => hold b (C.rep.pr b hb) fun l e => (C.rep.mine k hk l).2 (e ▸ hb)
  have hlen : lenO (setO (killOs k hs) k o) = lenO hs := by
    rw [lenO_eq, setO_eq, List.length_set, ← lenO_eq, killOs_len]
  have hdom : dom (setO (killOs k hs) k o) = dom hs := by unfold dom; rw [hlen]
  have hget : ∀ j, getO (setO (killOs k hs) k o) j = if j = k then o else killO k (getO hs j) := by
    intro j
    rw [getO_set (by rw [killOs_len]; exact hk)]
    unfold upd
    split
    · rfl
    · exact killOs_get k hs j
  have hgj : ∀ j, j ≠ k → upd gs k g' j = gs j := fun j e => upd_ne gs g' e
  have lk : ∀ j, j ≠ k → live (gs j) (killO k (getO hs j)) → live (gs j) (getO hs j) := fun j _ l => live_killO.1 l
  have other : ∀ j, dom hs j → j ≠ k → live (gs j) (getO hs j) → (gs j).blk ≠ g'.blk ∨ ¬ live g' o := by
    intro j hj e l
    by_cases hl : live g' o
    · left
      rcases hb hl with ⟨h1, h2⟩ | h1
      · intro e'; exact e (C.rep.inj j k hj hk l h2 (e'.trans h1))
      · have := (C.rep.obj j hj).lt l; omega
    · exact .inr hl
  refine ⟨⟨fun j hj => ?_, fun i j hi hj li lj e => ?_, fun j hj lj => ?_, fun b hb => Nat.lt_of_lt_of_le (C.rep.pr b hb) hsz, C.rep.gl.mono (fun _ h => h) hP⟩, ?_, fun i => ?_, C.dfs, ⟨hos.trans C.kp.os, htp.trans C.kp.tape, hout.trans C.kp.output, Nat.le_trans C.kp.size hsz, fun b hb hS => ?_⟩, C.p0, C.pm, fun j hj hg' => ?_, ?_, fun j hj hg' => ?_⟩
  · rw [hdom] at hj ⊢
    rw [hget]
    by_cases e : j = k
    · subst e; rw [if_pos rfl, upd_self]; exact ho
    · rw [if_neg e, hgj j e]
      refine (killO_ok (C.rep.obj j hj)).mono (fun _ h => h) (fun _ _ => rfl) (fun _ h => h) hP (fun l => ?_)
      have l := live_killO.1 l
      exact hold _ ((C.rep.obj j hj).lt l) fun l' e' => e (C.rep.inj j k hj hk l l' e')
  · rw [hdom] at hi hj
    rw [hget] at li lj
    by_cases e1 : i = k <;> by_cases e2 : j = k
    · rw [e1, e2]
    · rw [if_pos e1] at li; rw [if_neg e2, hgj j e2] at lj; rw [e1, upd_self] at e li; rw [hgj j e2] at e
      rcases other j hj e2 (live_killO.1 lj) with h | h
      · exact absurd e.symm h
      · exact absurd li h
    · rw [if_neg e1, hgj i e1] at li; rw [if_pos e2] at lj; rw [e2, upd_self] at e lj; rw [hgj i e1] at e
      rcases other i hi e1 (live_killO.1 li) with h | h
      · exact absurd e h
      · exact absurd lj h
    · rw [if_neg e1, hgj i e1] at li; rw [if_neg e2, hgj j e2] at lj; rw [hgj i e1, hgj j e2] at e
      exact C.rep.inj i j hi hj (live_killO.1 li) (live_killO.1 lj) e
  · rw [hdom] at hj
    rw [hget] at lj
    by_cases e : j = k
    · rw [if_pos e, e, upd_self] at lj
      rw [e, upd_self]
      rcases hb lj with ⟨h1, h2⟩ | h1
      · rw [h1]; exact C.rep.mine k hk h2
      · exact ⟨.inr (Nat.le_trans C.kp.size h1), fun hp => by have := C.rep.pr _ hp; omega⟩
    · rw [if_neg e, hgj j e] at lj
      rw [hgj j e]
      exact C.rep.mine j hj (live_killO.1 lj)
  · rw [kills_len]; exact C.size
  · rw [hdom, kills_get]
    exact (kill_ok (C.tms i)).mono (fun _ h => h) (fun _ _ => rfl) (fun _ h => h) hP
  · rw [hold b (Nat.lt_of_lt_of_le hb C.kp.size) (fun l e => ?_)]
    · exact C.kp.block b hb hS
    · rcases (C.rep.mine k hk l).1 with h | h
      · exact hS (e ▸ h)
      · omega
  · by_cases e : j = k
    · subst e; exact absurd (C.kind j hj hgk) hg'
    · rw [hgj j e]; exact C.agree j hj hg'
  · rw [hlen]; exact C.len0
  · rw [hget] at hg'
    by_cases e : j = k
    · subst e; exact C.kind j hj hgk
    · rw [if_neg e] at hg'
      refine C.kind j hj ?_
      cases h : getO hs j <;> rw [h] at hg' <;> first | exact hg' | trivial
end
/-- Cells are written into a row. -/
theorem run_store_row (P : Program) (g o t : Nat) (fr : Nat × Nat) : ∀ (vs : List Value) (i : Nat) (cur : Array Value) (w : World), w.heap[g]? = some (.cells cur t fr) → Fz fr cur.size → o + i + vs.length ≤ cur.size → (∀ v ∈ vs, v.oneCell' = true) →
    (storeCells (at_ g o) vs i).run P w = .ok () (w.setRow g (cur.toList.take (o + i) ++ vs ++ cur.toList.drop (o + i + vs.length)).toArray)
  | [], i, cur, w, hg, _, _, _ => by
    simp only [storeCells, List.append_nil, List.length_nil, Nat.add_zero, List.take_append_drop, Array.toArray_toList]
    rw [setRow_self w g cur t fr hg]
    rfl
  | v :: rest, i, cur, w, hg, hfz, hl, h1 => by
    have hi : o + i < cur.size := by simp at hl; omega
    have hcell : w.cell? (at_ g (o + i)) = some cur[o + i] := by rw [cell_at hg]; exact Array.getElem?_eq_getElem hi
    have hfro : w.frozen? (at_ g (o + i)) = false := by
      obtain ⟨lo, hi'⟩ := fr
      have := hfz.off hi
      simp only [World.frozen?, at_, hg]
      simp only at this
      by_cases h1 : lo ≤ o + i
      · have h2 : ¬ o + i < hi' := fun h => this ⟨h1, h⟩
        simp [h2]
      · simp [h1]
    have hst : (store ((at_ g o).add i) v).run P w = .ok () (w.setRow g (cur.setIfInBounds (o + i) v)) := by
      rw [at_add, run_store P w _ v _ (h1 v (by simp)), hcell]
      simp only [hfro, Bool.false_eq_true, if_false]
      rw [show at_ g (o + i) = ⟨g, o + i, none⟩ from rfl, setCell_eq_setRow w g (o + i) cur t fr v hg]
    have ih := run_store_row P g o t fr rest (i + 1) (cur.setIfInBounds (o + i) v) (w.setRow g (cur.setIfInBounds (o + i) v)) (setRow_heap w g cur _ t _ hg) (by rw [Array.size_setIfInBounds]; exact hfz) (by simp at hl ⊢; omega) (fun x hx => h1 x (by simp [hx]))
    simp only [storeCells, Sem.run_bind, hst, Result.andThen_ok, ih, setRow_setRow]
    congr 3
    have e := list_seg_step cur.toList (o + i) v rest (by simp at hl ⊢; omega)
    simpa [Array.toList_setIfInBounds, Nat.add_assoc] using e
end Go.Proofs.YtlnafekmiidpkaaDoor.S
