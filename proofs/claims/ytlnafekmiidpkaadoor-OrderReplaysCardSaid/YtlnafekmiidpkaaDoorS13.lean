/- Slices that are made, grow, and are copied. -/
import Derived.Test.YtlnafekmiidpkaaDoorS12
import Derived.IntWalk
import Derived.Laws.MakeOwn
import Derived.Laws.AppendOwn
namespace Go.Proofs.YtlnafekmiidpkaaDoor.S
set_option linter.all false
set_option linter.unusedVariables false
set_option linter.unusedSimpArgs false
theorem flat_at {sz : Nat} (hs : 0 < sz) {vs : List Value} (h : ∀ v ∈ vs, v.cells.size = sz) {i j : Nat} (hj : j < sz) : (vs.flatMap fun v => v.cells.toList)[i * sz + j]? = (vs[i]?).bind fun v => v.cells[j]? := by
  rw [Great.flat_get hs vs h]
  have h1 : (i * sz + j) / sz = i := by
    rw [Nat.mul_comm, Nat.mul_add_div hs, Nat.div_eq_of_lt hj, Nat.add_zero]
  have h2 : (i * sz + j) % sz = j := by
    rw [Nat.mul_comm, Nat.mul_add_mod, Nat.mod_eq_of_lt hj]
  rw [h1, h2]
theorem made_get {z : Array Value} {n q : Nat} (hz : 0 < z.size) (h : q < n) : (madeCells z n)[q]? = z[q % z.size]? := by
  have hm : q % z.size < z.size := Nat.mod_lt _ hz
  unfold madeCells
  rw [Array.getElem?_map, Array.getElem?_range, if_pos h]
  simp only [Option.map_some]
  rw [getElem!_pos z (q % z.size) hm, Array.getElem?_eq_getElem hm]
theorem made_one {z : Array Value} {n s : Nat} (ho : ∀ u ∈ z.toList, u.oneCell' = true) (hz : z.size = s) (h0 : 0 < s) : ∀ v ∈ (madeCells z n).toList, v.oneCell' = true := by
  intro v hv
  obtain ⟨q, hq⟩ := List.getElem?_of_mem hv
  have hlt := (List.getElem?_eq_some_iff.1 hq).1
  have hlt : q < n := by rw [Array.length_toList, size_madeCells] at hlt; exact hlt
  have h1 : (madeCells z n)[q]? = some v := by simpa using hq
  rw [made_get (by omega) hlt] at h1
  exact ho v (by have := Array.mem_of_getElem? h1; simpa using this)
theorem rep_get {z : List AV} {s : Nat} (hz : z.length = s) (h0 : 0 < s) : ∀ {n q : Nat}, q < n * s → ((List.replicate n z).flatten)[q]? = z[q % s]?
  | 0, q, h => by omega
  | n + 1, q, h => by
    rw [List.replicate_succ, List.flatten_cons]
    by_cases hq : q < s
    · rw [List.getElem?_append_left (by omega), Nat.mod_eq_of_lt hq]
    · rw [List.getElem?_append_right (by omega), hz, rep_get hz h0 (by rw [Nat.add_mul] at h; omega), ← Nat.mod_eq_sub_mod (by omega)]
theorem lenV_eq (l : List AV) : lenV l = l.length := by
  induction l with
  | nil => rfl
  | cons a l ih => simp [lenV, ih]
theorem ptrL_mem {l : List AV} (h : ptrL l = true) {j : Nat} {x : AV} (hj : l[j]? = some x) : x = .nilp ∨ ∃ k o, x = .ptr k o := by
  induction l generalizing j with
  | nil => simp at hj
  | cons a l ih =>
    cases j with
    | zero =>
      simp at hj
      subst hj
      cases a <;> first | exact .inl rfl | exact .inr ⟨_, _, rfl⟩ | simp [ptrL] at h
    | succ j =>
      have hj : l[j]? = some x := by simpa using hj
      cases a <;> first | exact ih (by simpa [ptrL] using h) hj | simp [ptrL] at h
section
variable {P : Program} {rs : List ARes} {post : AV → List AObj → Prop} {E : Env} {NK : List AV → List AObj → Node} {K : Act → World → Prop} {rest : List AItem} {Q : Exit → Act → World → Prop}
  {gs : Nat → Gh} {Pr : Nat → Prop} {tm : List AV} {hs : List AObj} {a : Act} {w w' : World} {d : Option Nat} {ty : TypeId} {pos : String} {af : Array Edge} {g : Option (Nat × Bool)} {op : AOp} {o : Oper}
variable (hK : Next P rs post E (fun tm hs => NodeOK P rs post (NK tm hs)) K) (hR : Next P rs post E (fun tm hs => AW P rs rest tm hs post) K) (C : Conc E gs Pr tm hs a w)
include C
theorem rowsN_ok {sz : Nat} {k : List (List AV) → Node} : ∀ (ops : List Operand) (l : List Opd) (k : List (List AV) → Node), ops.mapM cOpd = some l → NodeOK P rs post (rowsN sz tm l k) →
    ∃ xs, NodeOK P rs post (k xs) ∧ xs.length = ops.length ∧ (∀ row ∈ xs, row.length = sz) ∧ (∀ v ∈ ops.map a.eval, v.cells.size = sz ∧ ∀ u ∈ v.cells.toList, u.oneCell' = true) ∧
      ∀ (i : Nat) row v (j : Nat) b u, xs[i]? = some row → (ops.map a.eval)[i]? = some v → row[j]? = some b → v.cells[j]? = some u → Lf Pr w b u
  | [], l, k, h, hN => by
    simp at h; subst h
    exact ⟨[], hN, rfl, fun r hr => by simp at hr, fun v hv => by simp at hv, fun i row v j b u h => by simp at h⟩
  | x :: ops, l, k, h, hN => by
    simp only [List.mapM_cons, Option.bind_eq_bind, Option.bind_eq_some_iff, Option.pure_def, Option.some.injEq] at h
    obtain ⟨y, hy, m, hm, rfl⟩ := h
    have hc := C.opd hy
    have step : okVal (ev tm y) = true → (cellsOf (ev tm y)).length = sz → NodeOK P rs post (rowsN sz tm m fun r => k (cellsOf (ev tm y) :: r)) →
        ∃ xs, NodeOK P rs post (k xs) ∧ xs.length = (x :: ops).length ∧ (∀ row ∈ xs, row.length = sz) ∧ (∀ v ∈ (x :: ops).map a.eval, v.cells.size = sz ∧ ∀ u ∈ v.cells.toList, u.oneCell' = true) ∧
          ∀ (i : Nat) row v (j : Nat) b u, xs[i]? = some row → ((x :: ops).map a.eval)[i]? = some v → row[j]? = some b → v.cells[j]? = some u → Lf Pr w b u := by
      intro hv hl hN
      obtain ⟨f1, f2, f3⟩ := hc.vals hv
      obtain ⟨xs, r1, r2, r3, r4, r5⟩ := rowsN_ok (k := k) ops m _ hm hN
      refine ⟨_, r1, by simp [r2], fun r hr => ?_, fun v hv => ?_, fun i row v j b u e1 e2 e3 e4 => ?_⟩
      · rcases List.mem_cons.1 hr with rfl | hr
        · exact hl
        · exact r3 r hr
      · rcases List.mem_cons.1 hv with rfl | hv
        · exact ⟨f1.trans hl, f3⟩
        · exact r4 v hv
      · cases i with
        | zero => simp at e1 e2; subst e1; subst e2; exact f2 j b u e3 e4
        | succ i => exact r5 i row v j b u (by simpa using e1) (by simpa using e2) e3 e4
    simp only [rowsN] at hN
    split at hN
    case h_2 => exact hN.elim
    rename_i hv
    split at hN
    · rename_i vs e; rw [e] at step; exact step (by rw [← e]; exact hv) hN.1 hN.2
    · rename_i vs e; rw [e] at step; exact step (by rw [← e]; exact hv) hN.1 hN.2
    · rename_i v e1 e2
      split at hN
      case h_2 => exact hN.elim
      rename_i hn1
      obtain rfl := Nat.eq_of_beq_eq_true hn1
      have hcl : cellsOf (ev tm y) = [ev tm y] := by
        generalize ev tm y = q at e1 e2
        cases q <;> first | rfl | (exact absurd rfl (e1 _)) | (exact absurd rfl (e2 _))
      rw [hcl] at step
      exact step hv rfl hN
include hK
/-- A new slice that may grow. -/
theorem fin_grow {t sz n cap : Nat} {c : Array Value} {fr : Nat × Nat} {xs : List (List AV)} (h0 : 0 < sz) (hrun : (execOp a.eval o).run P w = .ok (.value (.slice (some (at_ w.heap.size 0)) xs.length cap)) w') (hnew : w'.heap[w.heap.size]? = some (.cells c t fr))
    (hold : ∀ b, b < w.heap.size → w'.heap[b]? = w.heap[b]?) (hsz : w.heap.size ≤ w'.heap.size) (hos : w'.os = w.os) (htp : w'.tape = w.tape) (hout : w'.output = w.output) (hfz : Fz fr c.size) (hoc : ∀ v ∈ c.toList, v.oneCell' = true) (hcap : xs.length ≤ cap) (hc : c.size = cap * sz)
    (hrl : ∀ row ∈ xs, row.length = sz) (hpt : ∀ (i : Nat) row (j : Nat) b u, xs[i]? = some row → row[j]? = some b → c[i * sz + j]? = some u → Lf Pr w b u) (hN : NodeOK P rs post (NK (putL tm o.dst (.own (lenO hs))) (snocO hs (.grow t sz xs)))) : o.wp P a w K Q := by
  have hP : ∀ b, Pr b → w'.heap[b]? = w.heap[b]? := fun b hb => hold b (C.rep.pr b hb)
  have C1 := C.alloc (w' := w') ⟨w.heap.size, .slice (some (at_ w.heap.size 0)) xs.length cap⟩ (.grow t sz xs) (fun _ => rfl) hold hsz hos htp hout
    ⟨h0, hrl, .inr ⟨cap, rfl, hcap, c, fr, hnew, hfz, hoc, hc, fun i row j b u e1 e2 e3 => (hpt i row j b u e1 e2 e3).mono (fun _ h => h) hP⟩⟩
  have := Cz.own (gs := upd gs (lenO hs) ⟨w.heap.size, .slice (some (at_ w.heap.size 0)) xs.length cap⟩) (D := dom (snocO hs (.grow t sz xs))) (Pr := Pr) (w := w') (lenO hs) (by rw [dom_snoc]; exact .inr rfl) (by rw [upd_self]; exact ⟨_, _, _, rfl⟩)
  rw [upd_self] at this
  exact wp_val hrun (hK _ _ hN _ _ _ _ (C1.put _ this))
theorem S_mkSlP {t e : TypeId} {len n : Nat} {z : List AV} {l : List Opd} {ps : Array (Nat × Operand)} (hu : P.underlying t = some (.slice e)) (hn : szT P e = some n) (hz : zeroT P e = some z) (hl : (ps.toList.map (·.2)).mapM cOpd = some l) (h1 : n = 1) (h2 : ps.toList.map (·.1) = List.range len)
    (h3 : len * n ≤ 16777216) (h4 : z.length = n) (hN : NodeOK P rs post (opN NK d (.mkSlP e l) rest tm hs)) : Oper.wp P ⟨d, .buildSlice t len ps, ty, pos, af, g⟩ a w K Q := by
  have hcz := C.opds hl
  obtain ⟨it, zv, hit, hzv, rfl, hzo⟩ := zeroT_ok hz
  simp only [opN] at hN
  split at hN
  case h_2 => exact hN.elim
  rename_i hp
  have hn1 := h1
  have h1 : 0 < n := by omega
  have r4 : ∀ v ∈ (ps.toList.map (·.2)).map a.eval, v.cells.size = n ∧ ∀ u ∈ v.cells.toList, u.oneCell' = true := by
    intro v hv
    obtain ⟨j, hj⟩ := List.getElem?_of_mem hv
    have hjl : j < (evs tm l).length := by
      have := (List.getElem?_eq_some_iff.1 hj).1
      have h := hcz.1
      simp at h this
      omega
    obtain ⟨x, hx⟩ : ∃ x, (evs tm l)[j]? = some x := ⟨_, List.getElem?_eq_getElem hjl⟩
    have hc := hcz.2 j x v hx (by rw [List.getElem?_toArray]; exact hj)
    subst hn1
    rcases ptrL_mem hp hx with rfl | ⟨k, o, rfl⟩
    · rw [hc.nilp]; exact ⟨rfl, fun u hu => by simp [Value.cells] at hu; subst hu; rfl⟩
    · rw [hc.ptr_.1]; exact ⟨rfl, fun u hu => by simp [Value.cells] at hu; subst hu; rfl⟩
  have hlen : ps.toList.length = len := by
    have := congrArg List.length h2
    simpa using this
  let vs := (ps.toList.map (·.2)).map a.eval
  have hvl : vs.length = len := by simp [vs]; simpa using hlen
  have hzip : (ps.map fun (i, x) => (i, a.eval x)).toList = (vs.zipIdx 0).map fun x => (x.2, x.1) := by
    apply List.ext_getElem?
    intro k
    have hk := congrArg (fun l => l[k]?) h2
    simp only [List.getElem?_map] at hk
    simp only [vs, Array.toList_map, List.getElem?_map, List.getElem?_zipIdx, List.map_map]
    cases hpk : ps.toList[k]? with
    | none => simp
    | some p =>
      rw [hpk] at hk
      simp only [Option.map_some] at hk
      have hlt := (List.getElem?_eq_some_iff.1 hpk).1
      rw [List.getElem?_range (by omega)] at hk
      injection hk with hk
      simp [hk]
  have hfill : Instr.fill (fun i => some (i * n, n)) ((Array.range (len * n)).map fun i => (if len * n = 0 then #[] else zv.cells)[i % (if len * n = 0 then #[] else zv.cells).size]!) (ps.map fun (i, x) => (i, a.eval x)).toList = some (vs.flatMap fun v => v.cells.toList).toArray := by
    rw [hzip]
    exact Great.fill_whole h1 vs _ (fun v hv => (r4 v hv).1) (by rw [hvl]; simp)
  have hrun : (execOp a.eval ⟨d, .buildSlice t len ps, ty, pos, af, g⟩).run P w = .ok (.value (.slice (some (at_ w.heap.size 0)) len len)) { w with heap := w.heap.push (.cells (vs.flatMap fun v => v.cells.toList).toArray e (0, 0)) } := by
    have hnb : ¬ len * n > 2 ^ 24 := by simp; omega
    have hzv' : (zeroValue e).run P w = .ok zv w := by simp [zeroValue, typeInfo, hit, hzv]
    have hb : (Instr.buildSlice t len (ps.map fun (i, x) => (i, a.eval x))).run P w = .ok (.slice (some (at_ w.heap.size 0)) len len) { w with heap := w.heap.push (.cells (vs.flatMap fun v => v.cells.toList).toArray e (0, 0)) } := by
      by_cases h0 : len * n = 0
      · rw [if_pos h0] at hfill
        have hnb0 : ¬ 0 > 2 ^ 24 := by simp
        simp only [Instr.buildSlice, Sem.run_bind, run_un hu, Result.andThen_ok, run_sz hn, h0, hnb0, if_false, if_true]
        rw [h0] at hfill
        simp only [Sem.run_bind, Sem.run_pure, Result.andThen_ok, hfill, newRow, run_newObj]
        rfl
      · rw [if_neg h0] at hfill
        simp only [Instr.buildSlice, Sem.run_bind, run_un hu, Result.andThen_ok, run_sz hn, hnb, if_false, h0, hzv', Sem.run_pure, hfill, newRow, run_newObj]
        rfl
    simp only [execOp, Sem.run_bind, hb, Result.andThen_ok, Sem.run_pure]
  have hfs : (vs.flatMap fun v => v.cells.toList).toArray.size = len * n := by
    have : ∀ l : List Value, (∀ v ∈ l, v.cells.size = n) → (l.flatMap fun v => v.cells.toList).length = l.length * n := by
      intro l
      induction l with
      | nil => simp
      | cons v l ih =>
        intro h
        rw [List.flatMap_cons, List.length_append, ih (fun u hu => h u (by simp [hu])), List.length_cons, Nat.add_mul, Array.length_toList, h v (by simp)]; omega
    have := this vs (fun v hv => (r4 v hv).1)
    rw [hvl] at this; simpa using this
  subst hn1
  have hone : ∀ v ∈ vs, v.cells.toList = [v] := by
    intro v hv
    obtain ⟨j, hj⟩ := List.getElem?_of_mem hv
    have hjl : j < (evs tm l).length := by
      have := (List.getElem?_eq_some_iff.1 hj).1
      have h := hcz.1
      simp [vs] at h this
      omega
    obtain ⟨x, hx⟩ : ∃ x, (evs tm l)[j]? = some x := ⟨_, List.getElem?_eq_getElem hjl⟩
    have hc := hcz.2 j x v hx (by rw [List.getElem?_toArray]; exact hj)
    rcases ptrL_mem hp hx with rfl | ⟨k, o, rfl⟩
    · rw [hc.nilp]; rfl
    · rw [hc.ptr_.1]; rfl
  have hflat : (vs.flatMap fun v => v.cells.toList) = vs := by
    have : ∀ q : List Value, (∀ v ∈ q, v.cells.toList = [v]) → (q.flatMap fun v => v.cells.toList) = q := by
      intro q
      induction q with
      | nil => intro _; rfl
      | cons v q ih => intro h; rw [List.flatMap_cons, ih (fun u hu => h u (by simp [hu])), h v (by simp)]; rfl
    exact this vs hone
  rw [hflat] at hrun
  have hel : (evs tm l).length = len := by have h := hcz.1; simp at h; rw [← h]; simpa using hlen
  have hP : ∀ b, Pr b → ({ w with heap := w.heap.push (.cells vs.toArray e (0, 0)) } : World).heap[b]? = w.heap[b]? := fun b hb => heap_push (C.rep.pr b hb)
  have C1 := C.alloc (w' := { w with heap := w.heap.push (.cells vs.toArray e (0, 0)) }) ⟨w.heap.size, .nilFunc⟩ (.cells e (evs tm l)) (fun _ => rfl) (fun b hb => heap_push hb) (by simp) rfl rfl rfl
    ⟨_, (0, 0), heap_new, (.inl rfl), fun v hv => (by
      have hv : v ∈ vs := by simpa using hv
      have := (r4 v hv).2 v (by rw [hone v hv]; simp)
      exact this), by rw [hel]; simp [hvl], fun q b u f1 f2 => ?_⟩
  · have hp2 := Cz.sl (gs := upd gs (lenO hs) ⟨w.heap.size, .nilFunc⟩) (D := dom (snocO hs (.cells e (evs tm l)))) (Pr := Pr) (w := { w with heap := w.heap.push (.cells vs.toArray e (0, 0)) }) (lenO hs) 0 len len (by rw [dom_snoc]; exact .inr rfl)
    rw [upd_self] at hp2
    rw [show lenV (evs tm l) = len by rw [lenV_eq, hel]] at hN
    refine wp_val ?_ (hK _ _ hN _ _ _ _ (C1.put d hp2))
    exact hrun
  · refine (hcz.2 q b u f1 (by simpa [vs] using f2)).mono (fun k hk => ?_) (fun k hk => ?_) (fun _ h => h) hP
    · first | exact hk | exact Or.inl hk | (rw [dom_snoc]; exact Or.inl hk)
    · first | rfl | exact upd_ne _ _ (fun e => by rw [e] at hk; exact Nat.lt_irrefl _ hk)
theorem S_mkSl {t : TypeId} {len : Nat} {ps : Array (Nat × Operand)} (hc : cOp P (.buildSlice t len ps) = some op) (hN : NodeOK P rs post (opN NK d op rest tm hs)) : Oper.wp P ⟨d, .buildSlice t len ps, ty, pos, af, g⟩ a w K Q := by
  simp only [cOp, Option.bind_eq_bind] at hc
  split at hc
  case h_2 => cases hc
  rename_i e hu
  simp only [Option.bind_eq_some_iff, cOpds] at hc
  obtain ⟨n, hn, z, hz, l, hl, hc⟩ := hc
  split at hc
  · obtain ⟨h1, hc⟩ := orNo_ok hc
    injection hc with hc
    subst hc
    simp only [Bool.and_eq_true, beq_iff_eq] at h1
    obtain ⟨⟨⟨h1, h2⟩, h3⟩, h4⟩ := h1
    exact S_mkSlP hK C hu hn hz hl (by simpa using h1) h2 (by simpa using h3) h4 hN
  obtain ⟨h1, hc⟩ := orNo_ok hc
  injection hc with hc
  subst hc
  simp only [Bool.and_eq_true, beq_iff_eq] at h1
  obtain ⟨⟨⟨h1, h2⟩, h3⟩, h4⟩ := h1
  have h1 : 0 < n := by simpa [Nat.blt_eq] using h1
  have h3 : len * n ≤ 16777216 := by simpa using h3
  obtain ⟨it, zv, hit, hzv, rfl, hzo⟩ := zeroT_ok hz
  simp only [opN] at hN
  obtain ⟨xs, r1, r2, r3, r4, r5⟩ := rowsN_ok C (k := fun xs => NK (putL tm d (.own (lenO hs))) (snocO hs (.grow e n xs))) (ps.toList.map (·.2)) l _ hl hN
  have hlen : ps.toList.length = len := by
    have := congrArg List.length h2
    simpa using this
  have hxl : xs.length = len := by rw [r2]; simpa using hlen
  let vs := (ps.toList.map (·.2)).map a.eval
  have hvl : vs.length = len := by simp [vs]; simpa using hlen
  have hzip : (ps.map fun (i, x) => (i, a.eval x)).toList = (vs.zipIdx 0).map fun x => (x.2, x.1) := by
    apply List.ext_getElem?
    intro k
    have hk := congrArg (fun l => l[k]?) h2
    simp only [List.getElem?_map] at hk
    simp only [vs, Array.toList_map, List.getElem?_map, List.getElem?_zipIdx, List.map_map]
    cases hpk : ps.toList[k]? with
    | none => simp
    | some p =>
      rw [hpk] at hk
      simp only [Option.map_some] at hk
      have hlt := (List.getElem?_eq_some_iff.1 hpk).1
      rw [List.getElem?_range (by omega)] at hk
      injection hk with hk
      simp [hk]
  have hfill : Instr.fill (fun i => some (i * n, n)) ((Array.range (len * n)).map fun i => (if len * n = 0 then #[] else zv.cells)[i % (if len * n = 0 then #[] else zv.cells).size]!) (ps.map fun (i, x) => (i, a.eval x)).toList = some (vs.flatMap fun v => v.cells.toList).toArray := by
    rw [hzip]
    exact Great.fill_whole h1 vs _ (fun v hv => (r4 v hv).1) (by rw [hvl]; simp)
  have hrun : (execOp a.eval ⟨d, .buildSlice t len ps, ty, pos, af, g⟩).run P w = .ok (.value (.slice (some (at_ w.heap.size 0)) xs.length len)) { w with heap := w.heap.push (.cells (vs.flatMap fun v => v.cells.toList).toArray e (0, 0)) } := by
    have hnb : ¬ len * n > 2 ^ 24 := by simp; omega
    have hzv' : (zeroValue e).run P w = .ok zv w := by simp [zeroValue, typeInfo, hit, hzv]
    have hb : (Instr.buildSlice t len (ps.map fun (i, x) => (i, a.eval x))).run P w = .ok (.slice (some (at_ w.heap.size 0)) len len) { w with heap := w.heap.push (.cells (vs.flatMap fun v => v.cells.toList).toArray e (0, 0)) } := by
      by_cases h0 : len * n = 0
      · rw [if_pos h0] at hfill
        have hnb0 : ¬ 0 > 2 ^ 24 := by simp
        simp only [Instr.buildSlice, Sem.run_bind, run_un hu, Result.andThen_ok, run_sz hn, h0, hnb0, if_false, if_true]
        rw [h0] at hfill
        simp only [Sem.run_bind, Sem.run_pure, Result.andThen_ok, hfill, newRow, run_newObj]
        rfl
      · rw [if_neg h0] at hfill
        simp only [Instr.buildSlice, Sem.run_bind, run_un hu, Result.andThen_ok, run_sz hn, hnb, if_false, h0, hzv', Sem.run_pure, hfill, newRow, run_newObj]
        rfl
    simp only [execOp, Sem.run_bind, hb, Result.andThen_ok, Sem.run_pure, hxl]
  have hfs : (vs.flatMap fun v => v.cells.toList).toArray.size = len * n := by
    have : ∀ l : List Value, (∀ v ∈ l, v.cells.size = n) → (l.flatMap fun v => v.cells.toList).length = l.length * n := by
      intro l
      induction l with
      | nil => simp
      | cons v l ih =>
        intro h
        rw [List.flatMap_cons, List.length_append, ih (fun u hu => h u (by simp [hu])), List.length_cons, Nat.add_mul, Array.length_toList, h v (by simp)]; omega
    have := this vs (fun v hv => (r4 v hv).1)
    rw [hvl] at this; simpa using this
  refine fin_grow hK C (o := ⟨d, .buildSlice t len ps, ty, pos, af, g⟩) (n := n) (t := e) (sz := n) h1 hrun heap_new (fun b hb => heap_push hb) (by simp) rfl rfl rfl (.inl rfl) (fun v hv => ?_) (by omega) hfs r3 (fun i row j b u e1 e2 e3 => ?_) r1
  · simp only [List.mem_flatMap] at hv
    obtain ⟨u, hu, hv⟩ := hv
    exact (r4 u hu).2 v hv
  · have hj : j < n := by rw [← r3 row (List.mem_of_getElem? e1)]; exact (List.getElem?_eq_some_iff.1 e2).1
    rw [List.getElem?_toArray, flat_at h1 (fun v hv => (r4 v hv).1) hj, Option.bind_eq_some_iff] at e3
    obtain ⟨v, hv, hu⟩ := e3
    exact r5 i row v j b u e1 hv e2 hu
theorem S_make0 {t : TypeId} {l c : Operand} {e : TypeId} {i : TypeInfo} {c' : Opd} {z : List AV} (hu : P.underlying t = some (.slice e)) (hi : P.info? e = some i) (hl : a.eval l = .int .i64 0) (hc : cOpd c = some c') (h0 : 0 < i.size) (hz : zeroT P e = some z) (hzl : z.length = i.size)
    (hN : NodeOK P rs post (opN NK d (.make0 e i.size i.bytes c') rest tm hs)) : Oper.wp P ⟨d, .makeSlice t l c, ty, pos, af, g⟩ a w K Q := by
  have hC := C.opd hc
  simp only [opN] at hN
  split at hN
  case h_2 => exact hN.elim
  rename_i k m e1
  rw [e1] at hC
  obtain ⟨⟨h1, h2, h3⟩, hN⟩ := hN
  obtain ⟨it, zv, hit, hzv, rfl, hzo⟩ := zeroT_ok hz
  rw [hi] at hit
  injection hit with hit
  subst hit
  have hr := run_make (P := P) w t e i zv hu hi hzv .i64 k 0 m (Int.le_refl _) h1 (by rw [Int.mul_comm]; omega) (by omega)
  refine fin_grow hK C (o := ⟨d, .makeSlice t l c, ty, pos, af, g⟩) (n := 0) (cap := m.toNat) (xs := []) h0 (w' := w.alloc (.cells (madeCells zv.cells (m.toNat * i.size)) e)) ?_ heap_new (fun b hb => heap_push hb) (by simp) rfl rfl rfl (.inl rfl) (fun v hv => ?_) (Nat.zero_le _) (size_madeCells _ _) (fun r hr => by simp at hr) (fun i row j b u h => by simp at h) hN
  · simp only [execOp, hl, hC.int, Sem.run_bind, hr, Result.andThen_ok, Sem.run_pure]
    rfl
  · exact made_one hzo (by simpa using hzl) h0 v hv
theorem S_make {t : TypeId} {l c : Operand} {e : TypeId} {i : TypeInfo} {l' c' : Opd} {z : List AV} (hu : P.underlying t = some (.slice e)) (hi : P.info? e = some i) (hl : cOpd l = some l') (hc : cOpd c = some c') (h0 : 0 < i.size) (hz : zeroT P e = some z) (hzl : z.length = i.size) (hall : allVal z = true)
    (hN : NodeOK P rs post (opN NK d (.make e i.size i.bytes z l' c') rest tm hs)) : Oper.wp P ⟨d, .makeSlice t l c, ty, pos, af, g⟩ a w K Q := by
  have hL := C.opd hl
  have hC := C.opd hc
  simp only [opN] at hN
  split at hN
  case h_2 => exact hN.elim
  rename_i k m j m' e1 e2
  rw [e1] at hL; rw [e2] at hC
  obtain ⟨⟨h1, h2, h3, h4⟩, hN⟩ := hN
  obtain ⟨it, zv, hit, hzv, rfl, hzo⟩ := zeroT_ok hz
  rw [hi] at hit
  injection hit with hit
  subst hit
  have hr := run_make (P := P) w t e i zv hu hi hzv k j m m' h1 h2 (by rw [Int.mul_comm]; omega) (by omega)
  have hzs : zv.cells.size = i.size := by simpa using hzl
  have hfl : ((List.replicate m'.toNat (zv.cells.toList.map ofV)).flatten).length = m'.toNat * i.size := by simp [hzs]
  have hP : ∀ b, Pr b → (w.alloc (.cells (madeCells zv.cells (m'.toNat * i.size)) e)).heap[b]? = w.heap[b]? := fun b hb => heap_push (C.rep.pr b hb)
  have C1 := C.alloc (w' := w.alloc (.cells (madeCells zv.cells (m'.toNat * i.size)) e)) ⟨w.heap.size, .nilFunc⟩ (.arr e (List.replicate m'.toNat (zv.cells.toList.map ofV)).flatten) (fun _ => rfl) (fun b hb => heap_push hb) (by simp) rfl rfl rfl
    ⟨_, (0, 0), heap_new, (.inl rfl), fun v hv => made_one hzo hzs h0 v hv, by rw [hfl]; exact size_madeCells _ _, fun q b u f1 f2 => ?_⟩
  · have hp := Cz.sl (gs := upd gs (lenO hs) ⟨w.heap.size, .nilFunc⟩) (D := dom (snocO hs (.arr e (List.replicate m'.toNat (zv.cells.toList.map ofV)).flatten))) (Pr := Pr) (w := w.alloc (.cells (madeCells zv.cells (m'.toNat * i.size)) e)) (lenO hs) 0 m.toNat m'.toNat (by rw [dom_snoc]; exact .inr rfl)
    rw [upd_self] at hp
    refine wp_val ?_ (hK _ _ hN _ _ _ _ (C1.put d hp))
    simp only [execOp, hL.int, hC.int, Sem.run_bind, hr, Result.andThen_ok, Sem.run_pure]
    rfl
  · have hlt := (List.getElem?_eq_some_iff.1 f1).1
    rw [hfl] at hlt
    have hq := made_get (z := zv.cells) (by rw [hzs]; exact h0) hlt
    rw [hq] at f2
    have hqm : q % i.size < i.size := Nat.mod_lt _ h0
    have f1' := rep_get (z := zv.cells.toList.map ofV) (n := m'.toNat) (s := i.size) (by simpa using hzs) h0 hlt
    rw [f1'] at f1
    rw [hzs] at f2
    rw [List.getElem?_map] at f1
    have f2 : zv.cells.toList[q % i.size]? = some u := by simpa using f2
    rw [f2] at f1
    injection f1 with f1
    subst f1
    exact Cz_val (gs := gs) (D := dom hs) (allVal_mem hall _ (List.mem_map.2 ⟨u, List.mem_of_getElem? f2, rfl⟩)) (Cz_ofV u)
end
end Go.Proofs.YtlnafekmiidpkaaDoor.S
