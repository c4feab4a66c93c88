/- A region of open order: the rule. -/
import Derived.Test.YtlnafekmiidpkaaDoorS24
namespace Go.Proofs.YtlnafekmiidpkaaDoor.S
set_option linter.all false
set_option linter.unusedVariables false
set_option linter.unusedSimpArgs false
/-- One operation: where it ends, its slot alone is another one. -/
theorem one_op {P : Program} {ops : Array Oper} {Kx Q : Exit → Act → World → Prop} {J K' : Act → World → Prop} {o : Oper} {a : Act} {w : World} (hx : ∀ e a w, e ≠ .normal → ¬ Kx e a w) (hJ : ∀ a w, Kx .normal a w → J a w) (h : wpList P ops Kx [o] a w)
    (hK : ∀ a' w' u, J a' w' → a'.tmps = (a.put o.dst u).tmps → K' a' w') : wpList P ops (Exit.then K' Q) [o] a w := by
  have hlet : ¬ LetsOut Kx := fun ⟨a, w, h⟩ => hx _ a w (by simp) h
  unfold wpList at h ⊢
  split
  · rename_i hw
    rw [if_pos hw] at h
    rcases h with h | h
    · refine .inl ?_
      unfold Oper.wp at h ⊢
      generalize (execOp a.eval o).run P w = r at h
      cases r with
      | ok nx w' =>
        cases nx <;> simp only [Oper.upon] at h ⊢
        case value u => exact hK _ _ u (hJ _ _ h) rfl
        case skip => exact hK _ _ undef (hJ _ _ h) rfl
        case defer d => exact hK _ _ undef (hJ _ _ h) (by cases o.dst <;> rfl)
        case enter f args =>
          refine Calls.mono h fun e w'' he => ?_
          cases e with
          | returned u => exact hK _ _ u (hJ _ _ he) rfl
          | panicked c => exact absurd he (hx _ _ _ (by simp))
          | outgrown => exact absurd he hlet
        case row row args => exact Rows.mono h fun u w'' he => hK _ _ u (hJ _ _ he) rfl
      | halt x w' =>
        cases x <;> simp only [Oper.upon] at h ⊢
        case panic u => exact absurd h (hx _ _ _ (by simp))
    · exact absurd h.2 hlet
  · rename_i hw
    rw [if_neg hw] at h
    exact hK _ _ undef (hJ _ _ h) rfl
theorem AllOps_get {P : Program} {rs : List ARes} {l0 : List AOper} {cl0 : List (List Nat)} {R0 : List OpD} {tm : List AV} {hs : List AObj} {n : Nat} : ∀ {l : List AOper} {cl : List (List Nat)} {R : List OpD} {s i : Nat} {q : AOper}, AllOps P rs l0 cl0 R0 tm hs n s l cl R → l[i]? = some q →
    ∃ c d, cl[i]? = some c ∧ R[i]? = some d ∧ OpOK P rs l0 cl0 R0 tm hs n (s + i) q c d
  | [], _, _, s, i, q, _, h => by simp at h
  | x :: l, [], _, s, i, q, h, _ => h.elim
  | x :: l, c :: cl, [], s, i, q, h, _ => h.elim
  | x :: l, c :: cl, d :: R, s, 0, q, h, hi => by
    simp at hi; subst hi
    exact ⟨c, d, rfl, rfl, h.1⟩
  | x :: l, c :: cl, d :: R, s, i + 1, q, h, hi => by
    obtain ⟨c', d', h1, h2, h3⟩ := AllOps_get (i := i) h.2 (by simpa using hi)
    exact ⟨c', d', by simpa using h1, by simpa using h2, by rw [show s + (i + 1) = s + 1 + i by omega]; exact h3⟩
theorem AllOps_len {P : Program} {rs : List ARes} {l0 : List AOper} {cl0 : List (List Nat)} {R0 : List OpD} {tm : List AV} {hs : List AObj} {n : Nat} : ∀ {l : List AOper} {cl : List (List Nat)} {R : List OpD} {s : Nat}, AllOps P rs l0 cl0 R0 tm hs n s l cl R → R.length = l.length
  | [], [], [], _, _ => rfl
  | [], [], _ :: _, _, h => h.elim
  | [], _ :: _, _, _, h => h.elim
  | x :: l, [], _, s, h => h.elim
  | x :: l, c :: cl, [], s, h => h.elim
  | x :: l, c :: cl, d :: R, s, h => by simp [AllOps_len h.2]
theorem setDs_len : ∀ (l : List AOper) (R : List OpD) (tm : List AV), (setDs l R tm).length = tm.length
  | [], _, tm => by simp [setDs]
  | q :: l, [], tm => by simp [setDs]
  | q :: l, d :: R, tm => by
    simp only [setDs]
    cases q.dst <;> simp [putL, setL_eq, setDs_len l R tm]
theorem setDs_get {t : Nat} : ∀ (l : List AOper) (R : List OpD) (s : Nat) (tm : List AV), t < tm.length → getL (setDs l R tm) t = (match wrt s l R t with | some (_, v) => v | none => getL tm t)
  | [], _, s, tm, _ => by simp [setDs, wrt]
  | q :: l, [], s, tm, _ => by simp [setDs, wrt]
  | q :: l, d :: R, s, tm, ht => by
    simp only [setDs, wrt]
    have ih := setDs_get l R (s + 1) tm ht
    cases hq : q.dst with
    | none => simpa [putL] using ih
    | some u =>
      simp only [putL]
      split
      · rename_i e
        split at e
        · rename_i e1
          injection e with e; injection e with _ e
          rw [← e, ← Nat.eq_of_beq_eq_true e1]
          simp only [getL_eq, setL_eq, List.getD_eq_getElem?_getD]
          rw [List.getElem?_set_self (by rw [setDs_len, Nat.eq_of_beq_eq_true e1]; exact ht)]
          rfl
        · rename_i e1
          rw [e] at ih
          have hne : u ≠ t := fun e' => by rw [e'] at e1; simp at e1
          refine Eq.trans ?_ ih
          simp only [getL_eq, setL_eq, List.getD_eq_getElem?_getD]
          rw [List.getElem?_set_ne hne]
      · rename_i e
        split at e
        · cases e
        · rename_i e1
          rw [e] at ih
          have hne : u ≠ t := fun e' => by rw [e'] at e1; simp at e1
          refine Eq.trans ?_ ih
          simp only [getL_eq, setL_eq, List.getD_eq_getElem?_getD]
          rw [List.getElem?_set_ne hne]
theorem setWr_len : ∀ (l : List (Nat × AObj)) (hs : List AObj), lenO (setWr l hs) = lenO hs
  | [], hs => rfl
  | (k, o) :: l, hs => by
    have := setWr_len l hs
    simp only [lenO_eq] at this ⊢
    simp [setWr, setO_eq, this]
theorem setFr_len : ∀ (l : List (Nat × Nat × AObj)) (hs : List AObj), lenO (setFr l hs) = lenO hs
  | [], hs => rfl
  | (k, s, o) :: l, hs => by
    have := setFr_len l hs
    simp only [lenO_eq] at this ⊢
    simp [setFr, setO_eq, this]
theorem setWr_get {k : Nat} : ∀ (l : List (Nat × AObj)) (hs : List AObj), (∀ j ∈ keysO l, j < lenO hs) → getO (setWr l hs) k = (match lkO l k with | some o => o | none => getO hs k)
  | [], hs, _ => rfl
  | (j, o) :: l, hs, h => by
    have ih := setWr_get (k := k) l hs (fun j hj => h j (by simp [keysO, hj]))
    simp only [setWr, lkO]
    by_cases e : k = j
    · subst e
      rw [getO_set (by rw [setWr_len]; exact h k (by simp [keysO])), upd_self]; simp
    · rw [getO_set_ne _ e, ih, show Nat.beq j k = false from Bool.eq_false_iff.2 fun e' => e (Nat.eq_of_beq_eq_true e').symm]
theorem setFr_get {k : Nat} : ∀ (l : List (Nat × Nat × AObj)) (hs : List AObj), (∀ j ∈ keysF l, j < lenO hs) → getO (setFr l hs) k = (match lkF l k with | some (_, o) => o | none => getO hs k)
  | [], hs, _ => rfl
  | (j, s, o) :: l, hs, h => by
    have ih := setFr_get (k := k) l hs (fun j hj => h j (by simp [keysF, hj]))
    simp only [setFr, lkF]
    by_cases e : k = j
    · subst e
      rw [getO_set (by rw [setFr_len]; exact h k (by simp [keysF])), upd_self]; simp
    · rw [getO_set_ne _ e, ih, show Nat.beq j k = false from Bool.eq_false_iff.2 fun e' => e (Nat.eq_of_beq_eq_true e').symm]
theorem endO_len : ∀ (R : List OpD) (hs : List AObj), lenO (endO R hs) = lenO hs
  | [], hs => rfl
  | d :: R, hs => by simp only [endO]; rw [endO_len R, setWr_len, setFr_len]
theorem endO_get {k : Nat} {f : Nat → Bool} : ∀ (R : List OpD) (s : Nat) (hs : List AObj) (h : Nat → AObj), (∀ j, j < R.length → f (s + j) = true) → (∀ d ∈ R, (∀ j ∈ keysO d.wr, j < lenO hs) ∧ ∀ j ∈ keysF d.fr, j < lenO hs) → getO hs k = h k → getO (endO R hs) k = objF f s R h k
  | [], s, hs, h, _, _, e => e
  | d :: R, s, hs, h, hf, hk, e => by
    obtain ⟨h1, h2⟩ := hk d (by simp)
    simp only [endO, objF]
    have h0 := hf 0 (by simp)
    rw [Nat.add_zero] at h0
    rw [h0]
    refine endO_get R (s + 1) _ _ (fun j hj => by rw [show s + 1 + j = s + (j + 1) by omega]; exact hf (j + 1) (by simp; omega)) (fun d' hd' => by rw [setWr_len, setFr_len]; exact hk d' (by simp [hd'])) ?_
    rw [setWr_get _ _ (by rw [setFr_len]; exact h1), setFr_get _ _ h2]
    show _ = updD d h k
    unfold updD newO
    cases lkO d.wr k with
    | some o => rfl
    | none => cases lkF d.fr k with
      | some p => rfl
      | none => exact e
theorem catD_eq (l m : List AObj) : catD l m = l ++ m := by
  induction l with
  | nil => rfl
  | cons x l ih => simp [catD, ih]
theorem catD_get (hs : List AObj) (n k : Nat) : getO (catD hs (deads n)) k = getO hs k := by
  rw [catD_eq, deads_eq, getO_eq, getO_eq]
  simp only [List.getD_eq_getElem?_getD]
  by_cases h : k < hs.length
  · rw [List.getElem?_append_left h]
  · rw [List.getElem?_append_right (by omega), List.getElem?_eq_none (l := hs) (by omega), List.getElem?_replicate]
    split <;> rfl
theorem cOpers_at {P : Program} {ops : Array Oper} : ∀ {l' : List Oper} {l : List AOper} {i : Nat} {o : Oper}, cOpers P ops l' = some l → l'[i]? = some o → ∃ q, l[i]? = some q ∧ cOper P ops o = some q
  | [], l, i, o, _, h => by simp at h
  | x :: l', l, i, o, hc, h => by
    simp only [cOpers, List.mapM_cons, Option.bind_eq_bind, Option.bind_eq_some_iff, Option.pure_def, Option.some.injEq] at hc
    obtain ⟨p, hp, m, hm, e⟩ := hc
    subst e
    cases i with
    | zero => simp at h; subst h; exact ⟨p, rfl, hp⟩
    | succ i =>
      obtain ⟨q, h1, h2⟩ := cOpers_at (i := i) hm (by simpa using h)
      exact ⟨q, by simpa using h1, h2⟩
theorem cOpers_len {P : Program} {ops : Array Oper} : ∀ {l' : List Oper} {l : List AOper}, cOpers P ops l' = some l → l.length = l'.length
  | [], l, hc => by simp [cOpers] at hc; subst hc; rfl
  | x :: l', l, hc => by
    simp only [cOpers, List.mapM_cons, Option.bind_eq_bind, Option.bind_eq_some_iff, Option.pure_def, Option.some.injEq] at hc
    obtain ⟨p, hp, m, hm, e⟩ := hc
    subst e
    simp [cOpers_len (l' := l') hm]
theorem cOper_dst {P : Program} {ops : Array Oper} {o : Oper} {q : AOper} (h : cOper P ops o = some q) : q.dst = o.dst := by
  unfold cOper at h
  simp only [Option.bind_eq_bind, Option.bind_eq_some_iff] at h
  obtain ⟨op, hop, h⟩ := h
  split at h
  · simp only [Option.pure_def, Option.some.injEq] at h; subst h; rfl
  · split at h
    · simp only [Option.pure_def, Option.some.injEq] at h; subst h; rfl
    · cases h
/-- A REGION OF OPEN ORDER: by what is told of each of its operations. -/
theorem aw_dreg {P : Program} {rs : List ARes} {l : List AOper} {cl : List (List Nat)} {todo : List AItem} {tm : List AV} {hs : List AObj} {post : AV → List AObj → Prop} (hm : P.follows .mixedOrders = true) (n : Nat) (R : List OpD) (hchk : chkR cl l R (lenO hs) n = true)
    (hops : AllOps P rs l cl R tm hs n 0 l cl R) (hrest : AW P rs todo (setDs l R tm) (endO R (catD hs (deads (n - lenO hs)))) post) : ADreg P rs l cl todo tm hs post := by
  intro fn hrs E mt hi gs Pr a w C
  cases mt with
  | nil => exact hi.elim
  | cons y mt =>
    obtain ⟨h1, h2⟩ := hi
    cases y <;> simp only [IRel] at h1
    rename_i c'
    obtain ⟨id, ops, rfl, hl, hk, hcl⟩ := cCode_inv h1
    show (Code.region id ops true).wp P (kont P (bodyPost P fn (Rfin E post)) mt) a w
    have hlen := AllOps_len hops
    have hsz : l.length = ops.size := by rw [cOpers_len hl]; simp
    refine reg_any hm hk (fun f a w => ∃ gs Pr, RI E l R tm hs gs Pr f a w) ?_ ?_ ?_
    · -- at the start
      have hobj : ∀ k, objF (fun _ => false) 0 R (getO hs) k = getO hs k := fun k => objF_none R 0 _ (fun _ _ _ _ => rfl)
      have hD : ∀ k, Df R (lenO hs) (fun _ => false) k → k < lenO hs := fun k hk => by
        rcases hk with hk | ⟨_, _, _, hf, _⟩
        · exact hk
        · cases hf
      have hD' : ∀ k, dom hs k → Df R (lenO hs) (fun _ => false) k := fun k hk => .inl hk
      have hd : w.drew.heap = w.heap := rfl
      refine ⟨gs, Pr, ⟨fun k hk => ?_, fun x y hx hy lx ly e => ?_, fun k hk hl => ?_, fun b hb => C.rep.pr b hb, GlobOK.mono (w := w) (fun _ h => h) (fun _ _ => rfl) C.rep.gl⟩, C.size, fun t => ?_, C.dfs, ⟨C.kp.os, C.kp.tape, C.kp.output, C.kp.size, C.kp.block⟩, C.p0, C.pm, C.agree, C.len0, fun k hk hg => ?_⟩
      · rw [hobj]
        exact ObjOK.mono (w := w) (w' := w.drew) hD' (fun _ _ => rfl) (fun _ h => h) (fun _ _ => rfl) (C.rep.obj k (hD k hk)) (fun _ => rfl)
      · rw [hobj] at lx ly
        exact C.rep.inj x y (hD x hx) (hD y hy) lx ly e
      · rw [hobj] at hl
        exact C.rep.mine k (hD k hk) hl
      · have : tmF (fun _ => false) l R tm t = getL tm t := by
          unfold tmF
          split <;> rfl
        rw [this]
        exact Cz.mono (w := w) (w' := w.drew) hD' (fun _ _ => rfl) (fun _ h => h) (fun _ _ => rfl) (C.tms t)
      · rw [hobj] at hg
        exact C.kind k hk hg
    · -- one more
      rintro i o ho f a w ht ⟨gs, Pr, RC⟩
      have hi : i < ops.size := (Array.getElem?_eq_some_iff.1 ho).1
      obtain rfl : ops[i] = o := by rw [Array.getElem?_eq_getElem hi] at ho; injection ho
      obtain ⟨q, hq, hqo⟩ := cOpers_at hl (i := i) (o := ops[i]) (by simp [hi])
      obtain ⟨c, d, hc, hd, hOp⟩ := AllOps_get hops hq
      rw [Nat.zero_add] at hOp
      have hcD : cl.getD i [] = c := by rw [List.getD_eq_getElem?_getD, hc]; rfl
      have T : Tn cl l.length f i := by
        refine ⟨ht.self, fun j hj => ?_, fun j hj hij => ?_⟩
        · rw [hcl] at hj
          exact cls_sound hk ht.shut i _ ho (fun j hj => ht.early _ ho j (List.contains_iff_mem.2 hj)) j hj
        · cases hf : f j with
          | false => rfl
          | true =>
            rw [hcl] at hij
            have hj' : j < ops.size := by omega
            have hoj : ops[j]? = some ops[j] := Array.getElem?_eq_getElem hj'
            have := cls_sound hk ht.shut j _ hoj (fun q hq => ht.shut j _ hoj hf q hq) i hij
            rw [ht.self] at this; cases this
      intro K' hK'
      have CC := ri_pre hchk hlen hq hd T RC
      subst hcD
      have run := hOp fn hrs (envOf gs Pr w (preO R hs n (cl.getD i []) d)) [.ops ops [ops[i]], .again fun a' w' => ∃ gs1 Pr1 tm' hs', Conc (envOf gs Pr w (preO R hs n (cl.getD i []) d)) gs1 Pr1 tm' hs' a' w' ∧ JR (sig (lenO hs) n (visN R (cl.getD i [])) (preO R hs n (cl.getD i []) d) d) (preO R hs n (cl.getD i []) d) d q.dst tm' hs']
        ⟨by show cOpers P ops [ops[i]] = some [q]; simp [cOpers, hqo], fun gs1 Pr1 tm' hs' a' w' h1 h2 => ⟨gs1, Pr1, tm', hs', h1, h2⟩, trivial⟩ gs Pr a w CC
      have run : wpList P ops (kont P (bodyPost P fn (Rfin (envOf gs Pr w (preO R hs n (cl.getD i []) d)) fun _ _ => False)) [.again fun a' w' => ∃ gs1 Pr1 tm' hs', Conc (envOf gs Pr w (preO R hs n (cl.getD i []) d)) gs1 Pr1 tm' hs' a' w' ∧ JR (sig (lenO hs) n (visN R (cl.getD i [])) (preO R hs n (cl.getD i []) d) d) (preO R hs n (cl.getD i []) d) d q.dst tm' hs']) [ops[i]] a w := run
      refine one_op (fun e a w he h => ?_) (fun a w h => h) run (fun a' w' u ⟨gs1, Pr1, tm', hs', h1, h2⟩ h3 => ?_)
      · skip
        have no' : ∀ E' : Env, ∀ e w, ¬ Rfin E' (fun _ _ => False) e w := fun E' e w ⟨_, _, _, _, _, _, h, _⟩ => h
        cases e with
        | normal => exact he rfl
        | ret => simp only [kont, bodyPost] at h; obtain ⟨_, v, _, h⟩ := h; exact no' _ _ _ h
        | panic c => simp only [kont, bodyPost] at h; exact no' _ _ _ h.2
        | outgrown => simp only [kont, bodyPost] at h; exact no' _ _ _ h
        | _ => simp only [kont, bodyPost] at h
      · obtain ⟨gs2, hR⟩ := ri_step hchk hlen hq hd T RC h1 h2 (by rw [cOper_dst hqo]; exact h3)
        exact hK' a' w' ⟨gs2, Pr1, hR⟩
    · -- at the end
      rintro F a w hfall ⟨gs, Pr, RC⟩
      have hall : ∀ j, j < R.length → F (0 + j) = true := fun j hj => by rw [Nat.zero_add]; exact hfall j (by omega)
      have hn0 := chk_n hchk
      have hlc : lenO (catD hs (deads (n - lenO hs))) = n := by
        have := deads_len (n - lenO hs)
        simp only [lenO_eq, catD_eq, List.length_append] at this hn0 ⊢
        omega
      have hend : ∀ k, getO (endO R (catD hs (deads (n - lenO hs)))) k = objF F 0 R (getO hs) k := fun k => endO_get R 0 _ _ hall (fun d hd => by
        obtain ⟨i, hi⟩ := List.getElem?_of_mem hd
        rw [hlc]
        exact ⟨fun j hj => chk_lt hchk hi (List.mem_append_right _ hj), fun j hj => (chk_fr hchk hi hj).2⟩) (catD_get _ _ _)
      have hle : lenO (endO R (catD hs (deads (n - lenO hs)))) = n := by rw [endO_len, hlc]
      have hdead : ∀ k, ¬ Df R (lenO hs) F k → objF F 0 R (getO hs) k = .dead := by
        intro k hk
        rw [objF_none R 0 _ (fun j d hd ht => ?_)]
        · rw [getO_eq, List.getD_eq_getElem?_getD, List.getElem?_eq_none (by
            apply Decidable.byContradiction
            intro h
            exact hk (.inl (by rw [lenO_eq]; omega)))]
          rfl
        · exfalso
          have hj : j < R.length := (List.getElem?_eq_some_iff.1 hd).1
          have hfr : ∀ (j : Nat) (d : OpD), R[j]? = some d → k ∈ keysF d.fr → False := fun j d hd h => hk (.inr ⟨j, d, hd, hfall j (by have := (List.getElem?_eq_some_iff.1 hd).1; omega), h⟩)
          unfold touchB at ht
          split at ht
          · rename_i o hno
            unfold newO at hno
            split at hno
            · rename_i e
              rcases chk_vis hchk hd (List.mem_append_right _ (keysO_mem (lkO_some e))) with h | h
              · exact hk (.inl h)
              · obtain ⟨j', _, d', hd', h'⟩ := visN_mem h
                exact hfr j' d' hd' h'
            · split at hno
              · rename_i e; exact hfr j d hd (keysF_mem (lkF_some e)).1
              · cases hno
          · cases ht
      have hDd : ∀ k, Df R (lenO hs) F k → dom (endO R (catD hs (deads (n - lenO hs)))) k := fun k hk => by
        show k < lenO _
        rw [hle]
        exact D_lt hchk hk
      have hlv : ∀ k, live (gs k) (getO (endO R (catD hs (deads (n - lenO hs)))) k) → Df R (lenO hs) F k ∧ live (gs k) (objF F 0 R (getO hs) k) := fun k hl => by
        rw [hend] at hl
        refine ⟨?_, hl⟩
        apply Classical.byContradiction
        intro h
        rw [hdead k h] at hl
        exact hl
      have fin := hrest fn hrs E mt h2 gs Pr a w ⟨⟨fun k hk => ?_, fun x y hx hy lx ly e => ?_, fun k hk hl => ?_, RC.rep.pr, RC.rep.gl⟩, by rw [setDs_len]; exact RC.size, fun t => ?_, RC.dfs, RC.kp, RC.p0, RC.pm, RC.agree, by rw [hle]; exact Nat.le_trans RC.len0 hn0, fun k hk hg => ?_⟩
      · exact fin
      · rw [hend]
        rcases Classical.em (Df R (lenO hs) F k) with h | h
        · exact (RC.rep.obj k h).mono hDd (fun _ _ => rfl) (fun _ h => h) (fun _ _ => rfl) (fun _ => rfl)
        · rw [hdead k h]; trivial
      · obtain ⟨a1, a2⟩ := hlv x lx
        obtain ⟨b1, b2⟩ := hlv y ly
        exact RC.rep.inj x y a1 b1 a2 b2 e
      · obtain ⟨a1, a2⟩ := hlv k hl
        exact RC.rep.mine k a1 a2
      · by_cases ht : t < tm.length
        · rw [setDs_get l R 0 tm ht]
          have hz := RC.tms t
          unfold tmF at hz
          split
          · rename_i j v e
            rw [e] at hz
            obtain ⟨i', q', d', e1, e2, _⟩ := wrt_spec e
            have : F j = true := hfall j (by have := (List.getElem?_eq_some_iff.1 e2).1; omega)
            simp only [this] at hz
            exact hz.mono hDd (fun _ _ => rfl) (fun _ h => h) (fun _ _ => rfl)
          · rename_i e
            rw [e] at hz
            exact hz.mono hDd (fun _ _ => rfl) (fun _ h => h) (fun _ _ => rfl)
        · have : getL (setDs l R tm) t = .any := by
            rw [getL_eq, List.getD_eq_getElem?_getD, List.getElem?_eq_none (by rw [setDs_len]; omega)]; rfl
          rw [this]; exact .any _
      · rw [hend] at hg
        exact RC.kind k hk hg
end Go.Proofs.YtlnafekmiidpkaaDoor.S
