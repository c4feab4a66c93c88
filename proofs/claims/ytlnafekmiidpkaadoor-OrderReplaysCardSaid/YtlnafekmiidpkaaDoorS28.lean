/- A region of open order whose last operations wait for all others: these come in their order. -/
import Derived.Test.YtlnafekmiidpkaaDoorS26
namespace Go.Proofs.YtlnafekmiidpkaaDoor.S
set_option linter.all false
set_option linter.unusedVariables false
set_option linter.unusedSimpArgs false
def tkO : Nat → List AOper → List AOper
  | 0, _ => []
  | _ + 1, [] => []
  | m + 1, x :: l => x :: tkO m l
def dpO : Nat → List AOper → List AOper
  | 0, l => l
  | _ + 1, [] => []
  | m + 1, _ :: l => dpO m l
def tkN : Nat → List (List Nat) → List (List Nat)
  | 0, _ => []
  | _ + 1, [] => []
  | m + 1, x :: l => x :: tkN m l
theorem tkO_eq : ∀ (m : Nat) (l : List AOper), tkO m l = l.take m
  | 0, _ => by simp [tkO]
  | _ + 1, [] => by simp [tkO]
  | m + 1, x :: l => by simp [tkO, tkO_eq m l]
theorem dpO_eq : ∀ (m : Nat) (l : List AOper), dpO m l = l.drop m
  | 0, _ => by simp [dpO]
  | _ + 1, [] => by simp [dpO]
  | m + 1, x :: l => by simp [dpO, dpO_eq m l]
theorem tkN_eq : ∀ (m : Nat) (l : List (List Nat)), tkN m l = l.take m
  | 0, _ => by simp [tkN]
  | _ + 1, [] => by simp [tkN]
  | m + 1, x :: l => by simp [tkN, tkN_eq m l]
/-- From m on each operation waits for all ahead of it. -/
def lastB (cl : List (List Nat)) (m n : Nat) : Bool := (List.range n).all fun i => Nat.blt i m || (List.range i).all fun j => memN (cl.getD i []) j
theorem wpList_snoc {P : Program} {ops : Array Oper} {Q : Exit → Act → World → Prop} {o : Oper} {l : List Oper} {a : Act} {w : World} {K' : Act → World → Prop} (h : wpList P ops Q (o :: l) a w) (hK : ∀ a w, wpList P ops Q l a w → K' a w) : wpList P ops (Exit.then K' Q) [o] a w := by
  unfold wpList at h ⊢
  split
  · rename_i hw
    rw [if_pos hw] at h
    rcases h with h | h
    · refine .inl ?_
      unfold Oper.wp at h ⊢
      generalize (execOp a.eval o).run P w = r at h
      cases r with
      | ok nx w' =>
        cases nx <;> simp only [Oper.upon] at h ⊢
        case value u => exact hK _ _ h
        case skip => exact hK _ _ h
        case defer d => exact hK _ _ h
        case enter f args =>
          refine Calls.mono h fun e w'' he => ?_
          cases e with
          | returned u => exact hK _ _ he
          | panicked c => exact he
          | outgrown => exact he
        case row row args => exact Rows.mono h fun u w'' he => hK _ _ he
      | halt x w' =>
        cases x <;> simp only [Oper.upon] at h ⊢
        case panic u => exact h
    · exact .inr h
  · rename_i hw
    rw [if_neg hw] at h
    exact hK _ _ h
theorem reg_split {P : Program} {ops : Array Oper} {Q : Exit → Act → World → Prop} {id : Nat} {a : Act} {w : World} (hm : P.follows .mixedOrders = true) (hk : needsLt ops = true) (m : Nat) (hml : m ≤ ops.size) (hlast : lastB (clsGo [] (ops.toList.map K.needs)) m ops.size = true) (I : (Nat → Bool) → Act → World → Prop) (h0 : I (fun _ => false) a w.drew)
    (good : ∀ i o, i < m → ops[i]? = some o → ∀ f a w, K.Turn ops f i → (∀ j, m ≤ j → f j = false) → I f a w → ∀ K' : Act → World → Prop, (∀ a' w', I (K.up f i) a' w' → K' a' w') → wpList P ops (Exit.then K' Q) [o] a w)
    (rest : ∀ f a w, (∀ i, i < m → f i = true) → I f a w → wpList P ops Q (ops.toList.drop m) a w) : (Code.region id ops true).wp P Q a w := by
  have early : ∀ i o, m ≤ i → ops[i]? = some o → ∀ f, K.Turn ops f i → ∀ j, j < i → f j = true := by
    intro i o hi ho f ht j hj
    have hlt := (Array.getElem?_eq_some_iff.1 ho).1
    have h1 := List.all_eq_true.1 hlast i (List.mem_range.2 hlt)
    rw [Bool.or_eq_true] at h1
    rcases h1 with h1 | h1
    · have : i < m := by simpa [Nat.blt_eq] using h1
      omega
    · have h2 := List.all_eq_true.1 h1 j (List.mem_range.2 hj)
      exact cls_sound hk ht.shut i o ho (fun j hj => ht.early o ho j (List.contains_iff_mem.2 hj)) j (memN_iff.1 h2)
  refine reg_any hm hk (fun f a w => ((∃ i, i < m ∧ f i = false) ∧ (∀ j, m ≤ j → f j = false) ∧ I f a w) ∨ ∃ s, m ≤ s ∧ s ≤ ops.size ∧ (∀ i, i < s → f i = true) ∧ (∀ i, s ≤ i → f i = false) ∧ wpList P ops Q (ops.toList.drop s) a w) ?_ ?_ ?_
  · by_cases h : m = 0
    · subst h
      exact .inr ⟨0, Nat.le_refl _, Nat.zero_le _, fun i hi => absurd hi (Nat.not_lt_zero i), fun _ _ => rfl, rest _ _ _ (fun i hi => absurd hi (Nat.not_lt_zero i)) h0⟩
    · exact .inl ⟨⟨0, by omega, rfl⟩, fun _ _ => rfl, h0⟩
  · rintro i o ho f a w ht (⟨⟨j, hj, hfj⟩, hlate, hI⟩ | ⟨s, h1, h2, h3, h4, h5⟩) K' hK'
    · have him : i < m := by
        apply Decidable.byContradiction
        intro h
        have := early i o (by omega) ho f ht j (by omega)
        rw [hfj] at this; cases this
      refine good i o him ho f a w ht hlate hI K' fun a' w' hI' => hK' a' w' ?_
      by_cases hd : ∃ q, q < m ∧ K.up f i q = false
      · exact .inl ⟨hd, fun q hq => by unfold K.up; rw [if_neg (by omega)]; exact hlate q hq, hI'⟩
      · have hall : ∀ q, q < m → K.up f i q = true := fun q hq => by
          cases h : K.up f i q with
          | true => rfl
          | false => exact absurd ⟨q, hq, h⟩ hd
        exact .inr ⟨m, Nat.le_refl _, hml, hall, fun q hq => by unfold K.up; rw [if_neg (by omega)]; exact hlate q hq, rest _ _ _ hall hI'⟩
    · have his : i = s := by
        have hi1 : s ≤ i := by
          apply Decidable.byContradiction
          intro h
          have := h3 i (by omega)
          rw [ht.self] at this; cases this
        apply Decidable.byContradiction
        intro h
        have := early i o (by omega) ho f ht s (by omega)
        rw [h4 s (Nat.le_refl _)] at this; cases this
      subst his
      have hlt := (Array.getElem?_eq_some_iff.1 ho).1
      have e1 : ops.toList.drop i = o :: ops.toList.drop (i + 1) := by
        rw [List.drop_eq_getElem_cons (by simpa using hlt)]
        congr 1
        have := Array.getElem?_eq_getElem hlt
        rw [ho] at this
        injection this with this
        simpa using this.symm
      rw [e1] at h5
      refine wpList_snoc h5 (fun a' w' h => hK' a' w' (.inr ⟨i + 1, by omega, by omega, fun q hq => ?_, fun q hq => ?_, h⟩))
      · unfold K.up
        split
        · rfl
        · exact h3 q (by omega)
      · unfold K.up
        rw [if_neg (by omega)]
        exact h4 q (by omega)
  · rintro f a w hf (⟨⟨j, hj, hfj⟩, _, _⟩ | ⟨s, h1, h2, h3, h4, h5⟩)
    · have := hf j (by omega)
      rw [hfj] at this; cases this
    · have : s = ops.size := by
        apply Decidable.byContradiction
        intro h
        have := hf s (by omega)
        rw [h4 s (Nat.le_refl _)] at this; cases this
      subst this
      rw [List.drop_of_length_le (by simp)] at h5
      exact h5
theorem cOpers_drop {P : Program} {ops : Array Oper} : ∀ {l' : List Oper} {l : List AOper}, cOpers P ops l' = some l → ∀ m, cOpers P ops (l'.drop m) = some (l.drop m)
  | l', l, h, 0 => by simpa using h
  | [], l, h, m + 1 => by
    have : l = [] := by simpa [cOpers] using h.symm
    subst this; simp [cOpers]
  | o :: l', l, h, m + 1 => by
    simp only [cOpers, List.mapM_cons, Option.bind_eq_bind, Option.bind_eq_some_iff, Option.pure_def, Option.some.injEq] at h
    obtain ⟨p, hp, q, hq, rfl⟩ := h
    exact cOpers_drop hq m
theorem aw_dregS {P : Program} {rs : List ARes} {l0 : List AOper} {cl : List (List Nat)} {todo : List AItem} {tm : List AV} {hs : List AObj} {post : AV → List AObj → Prop} (hm : P.follows .mixedOrders = true) (m n : Nat) (R : List OpD) (hml : Nat.ble m l0.length = true) (hlast : lastB cl m l0.length = true) (hchk : chkR cl (tkO m l0) R (lenO hs) n = true)
    (hops : AllOps P rs (tkO m l0) cl R tm hs n 0 (tkO m l0) (tkN m cl) R) (hrest : AW P rs (.ops (dpO m l0) :: todo) (setDs (tkO m l0) R tm) (endO R (catD hs (deads (n - lenO hs)))) post) : ADreg P rs l0 cl todo tm hs post := by
  rw [tkO_eq, tkN_eq] at hops
  rw [tkO_eq] at hchk hrest
  rw [dpO_eq] at hrest
  have hml : m ≤ l0.length := Nat.le_of_ble_eq_true hml
  have hll : (l0.take m).length = m := by rw [List.length_take]; omega
  generalize hl0 : l0.take m = l at *
  intro fn hrs E mt hi gs Pr a w C
  cases mt with
  | nil => exact hi.elim
  | cons y mt =>
    obtain ⟨h1, h2⟩ := hi
    cases y <;> simp only [IRel] at h1
    rename_i c'
    obtain ⟨id, ops, rfl, hl, hk, hcl⟩ := cCode_inv h1
    show (Code.region id ops true).wp P (kont P (bodyPost P fn (Rfin E post)) mt) a w
    have hlen := AllOps_len hops
    have hsz0 : l0.length = ops.size := by rw [cOpers_len hl]; simp
    have hsz : l.length = m := hll
    rw [hsz0] at hml hlast
    refine reg_split hm hk m hml (by rw [← hcl]; exact hlast) (fun f a w => ∃ gs Pr, RI E l R tm hs gs Pr f a w) ?_ ?_ ?_
    · -- at the start
      have hobj : ∀ k, objF (fun _ => false) 0 R (getO hs) k = getO hs k := fun k => objF_none R 0 _ (fun _ _ _ _ => rfl)
      have hD : ∀ k, Df R (lenO hs) (fun _ => false) k → k < lenO hs := fun k hk => by
        rcases hk with hk | ⟨_, _, _, hf, _⟩
        · exact hk
        · cases hf
      have hD' : ∀ k, dom hs k → Df R (lenO hs) (fun _ => false) k := fun k hk => .inl hk
      have hd : w.drew.heap = w.heap := rfl
      refine ⟨gs, Pr, ⟨fun k hk => ?_, fun x y hx hy lx ly e => ?_, fun k hk hl => ?_, fun b hb => C.rep.pr b hb, GlobOK.mono (w := w) (fun _ h => h) (fun _ _ => rfl) C.rep.gl⟩, C.size, fun t => ?_, C.dfs, ⟨C.kp.os, C.kp.tape, C.kp.output, C.kp.size, C.kp.block⟩, C.p0, C.pm, C.agree, C.len0, fun k hk hg => ?_⟩
      · rw [hobj]
        exact ObjOK.mono (w := w) (w' := w.drew) hD' (fun _ _ => rfl) (fun _ h => h) (fun _ _ => rfl) (C.rep.obj k (hD k hk)) (fun _ => rfl)
      · rw [hobj] at lx ly
        exact C.rep.inj x y (hD x hx) (hD y hy) lx ly e
      · rw [hobj] at hl
        exact C.rep.mine k (hD k hk) hl
      · have : tmF (fun _ => false) l R tm t = getL tm t := by
          unfold tmF
          split <;> rfl
        rw [this]
        exact Cz.mono (w := w) (w' := w.drew) hD' (fun _ _ => rfl) (fun _ h => h) (fun _ _ => rfl) (C.tms t)
      · rw [hobj] at hg
        exact C.kind k hk hg
    · -- one more
      rintro i o him ho f a w ht hlate ⟨gs, Pr, RC⟩
      have hi : i < ops.size := (Array.getElem?_eq_some_iff.1 ho).1
      obtain rfl : ops[i] = o := by rw [Array.getElem?_eq_getElem hi] at ho; injection ho
      obtain ⟨q, hq, hqo⟩ := cOpers_at hl (i := i) (o := ops[i]) (by simp [hi])
      have hq : l[i]? = some q := by rw [← hl0, List.getElem?_take_of_lt him]; exact hq
      obtain ⟨c, d, hc, hd, hOp⟩ := AllOps_get hops hq
      rw [Nat.zero_add] at hOp
      have hcD : cl.getD i [] = c := by rw [List.getElem?_take_of_lt him] at hc; rw [List.getD_eq_getElem?_getD, hc]; rfl
      have T : Tn cl l.length f i := by
        refine ⟨ht.self, fun j hj => ?_, fun j hj hij => ?_⟩
        · rw [hcl] at hj
          exact cls_sound hk ht.shut i _ ho (fun j hj => ht.early _ ho j (List.contains_iff_mem.2 hj)) j hj
        · cases hf : f j with
          | false => rfl
          | true =>
            rw [hcl] at hij
            have hj' : j < ops.size := by omega
            have hoj : ops[j]? = some ops[j] := Array.getElem?_eq_getElem hj'
            have := cls_sound hk ht.shut j _ hoj (fun q hq => ht.shut j _ hoj hf q hq) i hij
            rw [ht.self] at this; cases this
      intro K' hK'
      have CC := ri_pre hchk hlen hq hd T RC
      subst hcD
      have run := hOp fn hrs (envOf gs Pr w (preO R hs n (cl.getD i []) d)) [.ops ops [ops[i]], .again fun a' w' => ∃ gs1 Pr1 tm' hs', Conc (envOf gs Pr w (preO R hs n (cl.getD i []) d)) gs1 Pr1 tm' hs' a' w' ∧ JR (sig (lenO hs) n (visN R (cl.getD i [])) (preO R hs n (cl.getD i []) d) d) (preO R hs n (cl.getD i []) d) d q.dst tm' hs']
        ⟨by show cOpers P ops [ops[i]] = some [q]; simp [cOpers, hqo], fun gs1 Pr1 tm' hs' a' w' h1 h2 => ⟨gs1, Pr1, tm', hs', h1, h2⟩, trivial⟩ gs Pr a w CC
      have run : wpList P ops (kont P (bodyPost P fn (Rfin (envOf gs Pr w (preO R hs n (cl.getD i []) d)) fun _ _ => False)) [.again fun a' w' => ∃ gs1 Pr1 tm' hs', Conc (envOf gs Pr w (preO R hs n (cl.getD i []) d)) gs1 Pr1 tm' hs' a' w' ∧ JR (sig (lenO hs) n (visN R (cl.getD i [])) (preO R hs n (cl.getD i []) d) d) (preO R hs n (cl.getD i []) d) d q.dst tm' hs']) [ops[i]] a w := run
      refine one_op (fun e a w he h => ?_) (fun a w h => h) run (fun a' w' u ⟨gs1, Pr1, tm', hs', h1, h2⟩ h3 => ?_)
      · skip
        have no' : ∀ E' : Env, ∀ e w, ¬ Rfin E' (fun _ _ => False) e w := fun E' e w ⟨_, _, _, _, _, _, h, _⟩ => h
        cases e with
        | normal => exact he rfl
        | ret => simp only [kont, bodyPost] at h; obtain ⟨_, v, _, h⟩ := h; exact no' _ _ _ h
        | panic c => simp only [kont, bodyPost] at h; exact no' _ _ _ h.2
        | outgrown => simp only [kont, bodyPost] at h; exact no' _ _ _ h
        | _ => simp only [kont, bodyPost] at h
      · obtain ⟨gs2, hR⟩ := ri_step hchk hlen hq hd T RC h1 h2 (by rw [cOper_dst hqo]; exact h3)
        exact hK' a' w' ⟨gs2, Pr1, hR⟩
    · -- at the end
      rintro F a w hfall ⟨gs, Pr, RC⟩
      have hdrop : cOpers P ops (ops.toList.drop m) = some (l0.drop m) := cOpers_drop hl m
      have hall : ∀ j, j < R.length → F (0 + j) = true := fun j hj => by rw [Nat.zero_add]; exact hfall j (by omega)
      have hn0 := chk_n hchk
      have hlc : lenO (catD hs (deads (n - lenO hs))) = n := by
        have := deads_len (n - lenO hs)
        simp only [lenO_eq, catD_eq, List.length_append] at this hn0 ⊢
        omega
      have hend : ∀ k, getO (endO R (catD hs (deads (n - lenO hs)))) k = objF F 0 R (getO hs) k := fun k => endO_get R 0 _ _ hall (fun d hd => by
        obtain ⟨i, hi⟩ := List.getElem?_of_mem hd
        rw [hlc]
        exact ⟨fun j hj => chk_lt hchk hi (List.mem_append_right _ hj), fun j hj => (chk_fr hchk hi hj).2⟩) (catD_get _ _ _)
      have hle : lenO (endO R (catD hs (deads (n - lenO hs)))) = n := by rw [endO_len, hlc]
      have hdead : ∀ k, ¬ Df R (lenO hs) F k → objF F 0 R (getO hs) k = .dead := by
        intro k hk
        rw [objF_none R 0 _ (fun j d hd ht => ?_)]
        · rw [getO_eq, List.getD_eq_getElem?_getD, List.getElem?_eq_none (by
            apply Decidable.byContradiction
            intro h
            exact hk (.inl (by rw [lenO_eq]; omega)))]
          rfl
        · exfalso
          have hj : j < R.length := (List.getElem?_eq_some_iff.1 hd).1
          have hfr : ∀ (j : Nat) (d : OpD), R[j]? = some d → k ∈ keysF d.fr → False := fun j d hd h => hk (.inr ⟨j, d, hd, hfall j (by have := (List.getElem?_eq_some_iff.1 hd).1; omega), h⟩)
          unfold touchB at ht
          split at ht
          · rename_i o hno
            unfold newO at hno
            split at hno
            · rename_i e
              rcases chk_vis hchk hd (List.mem_append_right _ (keysO_mem (lkO_some e))) with h | h
              · exact hk (.inl h)
              · obtain ⟨j', _, d', hd', h'⟩ := visN_mem h
                exact hfr j' d' hd' h'
            · split at hno
              · rename_i e; exact hfr j d hd (keysF_mem (lkF_some e)).1
              · cases hno
          · cases ht
      have hDd : ∀ k, Df R (lenO hs) F k → dom (endO R (catD hs (deads (n - lenO hs)))) k := fun k hk => by
        show k < lenO _
        rw [hle]
        exact D_lt hchk hk
      have hlv : ∀ k, live (gs k) (getO (endO R (catD hs (deads (n - lenO hs)))) k) → Df R (lenO hs) F k ∧ live (gs k) (objF F 0 R (getO hs) k) := fun k hl => by
        rw [hend] at hl
        refine ⟨?_, hl⟩
        apply Classical.byContradiction
        intro h
        rw [hdead k h] at hl
        exact hl
      have fin := hrest fn hrs E (.ops ops (ops.toList.drop m) :: mt) ⟨hdrop, h2⟩ gs Pr a w ⟨⟨fun k hk => ?_, fun x y hx hy lx ly e => ?_, fun k hk hl => ?_, RC.rep.pr, RC.rep.gl⟩, by rw [setDs_len]; exact RC.size, fun t => ?_, RC.dfs, RC.kp, RC.p0, RC.pm, RC.agree, by rw [hle]; exact Nat.le_trans RC.len0 hn0, fun k hk hg => ?_⟩
      · simpa [kont] using fin
      · rw [hend]
        rcases Classical.em (Df R (lenO hs) F k) with h | h
        · exact (RC.rep.obj k h).mono hDd (fun _ _ => rfl) (fun _ h => h) (fun _ _ => rfl) (fun _ => rfl)
        · rw [hdead k h]; trivial
      · obtain ⟨a1, a2⟩ := hlv x lx
        obtain ⟨b1, b2⟩ := hlv y ly
        exact RC.rep.inj x y a1 b1 a2 b2 e
      · obtain ⟨a1, a2⟩ := hlv k hl
        exact RC.rep.mine k a1 a2
      · by_cases ht : t < tm.length
        · rw [setDs_get l R 0 tm ht]
          have hz := RC.tms t
          unfold tmF at hz
          split
          · rename_i j v e
            rw [e] at hz
            obtain ⟨i', q', d', e1, e2, _⟩ := wrt_spec e
            have : F j = true := hfall j (by have := (List.getElem?_eq_some_iff.1 e2).1; omega)
            simp only [this] at hz
            exact hz.mono hDd (fun _ _ => rfl) (fun _ h => h) (fun _ _ => rfl)
          · rename_i e
            rw [e] at hz
            exact hz.mono hDd (fun _ _ => rfl) (fun _ h => h) (fun _ _ => rfl)
        · have : getL (setDs l R tm) t = .any := by
            rw [getL_eq, List.getD_eq_getElem?_getD, List.getElem?_eq_none (by rw [setDs_len]; omega)]; rfl
          rw [this]; exact .any _
      · rw [hend] at hg
        exact RC.kind k hk hg
theorem aw_dregSA {P : Program} {rs : List ARes} {l : List AOper} {cl : List (List Nat)} {todo : List AItem} {tm : List AV} {hs : List AObj} {post : AV → List AObj → Prop} (hm : P.follows .mixedOrders = true) (m n : Nat) (ov : List (Nat × OpD)) (hml : Nat.ble m l.length = true) (hlast : lastB cl m l.length = true) (hchk : chkR cl (tkO m l) (mkR ov 0 (tkO m l) tm hs) (lenO hs) n = true)
    (hops : AllOps P rs (tkO m l) cl (mkR ov 0 (tkO m l) tm hs) tm hs n 0 (tkO m l) (tkN m cl) (mkR ov 0 (tkO m l) tm hs)) (hrest : AW P rs (.ops (dpO m l) :: todo) (setDs (tkO m l) (mkR ov 0 (tkO m l) tm hs) tm) (endO (mkR ov 0 (tkO m l) tm hs) (catD hs (deads (n - lenO hs)))) post) : ADreg P rs l cl todo tm hs post := aw_dregS hm m n _ hml hlast hchk hops hrest
end Go.Proofs.YtlnafekmiidpkaaDoor.S
