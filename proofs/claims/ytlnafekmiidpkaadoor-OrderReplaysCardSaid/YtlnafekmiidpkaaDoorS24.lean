/- A region of open order: one operation more; the rule. -/
import Derived.Test.YtlnafekmiidpkaaDoorS23
namespace Go.Proofs.YtlnafekmiidpkaaDoor.S
set_option linter.all false
set_option linter.unusedVariables false
set_option linter.unusedSimpArgs false
theorem wrOK_mem {σ : Nat → Option Nat} {H hs' : List AObj} : ∀ {l : List (Nat × AObj)} {k : Nat} {o : AObj}, wrOK σ H hs' l → (k, o) ∈ l → mtcO o (renO σ (getO hs' k)) ∧ isGrowB o = false ∧ (isGrowB (getO H k) = true → o = .dead)
  | (j, x) :: l, k, o, h, hm => by
    rcases List.mem_cons.1 hm with e | hm
    · injection e with e1 e2; subst e1; subst e2; exact h.1
    · exact wrOK_mem h.2 hm
theorem frOK_mem {σ : Nat → Option Nat} {hs' : List AObj} : ∀ {l : List (Nat × Nat × AObj)} {k s : Nat} {o : AObj}, frOK σ hs' l → (k, s, o) ∈ l → mtcO o (renO σ (getO hs' s))
  | (j, x, y) :: l, k, s, o, h, hm => by
    rcases List.mem_cons.1 hm with e | hm
    · injection e with e1 e2; injection e2 with e2 e3; subst e2; subst e3; exact h.1
    · exact frOK_mem h.2 hm
theorem rdOK_mem {σ : Nat → Option Nat} {H hs' : List AObj} : ∀ {l : List Nat} {k : Nat}, rdOK σ H hs' l → k ∈ l → mtcO (getO H k) (renO σ (getO hs' k)) ∧ isGrowB (getO H k) = false
  | j :: l, k, h, hm => by
    rcases List.mem_cons.1 hm with e | hm
    · subst e; exact h.1
    · exact rdOK_mem h.2 hm
/-- What is known of an object that an operation touched: which label it came of. -/
def Sr2 (gs1 gs2 : Nat → Gh) (D' Pr1 : Nat → Prop) (w' : World) (hs' : List AObj) (k : Nat) (o : AObj) (s : Nat) : Prop :=
  ObjOK gs2 D' Pr1 w' (gs2 k) o ∧ (live (gs2 k) o → live (gs1 s) (getO hs' s) ∧ gs2 k = gs1 s ∧ s < lenO hs')
section
variable {E : Env} {l : List AOper} {cl : List (List Nat)} {R : List OpD} {tm : List AV} {hs : List AObj} {n : Nat} {gs : Nat → Gh} {Pr : Nat → Prop} {f : Nat → Bool} {a : Act} {w : World} {i : Nat} {q : AOper} {d : OpD}
theorem ri_step (hchk : chkR cl l R (lenO hs) n = true) (hlen : R.length = l.length) (hq : l[i]? = some q) (hd : R[i]? = some d) (T : Tn cl l.length f i) (C : RI E l R tm hs gs Pr f a w) {gs1 : Nat → Gh} {Pr1 : Nat → Prop} {tm' : List AV} {hs' : List AObj} {a' : Act} {w' : World} {u : Value}
    (C' : Conc (envOf gs Pr w (preO R hs n (cl.getD i []) d)) gs1 Pr1 tm' hs' a' w') (hJ : JR (sig (lenO hs) n (visN R (cl.getD i [])) (preO R hs n (cl.getD i []) d) d) (preO R hs n (cl.getD i []) d) d q.dst tm' hs') (ha : a'.tmps = (a.put q.dst u).tmps) :
    ∃ gs2, RI E l R tm hs gs2 Pr1 (K.up f i) a' w' := by
  obtain ⟨hJd, hJw, hJf, hJr⟩ := hJ
  generalize hH : preO R hs n (cl.getD i []) d = H at *
  have hHn : lenO H = n := by rw [← hH, preO_len]
  have hn' : n ≤ lenO hs' := by have := C'.len0; rw [show lenO (envOf gs Pr w H).hs0 = lenO H from rfl, hHn] at this; exact this
  have hag : ∀ k, k < n → isGrowB (getO H k) = false → gs1 k = gs k := fun k hk hg => C'.agree k (by rw [show lenO (envOf gs Pr w H).hs0 = lenO H from rfl, hHn]; exact hk) (fun h => by rw [show getO (envOf gs Pr w H).hs0 k = getO H k from rfl] at h; rw [isGrowB_iff.2 h] at hg; cases hg)
  -- what a live object of H is
  have hHl : ∀ k, live (gs k) (getO H k) → k ∈ labs d ∧ Df R (lenO hs) f k ∧ live (gs k) (objF f 0 R (getO hs) k) := by
    intro k hl
    by_cases hk : k ∈ labs d
    · rw [← hH, pre_obj hchk hlen hd T hk] at hl
      exact ⟨hk, (vis_D hchk hd T (chk_vis hchk hd hk)).1, hl⟩
    · rw [← hH, preO_out hk] at hl; exact hl.elim
  have hS : ∀ b, (envOf gs Pr w H).S b → ∃ k, k ∈ labs d ∧ Df R (lenO hs) f k ∧ live (gs k) (objF f 0 R (getO hs) k) ∧ b = (gs k).blk := by
    rintro b ⟨k, hk, hl, rfl⟩
    obtain ⟨h1, h2, h3⟩ := hHl k hl
    exact ⟨k, h1, h2, h3, rfl⟩
  have hSE : ∀ b, (envOf gs Pr w H).M b → E.M b := by
    rintro b (h | h)
    · obtain ⟨k, _, h2, h3, rfl⟩ := hS b h
      exact (C.rep.mine k h2 h3).1
    · exact .inr (Nat.le_trans C.kp.size h)
  have hPr : ∀ b, Pr b → Pr1 b := C'.p0
  have hPw : ∀ b, Pr b → w'.heap[b]? = w.heap[b]? := fun b hb => C'.kp.block b (C.rep.pr b hb) fun h => by
    obtain ⟨k, _, h2, h3, rfl⟩ := hS b h
    exact (C.rep.mine k h2 h3).2 hb
  let gs2 : Nat → Gh := fun k => match lkF d.fr k with
    | some (s, _) => gs1 s
    | none => gs k
  have hg2 : ∀ k, k ∉ keysF d.fr → gs2 k = gs k := fun k hk => by
    show (match lkF d.fr k with | some (s, _) => gs1 s | none => gs k) = gs k
    split
    · rename_i e; exact absurd (keysF_mem (lkF_some e)).1 hk
    · rfl
  have hg2f : ∀ k s o, lkF d.fr k = some (s, o) → gs2 k = gs1 s := fun k s o e => by
    show (match lkF d.fr k with | some (s, _) => gs1 s | none => gs k) = gs1 s
    rw [e]
  have hgD : ∀ k, Df R (lenO hs) f k → gs2 k = gs k := fun k hk => hg2 k (D_out hchk hd T hk)
  have hDD : ∀ k, Df R (lenO hs) f k → Df R (lenO hs) (K.up f i) k := fun k hk => by
    rcases hk with hk | ⟨j, e, he, hf, hke⟩
    · exact .inl hk
    · exact .inr ⟨j, e, he, by unfold K.up; split <;> simp [hf], hke⟩
  have hDn : ∀ k, k ∈ keysF d.fr → Df R (lenO hs) (K.up f i) k := fun k hk => .inr ⟨i, d, hd, if_pos rfl, hk⟩
  have hDi : ∀ k, Df R (lenO hs) (K.up f i) k → Df R (lenO hs) f k ∨ k ∈ keysF d.fr := fun k hk => by
    rcases hk with hk | ⟨j, e, he, hf, hke⟩
    · exact .inl (.inl hk)
    · by_cases hji : j = i
      · subst hji
        rw [hd] at he; injection he with he; subst he
        exact .inr hke
      · exact .inl (.inr ⟨j, e, he, by rw [K.up, if_neg hji] at hf; exact hf, hke⟩)
  have hkn := frs_one (chk_frs hchk) hd
  -- the labels' new names
  have hm : ∀ s j, dom hs' s → sig (lenO hs) n (visN R (cl.getD i [])) H d s = some j → Df R (lenO hs) (K.up f i) j ∧ gs2 j = gs1 s := by
    intro s j hs1 e
    unfold sig at e
    split at e
    · rename_i k e1
      injection e with e; subst e
      obtain ⟨o, ho⟩ := sigF_some e1 hkn
      exact ⟨hDn _ (keysF_mem (lkF_some ho)).1, hg2f _ _ _ ho⟩
    · split at e
      · rename_i e2
        have hsn : s < n := Nat.le_of_ble_eq_true e2
        split at e
        · cases e
        · rename_i e3
          have key : (s < lenO hs ∨ s ∈ visN R (cl.getD i [])) → Df R (lenO hs) (K.up f i) s ∧ gs2 s = gs1 s := fun h => by
            obtain ⟨h1, h2⟩ := vis_D hchk hd T h
            exact ⟨hDD s h1, by rw [hg2 s h2, hag s hsn e3]⟩
          split at e
          · rename_i e4
            injection e with e; subst e
            exact key (.inl (Nat.le_of_ble_eq_true e4))
          · split at e
            · rename_i e5
              injection e with e; subst e
              exact key (.inr (memN_iff.1 e5))
            · cases e
      · cases e
  have hobj : ∀ (k : Nat) (o : AObj) (s : Nat), mtcO o (renO (sig (lenO hs) n (visN R (cl.getD i [])) H d) (getO hs' s)) → gs2 k = gs1 s → Sr2 gs1 gs2 (Df R (lenO hs) (K.up f i)) Pr1 w' hs' k o s := by
    intro k o s h1 h2
    by_cases hs1 : s < lenO hs'
    · have h3 := renO_ok hm (C'.rep.obj s hs1)
      rw [← h2] at h3
      obtain ⟨h4, h5, _⟩ := mtcO_ok h1 h3
      exact ⟨h4, fun hl => ⟨by rw [← h2]; exact live_renO.1 (h5 hl), h2, hs1⟩⟩
    · have hdead : getO hs' s = .dead := by
        rw [getO_eq, List.getD_eq_getElem?_getD, List.getElem?_eq_none (by rw [lenO_eq] at hs1; omega)]; rfl
      rw [hdead] at h1
      have h3 : ObjOK gs2 (Df R (lenO hs) (K.up f i)) Pr1 w' (gs2 k) (renO (sig (lenO hs) n (visN R (cl.getD i [])) H d) .dead) := trivial
      obtain ⟨h4, h5, _⟩ := mtcO_ok h1 h3
      exact ⟨h4, fun hl => (h5 hl).elim⟩
  -- where each object came from
  have hsrc : ∀ k, (k ∈ labs d ∨ k ∈ keysF d.fr) → ∃ s, Sr2 gs1 gs2 (Df R (lenO hs) (K.up f i)) Pr1 w' hs' k (objF (K.up f i) 0 R (getO hs) k) s ∧ ((k ∈ keysF d.fr ∧ (∃ o, (k, s, o) ∈ d.fr)) ∨ (k ∉ keysF d.fr ∧ s = k)) := by
    intro k hk
    cases hw : lkO d.wr k with
    | some o =>
      have hno : newO d k = some o := by simp only [newO, hw]
      have hkl : k ∈ labs d := List.mem_append_right _ (keysO_mem (lkO_some hw))
      obtain ⟨hDk, hkf⟩ := vis_D hchk hd T (chk_vis hchk hd hkl)
      rw [up_touch hchk hlen hd T hno]
      obtain ⟨h1, h2, h3⟩ := wrOK_mem hJw (lkO_some hw)
      refine ⟨k, ?_, .inr ⟨hkf, rfl⟩⟩
      cases hg : isGrowB (getO H k) with
      | false => exact hobj k o k h1 (by rw [hg2 k hkf, hag k (chk_lt hchk hd hkl) hg])
      | true => rw [h3 hg]; exact ⟨trivial, fun h => h.elim⟩
    | none =>
      cases hfr : lkF d.fr k with
      | some p =>
        obtain ⟨s, o⟩ := p
        have hno : newO d k = some o := by simp only [newO, hw, hfr]
        rw [up_touch hchk hlen hd T hno]
        exact ⟨s, hobj k o s (frOK_mem hJf (lkF_some hfr)) (hg2f k s o hfr), .inl ⟨(keysF_mem (lkF_some hfr)).1, o, lkF_some hfr⟩⟩
      | none =>
        have hno : newO d k = none := by simp only [newO, hw, hfr]
        have hkf := lkF_none hfr
        have hkl : k ∈ labs d := by rcases hk with h | h; exact h; exact absurd h hkf
        have hkr : k ∈ d.rd := by
          rcases List.mem_append.1 hkl with h | h
          · exact h
          · exact absurd h (lkO_none hw)
        obtain ⟨h1, h2⟩ := rdOK_mem hJr hkr
        rw [up_same hd hno]
        have e := pre_obj hchk hlen hd T hkl
        rw [hH] at e
        rw [← e]
        exact ⟨k, hobj k _ k h1 (by rw [hg2 k hkf, hag k (chk_lt hchk hd hkl) h2]), .inr ⟨hkf, rfl⟩⟩
  -- the others
  have hfrm : ∀ k, Df R (lenO hs) f k → k ∉ labs d → gs2 k = gs k ∧ objF (K.up f i) 0 R (getO hs) k = objF f 0 R (getO hs) k ∧ (live (gs k) (objF f 0 R (getO hs) k) → w'.heap[(gs k).blk]? = w.heap[(gs k).blk]? ∧ (gs k).blk < w.heap.size ∧ ¬ (envOf gs Pr w H).S (gs k).blk) := by
    intro k hk hkl
    have hkf := D_out hchk hd T hk
    have hno : newO d k = none := by
      cases hno : newO d k with
      | none => rfl
      | some o =>
        unfold newO at hno
        split at hno
        · rename_i e; exact absurd (List.mem_append_right _ (keysO_mem (lkO_some e))) hkl
        · split at hno
          · rename_i e; exact absurd (keysF_mem (lkF_some e)).1 hkf
          · cases hno
    refine ⟨hg2 k hkf, up_same hd hno, fun hl => ?_⟩
    have hlt := (C.rep.obj k hk).lt hl
    have hns : ¬ (envOf gs Pr w H).S (gs k).blk := fun h => by
      obtain ⟨j, h1, h2, h3, h4⟩ := hS _ h
      have := C.rep.inj k j hk h2 hl h3 h4
      subst this
      exact hkl h1
    exact ⟨C'.kp.block _ hlt hns, hlt, hns⟩
  have hcase : ∀ k, Df R (lenO hs) (K.up f i) k → (k ∈ labs d ∨ k ∈ keysF d.fr) ∨ (Df R (lenO hs) f k ∧ k ∉ labs d) := fun k hk => by
    by_cases h : k ∈ labs d
    · exact .inl (.inl h)
    · rcases hDi k hk with h1 | h1
      · exact .inr ⟨h1, h⟩
      · exact .inl (.inr h1)
  refine ⟨gs2, ⟨fun k hk => ?_, fun x y hx hy lx ly e => ?_, fun k hk hl => ?_, C'.rep.pr, C'.rep.gl⟩, ?_, fun t => ?_, C'.dfs, ?_, fun b hb => hPr b (C.p0 b hb), fun b hb => ?_, fun k hk hg => ?_, C.len0, fun k hk hg => ?_⟩
  · rcases hcase k hk with h | ⟨h1, h2⟩
    · exact (hsrc k h).choose_spec.1.1
    · obtain ⟨h3, h4, h5⟩ := hfrm k h1 h2
      rw [h3, h4]
      exact (C.rep.obj k h1).mono hDD hgD hPr hPw (fun hl => (h5 hl).1)
  · have tf : ∀ x y, (x ∈ labs d ∨ x ∈ keysF d.fr) → (Df R (lenO hs) f y ∧ y ∉ labs d) → live (gs2 x) (objF (K.up f i) 0 R (getO hs) x) → live (gs2 y) (objF (K.up f i) 0 R (getO hs) y) → (gs2 x).blk = (gs2 y).blk → False := by
      intro x y hx ⟨hy1, hy2⟩ lx ly e
      obtain ⟨s, ⟨_, h2⟩, _⟩ := hsrc x hx
      obtain ⟨h3, h4, h5⟩ := h2 lx
      obtain ⟨h6, h7, h8⟩ := hfrm y hy1 hy2
      rw [h6, h7] at ly
      obtain ⟨_, h9, h10⟩ := h8 ly
      rw [h4, h6] at e
      rcases (C'.rep.mine s h5 h3).1 with hb | hb
      · exact h10 (e ▸ hb)
      · rw [e] at hb
        have : w.heap.size ≤ (gs y).blk := hb
        omega
    rcases hcase x hx with h1 | h1 <;> rcases hcase y hy with h2 | h2
    · obtain ⟨s, ⟨_, h3⟩, h4⟩ := hsrc x h1
      obtain ⟨s', ⟨_, h5⟩, h6⟩ := hsrc y h2
      obtain ⟨h7, h8, h9⟩ := h3 lx
      obtain ⟨h10, h11, h12⟩ := h5 ly
      rw [h8, h11] at e
      have hss := C'.rep.inj s s' h9 h12 h7 h10 e
      subst hss
      rcases h4 with ⟨ha1, o, ho⟩ | ⟨ha1, ha2⟩ <;> rcases h6 with ⟨hb1, o', ho'⟩ | ⟨hb1, hb2⟩
      · exact nodup_srcs (chk_srcs hchk hd) ho ho'
      · have h13 := chk_src hchk hd (keysF_mem ho).2
        subst hb2
        have := D_lt hchk hy
        omega
      · have h13 := chk_src hchk hd (keysF_mem ho').2
        subst ha2
        have := D_lt hchk hx
        omega
      · rw [← ha2, ← hb2]
    · exact (tf x y h1 h2 lx ly e).elim
    · exact (tf y x h2 h1 ly lx e.symm).elim
    · obtain ⟨h3, h4, _⟩ := hfrm x h1.1 h1.2
      obtain ⟨h5, h6, _⟩ := hfrm y h2.1 h2.2
      rw [h3, h4] at lx
      rw [h5, h6] at ly
      rw [h3, h5] at e
      exact C.rep.inj x y h1.1 h2.1 lx ly e
  · rcases hcase k hk with h | ⟨h1, h2⟩
    · obtain ⟨s, ⟨_, h3⟩, _⟩ := hsrc k h
      obtain ⟨h4, h5, h6⟩ := h3 hl
      obtain ⟨h7, h8⟩ := C'.rep.mine s h6 h4
      rw [h5]
      exact ⟨hSE _ h7, h8⟩
    · obtain ⟨h3, h4, h5⟩ := hfrm k h1 h2
      rw [h3, h4] at hl
      rw [h3]
      obtain ⟨h6, h7⟩ := C.rep.mine k h1 hl
      refine ⟨h6, fun hb => ?_⟩
      obtain ⟨_, h8, h9⟩ := h5 hl
      rcases C'.pm _ hb with h | h | h
      · exact h7 h
      · exact h9 h
      · have : w.heap.size ≤ (gs k).blk := h
        omega
  · rw [ha]
    cases q.dst <;> simp [Act.put, C.size]
  · have hold : ∀ {x : AV} {v : Value}, Cz gs (Df R (lenO hs) f) Pr w x v → Cz gs2 (Df R (lenO hs) (K.up f i)) Pr1 w' x v := fun h => h.mono hDD hgD hPr hPw
    by_cases hdt : q.dst = some t
    · have h1 := wrt_at (s := 0) (chk_dsts hchk) hq hd hdt
      rw [Nat.zero_add] at h1
      have h2 : tmF (K.up f i) l R tm t = d.v := by
        unfold tmF
        rw [h1]
        simp [K.up]
      rw [h2]
      rw [hdt] at hJd
      exact mtc_ok hJd (ren_ok hm (C'.tms t))
    · have h1 : tmF (K.up f i) l R tm t = tmF f l R tm t := by
        unfold tmF
        split
        · rename_i j v e
          obtain ⟨i', q', d', h1, h2, h3, h4, _⟩ := wrt_spec e
          have hji : j ≠ i := fun e' => by
            rw [e'] at h1
            rw [show i' = i by omega, hq] at h2
            injection h2 with h2
            subst h2
            exact hdt h4
          rw [K.up, if_neg hji]
        · rfl
      have h2 : a'.tmps.getD t undef = a.tmps.getD t undef := by
        rw [ha]
        cases hqd : q.dst with
        | none => rfl
        | some s =>
          have : s ≠ t := fun e => hdt (by rw [hqd, e])
          simp only [Act.put, Array.getD_eq_getD_getElem?]
          rw [Array.getElem?_setIfInBounds_ne this]
      rw [h1, h2]
      exact hold (C.tms t)
  · refine ⟨C'.kp.os.trans C.kp.os, C'.kp.tape.trans C.kp.tape, C'.kp.output.trans C.kp.output, Nat.le_trans C.kp.size C'.kp.size, fun b hb hnb => ?_⟩
    rw [C'.kp.block b (Nat.lt_of_lt_of_le hb C.kp.size) (fun h => ?_)]
    · exact C.kp.block b hb hnb
    · rcases hSE b (.inl h) with h | h
      · exact hnb h
      · omega
  · rcases C'.pm b hb with h | h
    · exact C.pm b h
    · exact .inr (hSE b h)
  · rw [hg2 k (fun h => by have := (chk_fr hchk hd h).1; have := C.len0; omega)]
    exact C.agree k hk hg
  · by_cases hk' : k ∈ labs d ∨ k ∈ keysF d.fr
    · cases hw : lkO d.wr k with
      | some o =>
        have hno : newO d k = some o := by simp only [newO, hw]
        rw [up_touch hchk hlen hd T hno] at hg
        have := (wrOK_mem hJw (lkO_some hw)).2.1
        rw [isGrowB_iff.2 hg] at this; cases this
      | none =>
        cases hfr : lkF d.fr k with
        | some p =>
          have := (chk_fr hchk hd (keysF_mem (lkF_some (s := p.1) (o := p.2) hfr)).1).1
          have := C.len0
          omega
        | none =>
          have hno : newO d k = none := by simp only [newO, hw, hfr]
          rw [up_same hd hno] at hg
          exact C.kind k hk hg
    · have hno : newO d k = none := by
        cases hno : newO d k with
        | none => rfl
        | some o =>
          exfalso
          unfold newO at hno
          split at hno
          · rename_i e; exact hk' (.inl (List.mem_append_right _ (keysO_mem (lkO_some e))))
          · split at hno
            · rename_i e; exact hk' (.inr (keysF_mem (lkF_some e)).1)
            · cases hno
      rw [up_same hd hno] at hg
      exact C.kind k hk hg
end
end Go.Proofs.YtlnafekmiidpkaaDoor.S
