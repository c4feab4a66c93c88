/- A region of open order: what holds by what was done; one operation more. -/
import Derived.Test.YtlnafekmiidpkaaDoorS22
namespace Go.Proofs.YtlnafekmiidpkaaDoor.S
set_option linter.all false
set_option linter.unusedVariables false
set_option linter.unusedSimpArgs false
def Df (R : List OpD) (n0 : Nat) (f : Nat → Bool) (k : Nat) : Prop := k < n0 ∨ ∃ j d, R[j]? = some d ∧ f j = true ∧ k ∈ keysF d.fr
structure RI (E : Env) (l : List AOper) (R : List OpD) (tm : List AV) (hs : List AObj) (gs : Nat → Gh) (Pr : Nat → Prop) (f : Nat → Bool) (a : Act) (w : World) : Prop where
  rep : Rep gs (Df R (lenO hs) f) Pr E.M (objF f 0 R (getO hs)) w
  size : a.tmps.size = tm.length
  tms : ∀ t, Cz gs (Df R (lenO hs) f) Pr w (tmF f l R tm t) (a.tmps.getD t undef)
  dfs : a.defers = []
  kp : Kp E w
  p0 : ∀ b, E.P0 b → Pr b
  pm : ∀ b, Pr b → E.P0 b ∨ E.M b
  agree : ∀ k, k < lenO E.hs0 → ¬ isGrow (getO E.hs0 k) → gs k = E.gs0 k
  len0 : lenO E.hs0 ≤ lenO hs
  kind : ∀ k, k < lenO E.hs0 → isGrow (objF f 0 R (getO hs) k) → isGrow (getO E.hs0 k)
/-- What is known of the others when operation i comes up. -/
structure Tn (cl : List (List Nat)) (m : Nat) (f : Nat → Bool) (i : Nat) : Prop where
  self : f i = false
  early : ∀ j ∈ cl.getD i [], f j = true
  late : ∀ j, j < m → i ∈ cl.getD j [] → f j = false
section
variable {E : Env} {l : List AOper} {cl : List (List Nat)} {R : List OpD} {tm : List AV} {hs : List AObj} {n : Nat} {gs : Nat → Gh} {Pr : Nat → Prop} {f : Nat → Bool} {a : Act} {w : World} {i : Nat} {q : AOper} {d : OpD}
variable (hchk : chkR cl l R (lenO hs) n = true) (hlen : R.length = l.length) (hq : l[i]? = some q) (hd : R[i]? = some d) (T : Tn cl l.length f i)
section
include hchk
theorem chk_dsts : (dsts l).Nodup := by simp only [chkR, Bool.and_eq_true, decide_eq_true_eq] at hchk; exact hchk.1.1.1
theorem chk_frs : (frs R).Nodup := by simp only [chkR, Bool.and_eq_true, decide_eq_true_eq] at hchk; exact hchk.1.1.2
theorem chk_n : lenO hs ≤ n := by simp only [chkR, Bool.and_eq_true] at hchk; exact Nat.le_of_ble_eq_true hchk.1.2
include hd
theorem chk_one : chk1 cl R (lenO hs) n i d = true := by
  simp only [chkR, Bool.and_eq_true, List.all_eq_true, List.mem_range] at hchk
  have := hchk.2 i (List.getElem?_eq_some_iff.1 hd).1
  rw [hd] at this
  simpa using this
theorem chk_lt {k : Nat} (hk : k ∈ labs d) : k < n := by
  have := chk_one hchk hd
  simp only [chk1, Bool.and_eq_true, List.all_eq_true] at this
  exact Nat.le_of_ble_eq_true (this.1.1.1.2 k hk)
theorem chk_fr {k : Nat} (hk : k ∈ keysF d.fr) : lenO hs ≤ k ∧ k < n := by
  have := chk_one hchk hd
  simp only [chk1, Bool.and_eq_true, List.all_eq_true] at this
  obtain ⟨h1, h2⟩ := this.1.1.2 k hk
  exact ⟨Nat.le_of_ble_eq_true h1, Nat.le_of_ble_eq_true h2⟩
theorem chk_src {s : Nat} (hk : s ∈ srcsF d.fr) : n ≤ s := by
  have := chk_one hchk hd
  simp only [chk1, Bool.and_eq_true, List.all_eq_true] at this
  exact Nat.le_of_ble_eq_true (this.1.2 s hk)
theorem chk_srcs : (srcsF d.fr).Nodup := by
  have := chk_one hchk hd
  simp only [chk1, Bool.and_eq_true, decide_eq_true_eq] at this
  exact this.2
theorem chk_vis {k : Nat} (hk : k ∈ labs d) : k < lenO hs ∨ k ∈ visN R (cl.getD i []) := by
  have := chk_one hchk hd
  simp only [chk1, Bool.and_eq_true, List.all_eq_true, Bool.or_eq_true] at this
  rcases this.1.1.1.1.2 k hk with h | h
  · exact .inl (Nat.le_of_ble_eq_true h)
  · exact .inr (memN_iff.1 h)
theorem chk_ord {k j : Nat} {e : OpD} (hk : k ∈ labs d ∨ k ∈ keysF d.fr) (he : R[j]? = some e) (ht : touchB e k = true) (hne : j ≠ i) : ordB cl i j = true := by
  have := chk_one hchk hd
  simp only [chk1, Bool.and_eq_true, List.all_eq_true] at this
  have := this.1.1.1.1.1 k (List.mem_append.2 hk)
  simp only [ordsB, List.all_eq_true, List.mem_range, Bool.or_eq_true] at this
  rcases this j (List.getElem?_eq_some_iff.1 he).1 with (h | h) | h
  · exact absurd (by simpa using h) hne
  · rw [he] at h; simp [ht] at h
  · exact h
include T hlen
theorem tn_ord {k j : Nat} {e : OpD} (hk : k ∈ labs d ∨ k ∈ keysF d.fr) (he : R[j]? = some e) (ht : touchB e k = true) (hne : j ≠ i) : (j < i → f j = true) ∧ (i < j → f j = false) := by
  have := chk_ord hchk hd hk he ht hne
  unfold ordB at this
  have hj : j < l.length := by rw [← hlen]; exact (List.getElem?_eq_some_iff.1 he).1
  refine ⟨fun h => ?_, fun h => ?_⟩
  · rw [show Nat.blt j i = true from Nat.ble_eq_true_of_le h] at this
    exact T.early j (memN_iff.1 this)
  · rw [show Nat.blt j i = false from Bool.eq_false_iff.2 fun e => by have : j < i := Nat.le_of_ble_eq_true e; omega] at this
    exact T.late j hj (memN_iff.1 this)
theorem pre_obj {k : Nat} (hk : k ∈ labs d) : getO (preO R hs n (cl.getD i []) d) k = objF f 0 R (getO hs) k := by
  rw [preO_in hk (chk_lt hchk hd hk)]
  refine objF_ext R 0 _ _ (fun j e he ht => ?_) rfl
  rw [Nat.zero_add]
  by_cases hne : j = i
  · subst hne
    rw [T.self]
    cases h : memN (cl.getD j []) j with
    | false => rfl
    | true => have := T.early j (memN_iff.1 h); rw [T.self] at this; exact this.symm
  · obtain ⟨h1, h2⟩ := tn_ord hchk hlen hd T (.inl hk) he ht hne
    have hm : memN (cl.getD i []) j = true → f j = true := fun h => T.early j (memN_iff.1 h)
    rcases Nat.lt_or_gt_of_ne hne with h | h
    · have hord := chk_ord hchk hd (.inl hk) he ht hne
      unfold ordB at hord
      rw [show Nat.blt j i = true from Nat.ble_eq_true_of_le h] at hord
      rw [show memN (cl.getD i []) j = true from hord, h1 h]
    · rw [h2 h]
      cases hm' : memN (cl.getD i []) j with
      | false => rfl
      | true => rw [hm hm'] at h2; exact (h2 h)
omit hlen in
theorem up_ne {j : Nat} (h : j ≠ i) : K.up f i j = f j := if_neg h
theorem up_touch {k : Nat} {o : AObj} (hn : newO d k = some o) : objF (K.up f i) 0 R (getO hs) k = o := by
  have hk : k ∈ labs d ∨ k ∈ keysF d.fr := by
    unfold newO at hn
    split at hn
    · rename_i e; exact .inl (List.mem_append_right _ (keysO_mem (lkO_some e)))
    · split at hn
      · rename_i e; exact .inr (keysF_mem (lkF_some e)).1
      · cases hn
  refine objF_at hn R i 0 _ hd (by rw [Nat.zero_add]; exact if_pos rfl) (fun j e hij he ht => ?_)
  rw [Nat.zero_add, K.up, if_neg (by omega)]
  exact (tn_ord hchk hlen hd T hk he ht (by omega)).2 hij
omit hlen T hchk in
theorem up_same {k : Nat} (hn : newO d k = none) : objF (K.up f i) 0 R (getO hs) k = objF f 0 R (getO hs) k := by
  refine objF_ext R 0 _ _ (fun j e he ht => ?_) rfl
  rw [Nat.zero_add]
  by_cases hne : j = i
  · subst hne
    rw [hd] at he
    injection he with he
    subst he
    simp [touchB, hn] at ht
  · exact if_neg hne
omit hlen in
theorem vis_D {k : Nat} (hk : k < lenO hs ∨ k ∈ visN R (cl.getD i [])) : Df R (lenO hs) f k ∧ k ∉ keysF d.fr := by
  rcases hk with hk | hk
  · exact ⟨.inl hk, fun h => by have := (chk_fr hchk hd h).1; omega⟩
  · obtain ⟨j, hj, e, he, hke⟩ := visN_mem hk
    refine ⟨.inr ⟨j, e, he, T.early j hj, hke⟩, fun h => ?_⟩
    have := frs_inj (chk_frs hchk) hd he h hke
    subst this
    have := T.early i hj
    rw [T.self] at this; cases this
omit hlen in
theorem D_out {k : Nat} (hk : Df R (lenO hs) f k) : k ∉ keysF d.fr := by
  intro h
  rcases hk with hk | ⟨j, e, he, hf, hke⟩
  · have := (chk_fr hchk hd h).1; omega
  · have := frs_inj (chk_frs hchk) hd he h hke
    subst this
    rw [T.self] at hf; cases hf
end
theorem D_lt (hchk : chkR cl l R (lenO hs) n = true) {f : Nat → Bool} {k : Nat} (hk : Df R (lenO hs) f k) : k < n := by
  rcases hk with hk | ⟨j, e, he, hf, hke⟩
  · have := chk_n hchk; omega
  · exact (chk_fr hchk he hke).2
/-- What an operation finds. -/
theorem ri_pre (hchk : chkR cl l R (lenO hs) n = true) (hlen : R.length = l.length) (hq : l[i]? = some q) (hd : R[i]? = some d) (T : Tn cl l.length f i) (C : RI E l R tm hs gs Pr f a w) :
    Conc (envOf gs Pr w (preO R hs n (cl.getD i []) d)) gs Pr (preT l cl R tm i (cl.getD i []) q) (preO R hs n (cl.getD i []) d) a w := by
  have hin : ∀ k, live (gs k) (getO (preO R hs n (cl.getD i []) d) k) → k ∈ labs d ∧ Df R (lenO hs) f k ∧ live (gs k) (objF f 0 R (getO hs) k) := by
    intro k hl
    by_cases hk : k ∈ labs d
    · rw [pre_obj hchk hlen hd T hk] at hl
      exact ⟨hk, (vis_D hchk hd T (chk_vis hchk hd hk)).1, hl⟩
    · rw [preO_out hk] at hl; exact hl.elim
  have hsub : ∀ k, Df R (lenO hs) f k → dom (preO R hs n (cl.getD i []) d) k := fun k hk => by
    show k < lenO _
    rw [preO_len]; exact D_lt hchk hk
  refine ⟨⟨fun k hk => ?_, fun x y hx hy lx ly e => ?_, fun k hk hl => ?_, C.rep.pr, C.rep.gl⟩, ?_, fun t => ?_, C.dfs, ⟨rfl, rfl, rfl, Nat.le_refl _, fun _ _ _ => rfl⟩, fun _ h => h, fun _ h => .inl h, fun _ _ _ => rfl, Nat.le_refl _, fun _ _ h => h⟩
  · by_cases hk' : k ∈ labs d
    · rw [pre_obj hchk hlen hd T hk']
      exact (C.rep.obj k (vis_D hchk hd T (chk_vis hchk hd hk')).1).mono hsub (fun _ _ => rfl) (fun _ h => h) (fun _ _ => rfl) (fun _ => rfl)
    · rw [preO_out hk']; trivial
  · obtain ⟨_, h1, h2⟩ := hin x lx
    obtain ⟨_, h3, h4⟩ := hin y ly
    exact C.rep.inj x y h1 h3 h2 h4 e
  · obtain ⟨_, h1, h2⟩ := hin k hl
    exact ⟨.inl ⟨k, hk, hl, rfl⟩, (C.rep.mine k h1 h2).2⟩
  · rw [C.size]
    unfold preT
    rw [setTs_len, anys_eq, lenA_eq]; simp
  · unfold preT
    rcases setTs_get (preV l cl R tm i (cl.getD i [])) (usesO q) (anys (lenA tm)) t with h | h
    · rw [h]
      have ht := C.tms t
      unfold tmF at ht
      unfold preV
      split at ht
      · rename_i j v e
        rw [e]
        simp only
        split
        · rename_i hm
          rw [T.early j (memN_iff.1 hm)] at ht
          exact ht.mono hsub (fun _ _ => rfl) (fun _ h => h) (fun _ _ => rfl)
        · split
          · rename_i hm
            obtain ⟨i', q', d', h1, h2, _⟩ := wrt_spec e
            have hj : j < l.length := by have := (List.getElem?_eq_some_iff.1 h2).1; omega
            rw [T.late j hj (memN_iff.1 hm)] at ht
            exact ht.mono hsub (fun _ _ => rfl) (fun _ h => h) (fun _ _ => rfl)
          · exact .any _
      · rename_i e
        rw [e]
        exact ht.mono hsub (fun _ _ => rfl) (fun _ h => h) (fun _ _ => rfl)
    · rw [h, anys_get]; exact .any _
end
end Go.Proofs.YtlnafekmiidpkaaDoor.S
