/- A call by a contract; loops; rows that become values. -/
import Derived.Test.YtlnafekmiidpkaaDoorS18
namespace Go.Proofs.YtlnafekmiidpkaaDoor.S
set_option linter.all false
set_option linter.unusedVariables false
set_option linter.unusedSimpArgs false
def nthN : List Nat → Nat → Nat → Nat
  | [], d, _ => d
  | x :: _, _, 0 => x
  | _ :: l, d, k + 1 => nthN l d k
/-- The callee's labels, as the caller numbers them. -/
def upM (u : List Nat) (n m k : Nat) : Option Nat := match Nat.blt k n with
  | true => some (nthN u 0 k)
  | false => some (m + (k - n))
def matchO (m : Nat → Option Nat) (hs : List AObj) : List Nat → List AObj → Prop
  | [], [] => True
  | k :: us, o :: os => getO hs k = renO m o ∧ matchO m hs us os
  | _, _ => False
def plOs : List AObj → Bool
  | [] => true
  | o :: l => match plO o with
    | true => plOs l
    | false => false
/-- Labels that may stand for another slice behind the call. -/
def grows : List Nat → List AObj → List Nat
  | k :: us, .grow .. :: os => k :: grows us os
  | _ :: us, _ :: os => grows us os
  | _, _ => []
def killsA : List Nat → List AV → List AV
  | [], tm => tm
  | k :: l, tm => killsA l (kills k tm)
def killOsA : List Nat → List AObj → List AObj
  | [], hs => hs
  | k :: l, hs => killOsA l (killOs k hs)
def snocAll (m : Nat → Option Nat) : List AObj → List AObj → List AObj
  | [], hs => hs
  | o :: os, hs => snocAll m os (snocO hs (renO m o))
def putAll (m : Nat → Option Nat) : List Nat → List AObj → List AObj → List AObj
  | k :: us, o :: os, hs => putAll m us os (setO hs k (renO m o))
  | [], os, hs => snocAll m os hs
  | _ :: _, [], hs => hs
def ltAll (m : Nat) : List Nat → Bool
  | [] => true
  | k :: l => Nat.blt k m && (idxN l k 0).isNone && ltAll m l
theorem ltAll_mem {m : Nat} : ∀ {l : List Nat}, ltAll m l = true → (∀ k ∈ l, k < m) ∧ l.Nodup
  | [], _ => ⟨fun k h => by simp at h, List.nodup_nil⟩
  | k :: l, h => by
    simp only [ltAll, Bool.and_eq_true, Nat.blt_eq, Option.isNone_iff_eq_none] at h
    obtain ⟨⟨h1, h2⟩, h3⟩ := h
    obtain ⟨h4, h5⟩ := ltAll_mem h3
    refine ⟨fun j hj => ?_, List.nodup_cons.2 ⟨idxN_none h2, h5⟩⟩
    rcases List.mem_cons.1 hj with rfl | hj
    · exact h1
    · exact h4 j hj
theorem nthN_eq : ∀ (l : List Nat) (d k : Nat), nthN l d k = l.getD k d
  | [], d, k => by simp [nthN]
  | x :: l, d, 0 => rfl
  | x :: l, d, k + 1 => by simpa [nthN] using nthN_eq l d k
theorem matchO_get {m : Nat → Option Nat} {hs : List AObj} : ∀ {us : List Nat} {os : List AObj}, matchO m hs us os → us.length = lenO os ∧ ∀ (i k : Nat), us[i]? = some k → getO hs k = renO m (getO os i)
  | [], [], _ => ⟨rfl, fun i k h => by simp at h⟩
  | k :: us, o :: os, h => by
    obtain ⟨h1, h2⟩ := h
    obtain ⟨h3, h4⟩ := matchO_get h2
    refine ⟨by simp [lenO, h3], fun i j hj => ?_⟩
    cases i with
    | zero => simp at hj; subst hj; exact h1
    | succ i => exact h4 i j (by simpa using hj)
  | [], _ :: _, h => h.elim
  | _ :: _, [], h => h.elim
theorem plOs_get : ∀ {os : List AObj}, plOs os = true → ∀ i, plO (getO os i) = true
  | [], _, i => rfl
  | o :: os, h, i => by
    simp only [plOs] at h
    split at h
    · rename_i e
      cases i with
      | zero => exact e
      | succ i => exact plOs_get h i
    · cases h
theorem grows_mem : ∀ {us : List Nat} {os : List AObj} {i k : Nat}, us[i]? = some k → i < lenO os → isGrow (getO os i) → k ∈ grows us os
  | [], os, i, k, h, _, _ => by simp at h
  | x :: us, [], i, k, h, hi, _ => by simp [lenO] at hi
  | x :: us, o :: os, 0, k, h, hi, hg => by
    simp at h; subst h
    cases o <;> first | exact hg.elim | skip
    simp [grows]
  | x :: us, o :: os, i + 1, k, h, hi, hg => by
    have := grows_mem (us := us) (os := os) (by simpa using h) (by simp [lenO] at hi; exact hi) hg
    cases o <;> simp [grows, this]
theorem snocAll_eq (m : Nat → Option Nat) : ∀ (os hs : List AObj), snocAll m os hs = hs ++ os.map (renO m)
  | [], hs => by simp [snocAll]
  | o :: os, hs => by simp [snocAll, snocAll_eq m os, snocO_eq]
theorem putAll_len (m : Nat → Option Nat) : ∀ (us : List Nat) (os hs : List AObj), us.length ≤ lenO os → lenO (putAll m us os hs) = lenO hs + (lenO os - us.length)
  | [], os, hs, _ => by simp [putAll, snocAll_eq, lenO_eq]
  | k :: us, [], hs, h => by simp [lenO] at h
  | k :: us, o :: os, hs, h => by
    simp only [putAll]
    rw [putAll_len m us os _ (by simp [lenO] at h; exact h)]
    have : lenO (setO hs k (renO m o)) = lenO hs := by simp [lenO_eq, setO_eq]
    simp only [this, lenO, List.length_cons]; omega
theorem putAll_old (m : Nat → Option Nat) : ∀ (us : List Nat) (os hs : List AObj) (k : Nat), k < lenO hs → k ∉ us → us.length ≤ lenO os → getO (putAll m us os hs) k = getO hs k
  | [], os, hs, k, hk, _, _ => by
    simp only [putAll, snocAll_eq, getO_eq, List.getD_eq_getElem?_getD]
    rw [lenO_eq] at hk
    rw [List.getElem?_append_left hk]
  | j :: us, [], hs, k, hk, _, h => by simp [lenO] at h
  | j :: us, o :: os, hs, k, hk, hn, h => by
    simp only [List.mem_cons, not_or] at hn
    simp only [putAll]
    rw [putAll_old m us os _ k (by simp only [lenO_eq, setO_eq, List.length_set] at hk ⊢; exact hk) hn.2 (by simp [lenO] at h; exact h)]
    simp only [getO_eq, setO_eq, List.getD_eq_getElem?_getD]
    rw [List.getElem?_set_ne (fun e => hn.1 e.symm)]
theorem putAll_at (m : Nat → Option Nat) : ∀ (us : List Nat) (os hs : List AObj) (i k : Nat), us.Nodup → (∀ k ∈ us, k < lenO hs) → us.length ≤ lenO os → us[i]? = some k → getO (putAll m us os hs) k = renO m (getO os i)
  | [], os, hs, i, k, _, _, _, h => by simp at h
  | j :: us, [], hs, i, k, _, _, h, _ => by simp [lenO] at h
  | j :: us, o :: os, hs, i, k, hn, hl, h, hi => by
    obtain ⟨h1, h2⟩ := List.nodup_cons.1 hn
    have hl' : ∀ k ∈ us, k < lenO (setO hs j (renO m o)) := fun k hk => by
      have := hl k (by simp [hk])
      simp only [lenO_eq, setO_eq, List.length_set] at this ⊢; exact this
    simp only [putAll]
    cases i with
    | zero =>
      simp at hi; subst hi
      have hj := hl j (by simp)
      rw [putAll_old m us os _ j (by simp only [lenO_eq, setO_eq, List.length_set] at hj ⊢; exact hj) h1 (by simp [lenO] at h; exact h)]
      rw [getO_set hj, upd_self]; rfl
    | succ i =>
      exact putAll_at m us os _ i k h2 hl' (by simp [lenO] at h; exact h) (by simpa using hi)
theorem putAll_new (m : Nat → Option Nat) : ∀ (us : List Nat) (os hs : List AObj) (j : Nat), us.length + j < lenO os → getO (putAll m us os hs) (lenO hs + j) = renO m (getO os (us.length + j))
  | [], os, hs, j, h => by
    simp only [putAll, snocAll_eq, getO_eq, List.getD_eq_getElem?_getD, lenO_eq, List.length_nil, Nat.zero_add] at h ⊢
    rw [List.getElem?_append_right (by omega), Nat.add_sub_cancel_left, List.getElem?_map]
    rw [List.getElem?_eq_getElem h]; rfl
  | k :: us, [], hs, j, h => by simp [lenO] at h
  | k :: us, o :: os, hs, j, h => by
    have : lenO (setO hs k (renO m o)) = lenO hs := by simp [lenO_eq, setO_eq]
    simp only [putAll]
    rw [← this, putAll_new m us os _ j (by simp [lenO] at h; omega)]
    rw [show (k :: us).length + j = (us.length + j) + 1 by simp; omega]; rfl
theorem killsA_getL : ∀ (l : List Nat) (tm : List AV) (i : Nat), getL (killsA l tm) i = l.foldl (fun x k => kill k x) (getL tm i)
  | [], tm, i => rfl
  | k :: l, tm, i => by
    simp only [killsA, List.foldl_cons]
    rw [killsA_getL l, kills_get]
theorem killsA_len : ∀ (l : List Nat) (tm : List AV), (killsA l tm).length = tm.length
  | [], tm => rfl
  | k :: l, tm => by simp only [killsA]; rw [killsA_len l, kills_len]
theorem killOsA_get : ∀ (l : List Nat) (hs : List AObj) (i : Nat), getO (killOsA l hs) i = l.foldl (fun x k => killO k x) (getO hs i)
  | [], hs, i => rfl
  | k :: l, hs, i => by
    simp only [killOsA, List.foldl_cons]
    rw [killOsA_get l, killOs_get]
theorem killOsA_len : ∀ (l : List Nat) (hs : List AObj), lenO (killOsA l hs) = lenO hs
  | [], hs => rfl
  | k :: l, hs => by simp only [killOsA]; rw [killOsA_len l, killOs_len]
section
variable {gs gs' : Nat → Gh} {D Pr : Nat → Prop} {w : World}
theorem killsA_ok : ∀ (l : List Nat) (gs : Nat → Gh) (x : AV) (v : Value), (∀ k, D k → k ∉ l → gs' k = gs k) → Cz gs D Pr w x v → Cz gs' D Pr w (l.foldl (fun x k => kill k x) x) v
  | [], gs, x, v, hg, h => h.mono (fun _ h => h) (fun k hk => hg k hk (by simp)) (fun _ h => h) (fun _ _ => rfl)
  | j :: l, gs, x, v, hg, h => killsA_ok l (upd gs j (gs' j)) _ v (fun k hk hn => by
      by_cases e : k = j
      · subst e; rw [upd_self]
      · rw [upd_ne _ _ e]; exact hg k hk (by simp [e, hn])) (kill_ok h)
theorem killOsA_ok {g : Gh} : ∀ (l : List Nat) (gs : Nat → Gh) (o : AObj), (∀ k, D k → k ∉ l → gs' k = gs k) → ObjOK gs D Pr w g o → ObjOK gs' D Pr w g (l.foldl (fun x k => killO k x) o)
  | [], gs, o, hg, h => by
    have : ObjOK gs' D Pr w g o := by
      cases o with
      | cells t cs =>
        obtain ⟨c, fr, h1, h2, h3, h4, h5⟩ := h
        exact ⟨c, fr, h1, h2, h3, h4, fun j a v e1 e2 => (h5 j a v e1 e2).mono (fun _ h => h) (fun k hk => hg k hk (by simp)) (fun _ h => h) (fun _ _ => rfl)⟩
      | iter x c seen =>
        obtain ⟨b, h1, h2⟩ := h
        exact ⟨b, h1, h2.mono (fun _ h => h) (fun k hk => hg k hk (by simp)) (fun _ h => h) (fun _ _ => rfl)⟩
      | _ => exact h
    exact this
  | j :: l, gs, o, hg, h => killOsA_ok l (upd gs j (gs' j)) _ (fun k hk hn => by
      by_cases e : k = j
      · subst e; rw [upd_self]
      · rw [upd_ne _ _ e]; exact hg k hk (by simp [e, hn])) (killO_ok h)
theorem live_killOsA {g : Gh} : ∀ (l : List Nat) (o : AObj), live g (l.foldl (fun x k => killO k x) o) ↔ live g o
  | [], o => Iff.rfl
  | k :: l, o => (live_killOsA l _).trans live_killO
theorem grow_killOsA : ∀ (l : List Nat) (o : AObj), isGrow (l.foldl (fun x k => killO k x) o) ↔ isGrow o
  | [], o => Iff.rfl
  | k :: l, o => (grow_killOsA l _).trans (by cases o <;> exact Iff.rfl)
end
theorem nodup_inj {l : List Nat} (h : l.Nodup) {i j k : Nat} (h1 : l[i]? = some k) (h2 : l[j]? = some k) : i = j := by
  obtain ⟨hi, e1⟩ := List.getElem?_eq_some_iff.1 h1
  obtain ⟨hj, e2⟩ := List.getElem?_eq_some_iff.1 h2
  exact (List.getElem_inj h).1 (e1.trans e2.symm)
/-- A CALL BY A CONTRACT: 'u' tells which of the caller's labels the callee's are. -/
theorem aw_call {P : Program} {rs : List ARes} {f : Nat} {sargs args : List AV} {shs hs : List AObj} {spost post : AV → List AObj → Prop} {dst : Option Nat} {todo : List AItem} {tm : List AV} (HC : ACalls P f sargs shs spost) (u : List Nat)
    (hu : ltAll (lenO hs) u = true) (hargs : rens (upM u (lenO shs) (lenO hs)) sargs = args) (hpa : pl1L sargs = true) (hobj : matchO (upM u (lenO shs) (lenO hs)) hs u shs) (hpo : plOs shs = true)
    (hrest : ∀ r shs', spost r shs' → lenO shs ≤ lenO shs' → AW P rs todo (putL (killsA (grows u shs) tm) dst (ren (upM u (lenO shs) (lenO hs)) r)) (putAll (upM u (lenO shs) (lenO hs)) u shs' (killOsA (grows u shs) hs)) post) : ACall P rs f args dst todo tm hs post := by
  intro fn hrs E mt hi gs Pr a w C vs hvs
  refine ⟨callFunc_enter HC.1 vs w, ?_⟩
  obtain ⟨hu1, hu2⟩ := ltAll_mem hu
  obtain ⟨hul, hmo⟩ := matchO_get hobj
  -- the callee's labels
  have hupE : ∀ k, upM u (lenO shs) (lenO hs) k = some (if k < lenO shs then u.getD k 0 else lenO hs + (k - lenO shs)) := by
    intro k
    unfold upM
    split
    · rename_i e
      have e : k < lenO shs := by simpa [Nat.blt_eq] using e
      rw [if_pos e, nthN_eq]
    · rename_i e
      have e : ¬ k < lenO shs := fun h => by rw [show k.blt (lenO shs) = true from by simpa [Nat.blt_eq] using h] at e; cases e
      rw [if_neg e]
  let U : Nat → Nat := fun k => if k < lenO shs then u.getD k 0 else lenO hs + (k - lenO shs)
  have hup : upM u (lenO shs) (lenO hs) = fun k => some (U k) := funext hupE
  have hUlt : ∀ i, i < lenO shs → u[i]? = some (U i) ∧ U i < lenO hs := by
    intro i hi
    have hi' : i < u.length := by omega
    have : U i = u[i] := by
      show (if i < lenO shs then u.getD i 0 else _) = _
      rw [if_pos hi, List.getD_eq_getElem?_getD, List.getElem?_eq_getElem hi']; rfl
    rw [this]
    exact ⟨List.getElem?_eq_getElem hi', hu1 _ (List.getElem_mem hi')⟩
  have hUinj : ∀ i j, i < lenO shs → j < lenO shs → U i = U j → i = j := by
    intro i j hi hj e
    obtain ⟨h1, _⟩ := hUlt i hi
    obtain ⟨h2, _⟩ := hUlt j hj
    rw [e] at h1
    exact nodup_inj hu2 h1 h2
  have hback : ∀ k, dom hs (U k) → dom shs k ∧ gs (U k) = (fun i => gs (U i)) k := by
    intro k hk
    refine ⟨?_, rfl⟩
    apply Decidable.byContradiction
    intro hn
    have hn : ¬ k < lenO shs := hn
    have hk : (if k < lenO shs then u.getD k 0 else lenO hs + (k - lenO shs)) < lenO hs := hk
    rw [if_neg hn] at hk
    omega
  rw [hup] at hargs hmo hrest
  have hso : ∀ i, i < lenO shs → ObjOK (fun i => gs (U i)) (dom shs) Pr w (gs (U i)) (getO shs i) := by
    intro i hi
    obtain ⟨h1, h2⟩ := hUlt i hi
    have := C.rep.obj (U i) h2
    rw [hmo i _ h1] at this
    exact backO hback (plOs_get hpo i) this
  have hsl : ∀ i, i < lenO shs → (live (gs (U i)) (getO hs (U i)) ↔ live (gs (U i)) (getO shs i)) := by
    intro i hi
    rw [hmo i _ (hUlt i hi).1]
    exact live_renO
  have hrep : Rep (fun i => gs (U i)) (dom shs) Pr (envOf (fun i => gs (U i)) Pr w shs).M (getO shs) w := by
    refine ⟨hso, fun i j hi hj li lj e => hUinj i j hi hj (C.rep.inj _ _ (hUlt i hi).2 (hUlt j hj).2 ((hsl i hi).2 li) ((hsl j hj).2 lj) e), fun i hi li => ⟨.inl ⟨i, hi, li, rfl⟩, (C.rep.mine _ (hUlt i hi).2 ((hsl i hi).2 li)).2⟩, C.rep.pr, C.rep.gl⟩
  have hvs' : Czs (fun i => gs (U i)) (dom shs) Pr w sargs vs := by
    rw [← hargs] at hvs
    refine ⟨by have := hvs.1; rw [rens_len] at this; exact this, fun j x v e1 e2 => ?_⟩
    exact back_ren hback (pl1L_mem hpa x (List.mem_of_getElem? e1)) (hvs.2 j _ v (by rw [rens_get, e1]; rfl) e2)
  refine (HC.2 (fun i => gs (U i)) Pr w vs hrep hvs').mono fun e w' hfin => ?_
  obtain ⟨v, r, shs', gs1, Pr1, rfl, hpost, hz, hr1, hk1, hp0, hpm, hag, hlen, hkd⟩ := hfin
  have hlen : lenO shs ≤ lenO shs' := hlen
  refine ⟨v, rfl, ?_⟩
  have hul' : u.length ≤ lenO shs' := by omega
  -- what labels stand for behind the call
  let inv : Nat → Option Nat := fun k => idxN u k 0
  let gs2 : Nat → Gh := fun k => if k < lenO hs then (match inv k with | some i => gs1 i | none => gs k) else gs1 (lenO shs + (k - lenO hs))
  have hinvU : ∀ i, i < lenO shs → gs2 (U i) = gs1 i := by
    intro i hi
    obtain ⟨h1, h2⟩ := hUlt i hi
    show (if U i < lenO hs then _ else _) = _
    rw [if_pos h2]
    cases hiv : inv (U i) with
    | none => exact absurd (List.mem_of_getElem? h1) (idxN_none hiv)
    | some j =>
      obtain ⟨_, h3⟩ := idxN_some hiv
      have h3 : u[j]? = some (U i) := by simpa using h3
      have : j = i := nodup_inj hu2 h3 h1
      rw [this]
  have hout : ∀ k, k < lenO hs → k ∉ u → gs2 k = gs k := by
    intro k hk hn
    show (if k < lenO hs then _ else _) = _
    rw [if_pos hk]
    cases hiv : inv k with
    | none => rfl
    | some j =>
      obtain ⟨_, h3⟩ := idxN_some hiv
      exact absurd (List.mem_of_getElem? h3) hn
  have hnew : ∀ k, lenO shs ≤ k → gs2 (U k) = gs1 k := by
    intro k hk
    have hU : U k = lenO hs + (k - lenO shs) := if_neg (by omega)
    show (if U k < lenO hs then _ else _) = _
    rw [hU, if_neg (by omega)]
    congr 1; omega
  have hgsU : ∀ k, gs2 (U k) = gs1 k := fun k => by
    by_cases hk : k < lenO shs
    · exact hinvU k hk
    · exact hnew k (by omega)
  have hlen2 : lenO (putAll (fun k => some (U k)) u shs' (killOsA (grows u shs) hs)) = lenO hs + (lenO shs' - lenO shs) := by
    rw [putAll_len _ _ _ _ hul', killOsA_len, hul]
  have hm : ∀ k j, dom shs' k → (fun k => some (U k)) k = some j → dom (putAll (fun k => some (U k)) u shs' (killOsA (grows u shs) hs)) j ∧ gs2 j = gs1 k := by
    intro k j hk e
    injection e with e
    subst e
    refine ⟨?_, hgsU k⟩
    show U k < lenO _
    rw [hlen2]
    have hk : k < lenO shs' := hk
    by_cases h : k < lenO shs
    · have := (hUlt k h).2; omega
    · have hU : U k = lenO hs + (k - lenO shs) := if_neg h
      omega
  have hkeep : ∀ k, dom hs k → k ∉ grows u shs → gs2 k = gs k := by
    intro k hk hn
    by_cases hku : k ∈ u
    · obtain ⟨i, hi⟩ := List.getElem?_of_mem hku
      have hil : i < lenO shs := by have := (List.getElem?_eq_some_iff.1 hi).1; omega
      have hUi : U i = k := by
        have := (hUlt i hil).1
        rw [hi] at this
        injection this with this; exact this.symm
      rw [← hUi, hinvU i hil]
      have hng : ¬ isGrow (getO shs i) := fun h => hn (grows_mem hi hil h)
      exact hag i hil hng
    · exact hout k hk hku
  have hgetO : ∀ k, k < lenO hs → k ∉ u → getO (putAll (fun k => some (U k)) u shs' (killOsA (grows u shs) hs)) k = (grows u shs).foldl (fun x k => killO k x) (getO hs k) := by
    intro k hk hn
    rw [putAll_old _ _ _ _ _ (by rw [killOsA_len]; exact hk) hn hul', killOsA_get]
  have hgetU : ∀ i, i < lenO shs → getO (putAll (fun k => some (U k)) u shs' (killOsA (grows u shs) hs)) (U i) = renO (fun k => some (U k)) (getO shs' i) := by
    intro i hi
    exact putAll_at _ _ _ _ i (U i) hu2 (fun k hk => by rw [killOsA_len]; exact hu1 k hk) hul' (hUlt i hi).1
  have hgetN : ∀ k, lenO shs ≤ k → k < lenO shs' → getO (putAll (fun k => some (U k)) u shs' (killOsA (grows u shs) hs)) (U k) = renO (fun k => some (U k)) (getO shs' k) := by
    intro k hk hk'
    have hU : U k = lenO hs + (k - lenO shs) := if_neg (by omega)
    have := putAll_new (fun k => some (U k)) u shs' (killOsA (grows u shs) hs) (k - lenO shs) (by omega)
    rw [killOsA_len, hul, show lenO shs + (k - lenO shs) = k by omega] at this
    rw [hU]; exact this
  have hgetA : ∀ k, k < lenO shs' → getO (putAll (fun k => some (U k)) u shs' (killOsA (grows u shs) hs)) (U k) = renO (fun k => some (U k)) (getO shs' k) := fun k hk => by
    by_cases h : k < lenO shs
    · exact hgetU k h
    · exact hgetN k (by omega) hk
  -- each label is the callee's, or another one
  have cases_ : ∀ k, k < lenO hs + (lenO shs' - lenO shs) → (∃ i, i < lenO shs' ∧ k = U i) ∨ (k < lenO hs ∧ k ∉ u) := by
    intro k hk
    by_cases hku : k ∈ u
    · obtain ⟨i, hi⟩ := List.getElem?_of_mem hku
      have hil : i < lenO shs := by have := (List.getElem?_eq_some_iff.1 hi).1; omega
      have := (hUlt i hil).1
      rw [hi] at this
      injection this with this
      exact .inl ⟨i, by omega, this⟩
    · by_cases h : k < lenO hs
      · exact .inr ⟨h, hku⟩
      · refine .inl ⟨lenO shs + (k - lenO hs), by omega, ?_⟩
        show k = (if _ then _ else _)
        rw [if_neg (by omega)]; omega
  have hUinj' : ∀ i j, i < lenO shs' → j < lenO shs' → U i = U j → i = j := by
    intro i j hi hj e
    by_cases h1 : i < lenO shs <;> by_cases h2 : j < lenO shs
    · exact hUinj i j h1 h2 e
    · have := (hUlt i h1).2
      have hU : U j = lenO hs + (j - lenO shs) := if_neg h2
      omega
    · have := (hUlt j h2).2
      have hU : U i = lenO hs + (i - lenO shs) := if_neg h1
      omega
    · have hU1 : U i = lenO hs + (i - lenO shs) := if_neg h1
      have hU2 : U j = lenO hs + (j - lenO shs) := if_neg h2
      omega
  have hSc : ∀ b, (envOf (fun i => gs (U i)) Pr w shs).S b → ∃ k, k < lenO hs ∧ k ∈ u ∧ live (gs k) (getO hs k) ∧ b = (gs k).blk := by
    rintro b ⟨i, hi, hl, rfl⟩
    exact ⟨U i, (hUlt i hi).2, List.mem_of_getElem? (hUlt i hi).1, (hsl i hi).2 hl, rfl⟩
  have hunch : ∀ k, k < lenO hs → k ∉ u → live (gs k) (getO hs k) → w'.heap[(gs k).blk]? = w.heap[(gs k).blk]? := by
    intro k hk hn hl
    refine hk1.block _ ((C.rep.obj k hk).lt hl) fun hS => ?_
    obtain ⟨j, hj, hju, hlj, e⟩ := hSc _ hS
    exact hn (C.rep.inj k j hk hj hl hlj e ▸ hju)
  have hPw : ∀ b, Pr b → w'.heap[b]? = w.heap[b]? := by
    intro b hb
    refine hk1.block b (C.rep.pr b hb) fun hS => ?_
    obtain ⟨j, hj, hju, hlj, e⟩ := hSc _ hS
    exact (C.rep.mine j hj hlj).2 (e ▸ hb)
  have hMS : ∀ b, (envOf (fun i => gs (U i)) Pr w shs).M b → E.M b := by
    rintro b (hS | hb)
    · obtain ⟨j, hj, _, hlj, rfl⟩ := hSc b hS
      exact (C.rep.mine j hj hlj).1
    · exact .inr (Nat.le_trans C.kp.size hb)
  have oldobj : ∀ k, k < lenO hs → k ∉ u → ObjOK gs2 (dom (putAll (fun k => some (U k)) u shs' (killOsA (grows u shs) hs))) Pr1 w' (gs k) ((grows u shs).foldl (fun x k => killO k x) (getO hs k)) := by
    intro k hk hn
    refine (killOsA_ok (gs' := gs2) (grows u shs) gs _ (fun k hk hn => hkeep k hk hn) (C.rep.obj k hk)).mono (fun k hk => ?_) (fun _ _ => rfl) hp0 hPw (fun hl => hunch k hk hn ((live_killOsA _ _).1 hl))
    show k < lenO _
    rw [hlen2]
    have hk : k < lenO hs := hk
    omega
  have C2 : Conc E gs2 Pr1 (killsA (grows u shs) tm) (putAll (fun k => some (U k)) u shs' (killOsA (grows u shs) hs)) a w' := by
    refine ⟨⟨fun k hk => ?_, fun i j hi hj li lj e => ?_, fun k hk lk => ?_, hr1.pr, hr1.gl⟩, by rw [killsA_len]; exact C.size, fun i => ?_, C.dfs, ⟨hk1.os.trans C.kp.os, hk1.tape.trans C.kp.tape, hk1.output.trans C.kp.output, Nat.le_trans C.kp.size hk1.size, fun b hb hS => ?_⟩, fun b hb => hp0 b (C.p0 b hb), fun b hb => ?_, fun k hk hg => ?_, ?_, fun k hk hg => ?_⟩
    · have hk : k < lenO hs + (lenO shs' - lenO shs) := by rw [← hlen2]; exact hk
      rcases cases_ k hk with ⟨i, hi, rfl⟩ | ⟨h1, h2⟩
      · rw [hgetA i hi, hgsU i]
        exact renO_ok hm (hr1.obj i hi)
      · rw [hgetO k h1 h2, hout k h1 h2]
        exact oldobj k h1 h2
    · have hi : i < lenO hs + (lenO shs' - lenO shs) := by rw [← hlen2]; exact hi
      have hj : j < lenO hs + (lenO shs' - lenO shs) := by rw [← hlen2]; exact hj
      have mixed : ∀ p k, p < lenO shs' → k < lenO hs → k ∉ u → live (gs1 p) (getO shs' p) → live (gs k) (getO hs k) → (gs1 p).blk ≠ (gs k).blk := by
        intro p k hp hk hn lp lk e
        have hlt := (C.rep.obj k hk).lt lk
        rcases (hr1.mine p hp lp).1 with hS | hb
        · obtain ⟨j, hj, hju, hlj, e'⟩ := hSc _ hS
          exact hn (C.rep.inj k j hk hj lk hlj (e.symm.trans e') ▸ hju)
        · have hb : w.heap.size ≤ (gs1 p).blk := hb
          omega
      rcases cases_ i hi with ⟨p, hp, rfl⟩ | ⟨h1, h2⟩ <;> rcases cases_ j hj with ⟨q, hq, rfl⟩ | ⟨h3, h4⟩
      · rw [hgetA p hp, hgsU p] at li; rw [hgetA q hq, hgsU q] at lj; rw [hgsU p, hgsU q] at e
        rw [hr1.inj p q hp hq (live_renO.1 li) (live_renO.1 lj) e]
      · rw [hgetA p hp, hgsU p] at li; rw [hgetO j h3 h4, hout j h3 h4] at lj; rw [hgsU p, hout j h3 h4] at e
        exact absurd e (mixed p j hp h3 h4 (live_renO.1 li) ((live_killOsA _ _).1 lj))
      · rw [hgetO i h1 h2, hout i h1 h2] at li; rw [hgetA q hq, hgsU q] at lj; rw [hgsU q, hout i h1 h2] at e
        exact absurd e.symm (mixed q i hq h1 h2 (live_renO.1 lj) ((live_killOsA _ _).1 li))
      · rw [hgetO i h1 h2, hout i h1 h2] at li; rw [hgetO j h3 h4, hout j h3 h4] at lj; rw [hout i h1 h2, hout j h3 h4] at e
        exact C.rep.inj i j h1 h3 ((live_killOsA _ _).1 li) ((live_killOsA _ _).1 lj) e
    · have hk : k < lenO hs + (lenO shs' - lenO shs) := by rw [← hlen2]; exact hk
      rcases cases_ k hk with ⟨i, hi, rfl⟩ | ⟨h1, h2⟩
      · rw [hgetA i hi, hgsU i] at lk; rw [hgsU i]
        obtain ⟨h3, h4⟩ := hr1.mine i hi (live_renO.1 lk)
        exact ⟨hMS _ h3, h4⟩
      · rw [hgetO k h1 h2, hout k h1 h2] at lk; rw [hout k h1 h2]
        have lk := (live_killOsA _ _).1 lk
        obtain ⟨h3, h4⟩ := C.rep.mine k h1 lk
        refine ⟨h3, fun hp => ?_⟩
        rcases hpm _ hp with h | h
        · exact h4 h
        · rcases h with hS | hb
          · obtain ⟨j, hj, hju, hlj, e⟩ := hSc _ hS
            exact h2 (C.rep.inj k j h1 hj lk hlj e ▸ hju)
          · have hb : w.heap.size ≤ (gs k).blk := hb
            have := (C.rep.obj k h1).lt lk
            omega
    · rw [killsA_getL]
      refine (killsA_ok (gs' := gs2) (grows u shs) gs _ _ (fun k hk hn => hkeep k hk hn) (C.tms i)).mono (fun k hk => ?_) (fun _ _ => rfl) hp0 hPw
      show k < lenO _
      rw [hlen2]
      have hk : k < lenO hs := hk
      omega
    · rw [hk1.block b (Nat.lt_of_lt_of_le hb C.kp.size) fun hS' => ?_]
      · exact C.kp.block b hb hS
      · obtain ⟨j, hj, _, hlj, rfl⟩ := hSc b hS'
        rcases (C.rep.mine j hj hlj).1 with h | h
        · exact hS h
        · omega
    · rcases hpm b hb with h | h
      · exact C.pm b h
      · exact .inr (hMS b h)
    · have hkh : k < lenO hs := Nat.lt_of_lt_of_le hk C.len0
      rw [hkeep k hkh fun hin => ?_]
      · exact C.agree k hk hg
      · refine hg (C.kind k hk ?_)
        have : ∀ {us : List Nat} {os : List AObj}, k ∈ grows us os → ∃ i, us[i]? = some k ∧ isGrow (getO os i) := by
          intro us
          induction us with
          | nil => intro os h; cases os <;> simp [grows] at h
          | cons x us ih =>
            intro os h
            cases os with
            | nil => simp [grows] at h
            | cons o os =>
              cases o <;> simp only [grows] at h
              case grow t sz xs =>
                rcases List.mem_cons.1 h with rfl | h
                · exact ⟨0, rfl, trivial⟩
                · obtain ⟨i, h1, h2⟩ := ih h; exact ⟨i + 1, by simpa using h1, h2⟩
              all_goals (obtain ⟨i, h1, h2⟩ := ih h; exact ⟨i + 1, by simpa using h1, h2⟩)
        obtain ⟨i, h1, h2⟩ := this hin
        rw [hmo i k h1]
        exact isGrow_renO.2 h2
    · rw [hlen2]; exact Nat.le_trans C.len0 (Nat.le_add_right _ _)
    · have hkh : k < lenO hs := Nat.lt_of_lt_of_le hk C.len0
      by_cases hku : k ∈ u
      · obtain ⟨i, hi⟩ := List.getElem?_of_mem hku
        have hil : i < lenO shs := by have := (List.getElem?_eq_some_iff.1 hi).1; omega
        have hUi : U i = k := by
          have := (hUlt i hil).1
          rw [hi] at this
          injection this with this; exact this.symm
        rw [← hUi, hgetU i hil] at hg
        have := hkd i hil (isGrow_renO.1 hg)
        refine C.kind k hk ?_
        rw [hmo i k hi]
        exact isGrow_renO.2 this
      · rw [hgetO k hkh hku] at hg
        exact C.kind k hk ((grow_killOsA _ _).1 hg)
  exact hrest r shs' hpost hlen fn hrs E mt hi gs2 Pr1 _ w' (C2.put dst (ren_ok hm hz))
end Go.Proofs.YtlnafekmiidpkaaDoor.S
