/- Labels with other numbers; a function's contract; a call by it. -/
import Derived.Test.YtlnafekmiidpkaaDoorS17
namespace Go.Proofs.YtlnafekmiidpkaaDoor.S
set_option linter.all false
set_option linter.unusedVariables false
set_option linter.unusedSimpArgs false
/-- Labels with other numbers: m tells the new one; none: nothing is told any more. -/
def rl (m : Nat → Option Nat) (k : Nat) (f : Nat → AV) : AV := match m k with
  | some j => f j
  | none => .any
def renV (m : Nat → Option Nat) : AV → AV
  | .own k => rl m k fun j => .own j
  | .ptr k o => rl m k fun j => .ptr j o
  | .ptrS k o => rl m k fun j => .ptrS j o
  | .sl k o l c => rl m k fun j => .sl j o l c
  | .mp k => rl m k fun j => .mp j
  | .gp k s i o => rl m k fun j => .gp j s i o
  | .agg _ => .any
  | .tup _ => .any
  | .fn .. => .any
  | v => v
def renL (m : Nat → Option Nat) : List AV → List AV
  | [] => []
  | v :: l => renV m v :: renL m l
def ren1 (m : Nat → Option Nat) : AV → AV
  | .agg cs => .agg (renL m cs)
  | .fn f a b => .fn f (renL m a) (renL m b)
  | .tup _ => .any
  | v => renV m v
def ren1L (m : Nat → Option Nat) : List AV → List AV
  | [] => []
  | v :: l => ren1 m v :: ren1L m l
def ren (m : Nat → Option Nat) : AV → AV
  | .tup cs => .tup (ren1L m cs)
  | v => ren1 m v
def rens (m : Nat → Option Nat) : List AV → List AV
  | [] => []
  | v :: l => ren m v :: rens m l
def renO (m : Nat → Option Nat) : AObj → AObj
  | .cells t cs => .cells t (ren1L m cs)
  | .iter x c seen => .iter (ren1 m x) c seen
  | o => o
section
variable {gs gs' : Nat → Gh} {D D' : Nat → Prop} {Pr : Nat → Prop} {w : World} {m : Nat → Option Nat}
variable (hm : ∀ k j, D k → m k = some j → D' j ∧ gs' j = gs k)
include hm
theorem renV_ok {x : AV} {v : Value} (h : Cz gs D Pr w x v) : Cz gs' D' Pr w (renV m x) v := by
  have eqn : ∀ (k : Nat) (f : Nat → AV), D k → (∀ j, m k = some j → Cz gs' D' Pr w (f j) v) → Cz gs' D' Pr w (rl m k f) v := by
    intro k f hk hf
    unfold rl
    split
    · rename_i j e; exact hf j e
    · exact .any v
  cases h with
  | any v => exact .any v
  | lf h => cases h <;> exact .lf (by constructor <;> assumption)
  | rp c off b o hp h => exact .rp c off b o hp h
  | ptr k off hk => exact eqn k _ hk fun j e => by obtain ⟨h1, h2⟩ := hm k j hk e; rw [← h2]; exact .ptr j off h1
  | ptrS k off hk => exact eqn k _ hk fun j e => by obtain ⟨h1, h2⟩ := hm k j hk e; rw [← h2]; exact .ptrS j off h1
  | sl k off len cap hk => exact eqn k _ hk fun j e => by obtain ⟨h1, h2⟩ := hm k j hk e; rw [← h2]; exact .sl j off len cap h1
  | own k hk hh => exact eqn k _ hk fun j e => by obtain ⟨h1, h2⟩ := hm k j hk e; rw [← h2] at hh ⊢; exact .own j h1 hh
  | mp k hk => exact eqn k _ hk fun j e => by obtain ⟨h1, h2⟩ := hm k j hk e; rw [← h2]; exact .mp j h1
  | gp k sz i off hk => exact eqn k _ hk fun j e => by obtain ⟨h1, h2⟩ := hm k j hk e; rw [← h2]; exact .gp j sz i off h1
  | fn f a b => exact .any _
  | agg cs => exact .any _
  | tup cs => exact .any _
omit hm in
theorem renL_len : ∀ l, (renL m l).length = l.length
  | [] => rfl
  | _ :: l => by simp [renL, renL_len l]
omit hm in
theorem renL_get : ∀ (l : List AV) (j : Nat), (renL m l)[j]? = (l[j]?).map (renV m)
  | [], j => by simp [renL]
  | x :: l, 0 => by simp [renL]
  | x :: l, j + 1 => by simpa [renL] using renL_get l j
omit hm in
theorem ren1L_len : ∀ l, (ren1L m l).length = l.length
  | [] => rfl
  | _ :: l => by simp [ren1L, ren1L_len l]
omit hm in
theorem ren1L_get : ∀ (l : List AV) (j : Nat), (ren1L m l)[j]? = (l[j]?).map (ren1 m)
  | [], j => by simp [ren1L]
  | x :: l, 0 => by simp [ren1L]
  | x :: l, j + 1 => by simpa [ren1L] using ren1L_get l j
omit hm in
theorem rens_len : ∀ l, (rens m l).length = l.length
  | [] => rfl
  | _ :: l => by simp [rens, rens_len l]
omit hm in
theorem rens_get : ∀ (l : List AV) (j : Nat), (rens m l)[j]? = (l[j]?).map (ren m)
  | [], j => by simp [rens]
  | x :: l, 0 => by simp [rens]
  | x :: l, j + 1 => by simpa [rens] using rens_get l j
theorem renL_ok {cs : List AV} {vs : Array Value} (h : ∀ (j : Nat) a v, cs[j]? = some a → vs[j]? = some v → Cz gs D Pr w a v) : ∀ (j : Nat) a v, (renL m cs)[j]? = some a → vs[j]? = some v → Cz gs' D' Pr w a v := by
  intro j a v e1 e2
  rw [renL_get, Option.map_eq_some_iff] at e1
  obtain ⟨x, hx, rfl⟩ := e1
  exact renV_ok hm (h j x v hx e2)
theorem ren1_ok {x : AV} {v : Value} (h : Cz gs D Pr w x v) : Cz gs' D' Pr w (ren1 m x) v := by
  cases x <;> first | exact renV_ok hm h | skip
  case agg cs =>
    obtain ⟨vs, rfl, h1, h2, h3⟩ := h.agg_
    exact .agg _ vs (by rw [renL_len]; exact h1) (renL_ok hm h2) h3
  case fn f a b =>
    obtain ⟨va, vb, rfl, h1, h2⟩ := h.fn_
    exact .fn _ _ _ va vb (by rw [renL_len]; exact h1.1) (by rw [renL_len]; exact h2.1) (renL_ok hm h1.2) (renL_ok hm h2.2)
theorem ren1L_ok {cs : List AV} {vs : Array Value} (h : ∀ (j : Nat) a v, cs[j]? = some a → vs[j]? = some v → Cz gs D Pr w a v) : ∀ (j : Nat) a v, (ren1L m cs)[j]? = some a → vs[j]? = some v → Cz gs' D' Pr w a v := by
  intro j a v e1 e2
  rw [ren1L_get, Option.map_eq_some_iff] at e1
  obtain ⟨x, hx, rfl⟩ := e1
  exact ren1_ok hm (h j x v hx e2)
theorem ren_ok {x : AV} {v : Value} (h : Cz gs D Pr w x v) : Cz gs' D' Pr w (ren m x) v := by
  cases x <;> first | exact ren1_ok hm h | skip
  case tup cs =>
    obtain ⟨vs, rfl, h1, h2⟩ := h.tup_
    exact .tup _ vs (by rw [ren1L_len]; exact h1) (ren1L_ok hm h2)
theorem renO_ok {g : Gh} {o : AObj} (h : ObjOK gs D Pr w g o) : ObjOK gs' D' Pr w g (renO m o) := by
  cases o with
  | cells t cs =>
    obtain ⟨c, fr, h1, h2, h3, h4, h5⟩ := h
    exact ⟨c, fr, h1, h2, h3, by rw [ren1L_len]; exact h4, ren1L_ok hm h5⟩
  | iter x c seen =>
    obtain ⟨b, h1, h2⟩ := h
    exact ⟨b, h1, ren1_ok hm h2⟩
  | _ => exact h
omit hm in
theorem live_renO {g : Gh} {o : AObj} : live g (renO m o) ↔ live g o := by cases o <;> exact Iff.rfl
omit hm in
theorem isGrow_renO {o : AObj} : isGrow (renO m o) ↔ isGrow o := by cases o <;> exact Iff.rfl
end
/- The way back: labels that are there have an elder number. -/
def scal : AV → Bool
  | .agg _ | .tup _ | .fn .. => false
  | _ => true
def scalL : List AV → Bool
  | [] => true
  | x :: l => match scal x with
    | true => scalL l
    | false => false
def pl1 : AV → Bool
  | .agg cs => scalL cs
  | .fn _ a b => match scalL a with
    | true => scalL b
    | false => false
  | .tup _ => false
  | _ => true
def pl1L : List AV → Bool
  | [] => true
  | x :: l => match pl1 x with
    | true => pl1L l
    | false => false
def plO : AObj → Bool
  | .cells _ cs => pl1L cs
  | .iter x _ _ => pl1 x
  | _ => true
section
variable {gs gs' : Nat → Gh} {D D' : Nat → Prop} {Pr : Nat → Prop} {w : World} {u : Nat → Nat}
variable (hu : ∀ k, D' (u k) → D k ∧ gs' (u k) = gs k)
include hu
theorem back1 {x : AV} {v : Value} (hx : ∀ cs, x ≠ .agg cs ∧ x ≠ .tup cs) (hf : ∀ f p q, x ≠ .fn f p q) (h : Cz gs' D' Pr w (renV (fun k => some (u k)) x) v) : Cz gs D Pr w x v := by
  cases x with
  | own k => obtain ⟨e, hk⟩ := (show Cz gs' D' Pr w (.own (u k)) v from h).own_
             obtain ⟨h1, h2⟩ := hu k hk
             have hh : ∃ A n c, (gs k).hd = .slice A n c := by
              cases (show Cz gs' D' Pr w (.own (u k)) v from h) with
              | lf h => cases h
              | own _ _ hh => rw [h2] at hh; exact hh
             rw [e, h2]; exact .own k h1 hh
  | ptr k o => obtain ⟨e, hk⟩ := (show Cz gs' D' Pr w (.ptr (u k) o) v from h).ptr_
               obtain ⟨h1, h2⟩ := hu k hk
               rw [e, h2]; exact .ptr k o h1
  | ptrS k o => obtain ⟨e, hk⟩ := (show Cz gs' D' Pr w (.ptrS (u k) o) v from h).ptrS_
                obtain ⟨h1, h2⟩ := hu k hk
                rw [e, h2]; exact .ptrS k o h1
  | sl k o l c => obtain ⟨e, hk⟩ := (show Cz gs' D' Pr w (.sl (u k) o l c) v from h).sl_
                  obtain ⟨h1, h2⟩ := hu k hk
                  rw [e, h2]; exact .sl k o l c h1
  | mp k => obtain ⟨e, hk⟩ := (show Cz gs' D' Pr w (.mp (u k)) v from h).mp_
            obtain ⟨h1, h2⟩ := hu k hk
            rw [e, h2]; exact .mp k h1
  | gp k s i o => obtain ⟨e, hk⟩ := (show Cz gs' D' Pr w (.gp (u k) s i o) v from h).gp_
                  obtain ⟨h1, h2⟩ := hu k hk
                  rw [e, h2]; exact .gp k s i o h1
  | agg cs => exact absurd rfl (hx cs).1
  | tup cs => exact absurd rfl (hx cs).2
  | fn f p q => exact absurd rfl (hf f p q)
  | any => exact .any v
  | rp c off => obtain ⟨b, o, e, hp, hc⟩ := rp_ (show Cz gs' D' Pr w (.rp c off) v from h)
                rw [e]; exact .rp c off b o hp hc
  | _ =>
    have h : Cz gs' D' Pr w _ v := h
    cases h with
    | lf h => exact .lf h
omit hu in
theorem scal_ne {x : AV} (h : scal x = true) : (∀ cs, x ≠ .agg cs ∧ x ≠ .tup cs) ∧ ∀ f p q, x ≠ .fn f p q := by
  cases x <;> first | (simp [scal] at h; done) | exact ⟨fun _ => ⟨by simp, by simp⟩, fun _ _ _ => by simp⟩
omit hu in
theorem scalL_mem : ∀ {l : List AV}, scalL l = true → ∀ x ∈ l, scal x = true
  | [], _, x, h => by simp at h
  | y :: l, h, x, hx => by
    simp only [scalL] at h
    split at h
    · rename_i e
      rcases List.mem_cons.1 hx with rfl | hx
      · exact e
      · exact scalL_mem h x hx
    · cases h
theorem backL {cs : List AV} {vs : Array Value} (hs : scalL cs = true) (h : ∀ (j : Nat) a v, (renL (fun k => some (u k)) cs)[j]? = some a → vs[j]? = some v → Cz gs' D' Pr w a v) : ∀ (j : Nat) a v, cs[j]? = some a → vs[j]? = some v → Cz gs D Pr w a v := by
  intro j a v e1 e2
  obtain ⟨h1, h2⟩ := scal_ne (scalL_mem hs a (List.mem_of_getElem? e1))
  exact back1 hu h1 h2 (h j _ v (by rw [renL_get, e1]; rfl) e2)
theorem back_ren1 {x : AV} {v : Value} (hx : pl1 x = true) (h : Cz gs' D' Pr w (ren1 (fun k => some (u k)) x) v) : Cz gs D Pr w x v := by
  cases x with
  | agg cs =>
    obtain ⟨vs, rfl, h1, h2, h3⟩ := (show Cz gs' D' Pr w (.agg (renL (fun k => some (u k)) cs)) v from h).agg_
    exact .agg _ vs (by rw [renL_len] at h1; exact h1) (backL hu hx h2) h3
  | fn f a b =>
    obtain ⟨va, vb, rfl, h1, h2⟩ := (show Cz gs' D' Pr w (.fn f (renL (fun k => some (u k)) a) (renL (fun k => some (u k)) b)) v from h).fn_
    simp only [pl1] at hx
    have hx : scalL a = true ∧ scalL b = true := by
      cases h : scalL a <;> simp [h] at hx <;> exact ⟨rfl, hx⟩
    exact .fn _ _ _ va vb (by have := h1.1; rw [renL_len] at this; exact this) (by have := h2.1; rw [renL_len] at this; exact this) (backL hu hx.1 h1.2) (backL hu hx.2 h2.2)
  | tup cs => simp [pl1] at hx
  | _ => exact back1 hu (by simp) (by simp) h
theorem back_ren {x : AV} {v : Value} (hx : pl1 x = true) (h : Cz gs' D' Pr w (ren (fun k => some (u k)) x) v) : Cz gs D Pr w x v := by
  cases x <;> first | (simp [pl1] at hx; done) | exact back_ren1 hu hx h
omit hu in
theorem pl1L_mem : ∀ {l : List AV}, pl1L l = true → ∀ x ∈ l, pl1 x = true
  | [], _, x, h => by simp at h
  | y :: l, h, x, hx => by
    simp only [pl1L] at h
    split at h
    · rename_i e
      rcases List.mem_cons.1 hx with rfl | hx
      · exact e
      · exact pl1L_mem h x hx
    · cases h
theorem backO {g : Gh} {o : AObj} (ho : plO o = true) (h : ObjOK gs' D' Pr w g (renO (fun k => some (u k)) o)) : ObjOK gs D Pr w g o := by
  cases o with
  | cells t cs =>
    obtain ⟨c, fr, h1, h2, h3, h4, h5⟩ := h
    rw [ren1L_len] at h4
    refine ⟨c, fr, h1, h2, h3, h4, fun j a v e1 e2 => ?_⟩
    exact back_ren1 hu (pl1L_mem ho a (List.mem_of_getElem? e1)) (h5 j _ v (by rw [ren1L_get, e1]; rfl) e2)
  | iter x c seen =>
    obtain ⟨b, h1, h2⟩ := h
    exact ⟨b, h1, back_ren1 hu ho h2⟩
  | _ => exact h
end
/-- May a function be entered? -/
def entersB (P : Program) (f : Nat) : Bool := match P.funcs[f]? with
  | some fn => fn.body.isSome && !(fn.name == "runtime.NumGoroutine")
  | none => false
theorem callFunc_enter {P : Program} {f : Nat} (h : entersB P f = true) (vs : Array Value) (w : World) : (callFunc f vs).run P w = .ok (.enter f vs) w := by
  unfold entersB at h
  split at h
  · rename_i fn e
    simp only [Bool.and_eq_true, Bool.not_eq_true'] at h
    have hb : fn.body.isNone = false := by cases hb : fn.body <;> simp [hb] at h ⊢
    simp only [callFunc, Sem.run_bind, run_program, Result.andThen_ok, e, h.2, hb, Bool.false_eq_true, if_false, Sem.run_pure]
  · cases h
def envOf (gs : Nat → Gh) (Pr : Nat → Prop) (w : World) (hs : List AObj) : Env := ⟨fun b => ∃ k, k < lenO hs ∧ live (gs k) (getO hs k) ∧ b = (gs k).blk, w, Pr, gs, hs⟩
/-- A FUNCTION's CONTRACT: called with such arguments, and such objects, it returns, and what is said holds of its result and of the objects. -/
def ACalls (P : Program) (f : Nat) (args : List AV) (hs : List AObj) (spost : AV → List AObj → Prop) : Prop :=
  entersB P f = true ∧ ∀ gs Pr w vs, Rep gs (dom hs) Pr (envOf gs Pr w hs).M (getO hs) w → Czs gs (dom hs) Pr w args vs → Calls P f vs w (Rfin (envOf gs Pr w hs) spost)
theorem ACalls.mono {P : Program} {f : Nat} {args : List AV} {hs : List AObj} {p q : AV → List AObj → Prop} (h : ACalls P f args hs p) (hpq : ∀ r hs, p r hs → q r hs) : ACalls P f args hs q :=
  ⟨h.1, fun gs Pr w vs h1 h2 => (h.2 gs Pr w vs h1 h2).mono fun e w' ⟨v, r, hs', gs', Pr', h3, h4, h5⟩ => ⟨v, r, hs', gs', Pr', h3, hpq _ _ h4, h5⟩⟩
def anys : Nat → List AV
  | 0 => []
  | n + 1 => .any :: anys n
def lenA : List AV → Nat
  | [] => 0
  | _ :: l => lenA l + 1
def catA : List AV → List AV → List AV
  | [], m => m
  | x :: l, m => x :: catA l m
theorem lenA_eq (l : List AV) : lenA l = l.length := by
  induction l with
  | nil => rfl
  | cons x l ih => simp [lenA, ih]
theorem catA_eq (l m : List AV) : catA l m = l ++ m := by
  induction l with
  | nil => rfl
  | cons x l ih => simp [catA, ih]
theorem anys_eq (n : Nat) : anys n = List.replicate n .any := by
  induction n with
  | zero => rfl
  | succ n ih => simp [anys, ih, List.replicate_succ]
/-- Which labels are told of at the end: those that were there, and some more. -/
def idxN : List Nat → Nat → Nat → Option Nat
  | [], _, _ => none
  | x :: l, k, i => match Nat.beq x k with
    | true => some i
    | false => idxN l k (i + 1)
def endM (n : Nat) (σ : List Nat) (k : Nat) : Option Nat := match Nat.blt k n with
  | true => some k
  | false => idxN σ k n
def takeE (m : Nat → Option Nat) : Nat → List AObj → List AObj
  | 0, _ => []
  | _ + 1, [] => []
  | n + 1, o :: l => renO m o :: takeE m n l
def pickE (m : Nat → Option Nat) (hs : List AObj) : List Nat → List AObj
  | [] => []
  | k :: l => renO m (getO hs k) :: pickE m hs l
def catO : List AObj → List AObj → List AObj
  | [], m => m
  | x :: l, m => x :: catO l m
def endH (n : Nat) (σ : List Nat) (hs : List AObj) : List AObj := catO (takeE (endM n σ) n hs) (pickE (endM n σ) hs σ)
/-- More labels that are told of: not the elder ones, each once. -/
def okS (n m : Nat) : List Nat → Bool
  | [] => true
  | k :: l => Nat.ble n k && Nat.blt k m && (idxN l k 0).isNone && okS n m l
theorem idxN_some : ∀ {l : List Nat} {k i j : Nat}, idxN l k i = some j → i ≤ j ∧ l[j - i]? = some k
  | [], k, i, j, h => by simp [idxN] at h
  | x :: l, k, i, j, h => by
    simp only [idxN] at h
    split at h
    · rename_i e
      injection h with h
      subst h
      rw [Nat.eq_of_beq_eq_true e]
      exact ⟨Nat.le_refl _, by simp⟩
    · obtain ⟨h1, h2⟩ := idxN_some h
      refine ⟨by omega, ?_⟩
      rw [show j - i = (j - (i + 1)) + 1 by omega]
      simpa using h2
theorem idxN_none : ∀ {l : List Nat} {k i : Nat}, idxN l k i = none → k ∉ l
  | [], k, i, _ => by simp
  | x :: l, k, i, h => by
    simp only [idxN] at h
    split at h
    · cases h
    · rename_i e
      have hne : ¬ x = k := fun e' => by rw [e'] at e; simp at e
      simp only [List.mem_cons, not_or]
      exact ⟨fun e' => hne e'.symm, idxN_none h⟩
theorem takeE_len (m : Nat → Option Nat) : ∀ (n : Nat) (l : List AObj), n ≤ lenO l → lenO (takeE m n l) = n
  | 0, l, _ => by cases l <;> rfl
  | n + 1, [], h => by simp [lenO] at h
  | n + 1, o :: l, h => by simp only [takeE, lenO]; rw [takeE_len m n l (by simp [lenO] at h; exact h)]
theorem takeE_get (m : Nat → Option Nat) : ∀ (n : Nat) (l : List AObj) (j : Nat), n ≤ lenO l → j < n → getO (takeE m n l) j = renO m (getO l j)
  | 0, l, j, _, hj => by omega
  | n + 1, [], j, h, _ => by simp [lenO] at h
  | n + 1, o :: l, 0, h, _ => rfl
  | n + 1, o :: l, j + 1, h, hj => takeE_get m n l j (by simp [lenO] at h; exact h) (by omega)
theorem pickE_len (m : Nat → Option Nat) (hs : List AObj) : ∀ l, lenO (pickE m hs l) = l.length
  | [] => rfl
  | k :: l => by simp [pickE, lenO, pickE_len m hs l]
theorem pickE_get (m : Nat → Option Nat) (hs : List AObj) : ∀ (l : List Nat) (j k : Nat), l[j]? = some k → getO (pickE m hs l) j = renO m (getO hs k)
  | [], j, k, h => by simp at h
  | x :: l, 0, k, h => by simp at h; subst h; rfl
  | x :: l, j + 1, k, h => pickE_get m hs l j k (by simpa using h)
theorem catO_eq (l m : List AObj) : catO l m = l ++ m := by
  induction l with
  | nil => rfl
  | cons x l ih => simp [catO, ih]
theorem catO_len (l m : List AObj) : lenO (catO l m) = lenO l + lenO m := by
  rw [catO_eq, lenO_eq, lenO_eq, lenO_eq, List.length_append]
theorem catO_left {l m : List AObj} {j : Nat} (h : j < lenO l) : getO (catO l m) j = getO l j := by
  rw [lenO_eq] at h
  rw [catO_eq, getO_eq, getO_eq, List.getD_eq_getElem?_getD, List.getD_eq_getElem?_getD, List.getElem?_append_left h]
theorem catO_right {l m : List AObj} {j : Nat} (h : lenO l ≤ j) : getO (catO l m) j = getO m (j - lenO l) := by
  rw [lenO_eq] at h ⊢
  rw [catO_eq, getO_eq, getO_eq, List.getD_eq_getElem?_getD, List.getD_eq_getElem?_getD, List.getElem?_append_right h]
theorem okS_mem {n m : Nat} : ∀ {l : List Nat}, okS n m l = true → (∀ k ∈ l, n ≤ k ∧ k < m) ∧ l.Nodup
  | [], _ => ⟨fun k h => by simp at h, List.nodup_nil⟩
  | k :: l, h => by
    simp only [okS, Bool.and_eq_true, Nat.ble_eq, Nat.blt_eq, Option.isNone_iff_eq_none] at h
    obtain ⟨⟨⟨h1, h2⟩, h3⟩, h4⟩ := h
    obtain ⟨h5, h6⟩ := okS_mem h4
    refine ⟨fun j hj => ?_, List.nodup_cons.2 ⟨idxN_none h3, h6⟩⟩
    rcases List.mem_cons.1 hj with rfl | hj
    · exact ⟨h1, h2⟩
    · exact h5 j hj
/-- The elder number of a label that is told of. -/
def tauE (n : Nat) (σ : List Nat) (j : Nat) : Nat := if j < n then j else σ.getD (j - n) 0
theorem endM_some {n : Nat} {σ : List Nat} {k j : Nat} (h : endM n σ k = some j) : tauE n σ j = k ∧ j < n + σ.length := by
  unfold endM at h
  unfold tauE
  split at h
  · rename_i e
    injection h with h
    subst h
    have e : k < n := by simpa [Nat.blt_eq] using e
    exact ⟨if_pos e, by omega⟩
  · obtain ⟨h1, h2⟩ := idxN_some h
    have hlt := (List.getElem?_eq_some_iff.1 h2).1
    rw [if_neg (by omega), List.getD_eq_getElem?_getD, h2]
    exact ⟨rfl, by omega⟩
/-- What a function's end tells of: elder labels, and some more; the others are left. -/
theorem Rfin.end_ {E : Env} {spost : AV → List AObj → Prop} {e : Ending} {w : World} (h : Rfin E (fun r hs => ∃ σ, okS (lenO E.hs0) (lenO hs) σ = true ∧ spost (ren (endM (lenO E.hs0) σ) r) (endH (lenO E.hs0) σ hs)) e w) : Rfin E spost e w := by
  obtain ⟨v, r, hs, gs, Pr, he, ⟨σ, hσ, hp⟩, hz, hr, hkp, hp0, hpm, hag, hlen, hkd⟩ := h
  obtain ⟨hσ1, hσ2⟩ := okS_mem hσ
  have hl : lenO (endH (lenO E.hs0) σ hs) = lenO E.hs0 + σ.length := by
    unfold endH
    rw [catO_len, takeE_len _ _ _ hlen, pickE_len]
  have hget : ∀ j, j < lenO E.hs0 + σ.length → getO (endH (lenO E.hs0) σ hs) j = renO (endM (lenO E.hs0) σ) (getO hs (tauE (lenO E.hs0) σ j)) := by
    intro j hj
    unfold endH tauE
    by_cases hjn : j < lenO E.hs0
    · rw [catO_left (by rw [takeE_len _ _ _ hlen]; exact hjn), takeE_get _ _ _ _ hlen hjn, if_pos hjn]
    · rw [catO_right (by rw [takeE_len _ _ _ hlen]; omega), takeE_len _ _ _ hlen, if_neg hjn]
      have hlt : j - lenO E.hs0 < σ.length := by omega
      exact pickE_get _ _ _ _ _ (by rw [List.getD_eq_getElem?_getD, List.getElem?_eq_getElem hlt]; rfl)
  have htd : ∀ j, j < lenO E.hs0 + σ.length → tauE (lenO E.hs0) σ j < lenO hs := by
    intro j hj
    unfold tauE
    by_cases hjn : j < lenO E.hs0
    · rw [if_pos hjn]; omega
    · rw [if_neg hjn]
      have hlt : j - lenO E.hs0 < σ.length := by omega
      rw [List.getD_eq_getElem?_getD, List.getElem?_eq_getElem hlt]
      exact (hσ1 _ (List.getElem_mem hlt)).2
  have hti : ∀ i j, i < lenO E.hs0 + σ.length → j < lenO E.hs0 + σ.length → tauE (lenO E.hs0) σ i = tauE (lenO E.hs0) σ j → i = j := by
    intro i j hi hj e
    unfold tauE at e
    by_cases hin : i < lenO E.hs0 <;> by_cases hjn : j < lenO E.hs0
    · rw [if_pos hin, if_pos hjn] at e; exact e
    · rw [if_pos hin, if_neg hjn] at e
      have hlt : j - lenO E.hs0 < σ.length := by omega
      rw [List.getD_eq_getElem?_getD, List.getElem?_eq_getElem hlt] at e
      have := (hσ1 _ (List.getElem_mem hlt)).1
      simp at e; omega
    · rw [if_neg hin, if_pos hjn] at e
      have hlt : i - lenO E.hs0 < σ.length := by omega
      rw [List.getD_eq_getElem?_getD, List.getElem?_eq_getElem hlt] at e
      have := (hσ1 _ (List.getElem_mem hlt)).1
      simp at e; omega
    · rw [if_neg hin, if_neg hjn] at e
      have h1 : i - lenO E.hs0 < σ.length := by omega
      have h2 : j - lenO E.hs0 < σ.length := by omega
      rw [List.getD_eq_getElem?_getD, List.getD_eq_getElem?_getD, List.getElem?_eq_getElem h1, List.getElem?_eq_getElem h2] at e
      simp only [Option.getD_some] at e
      have := (List.getElem_inj hσ2).1 e
      omega
  have hm : ∀ k j, dom hs k → endM (lenO E.hs0) σ k = some j → dom (endH (lenO E.hs0) σ hs) j ∧ (fun j => gs (tauE (lenO E.hs0) σ j)) j = gs k := by
    intro k j _ h
    obtain ⟨h1, h2⟩ := endM_some h
    exact ⟨by show j < lenO _; rw [hl]; exact h2, by show gs (tauE _ _ _) = _; rw [h1]⟩
  refine ⟨v, _, _, fun j => gs (tauE (lenO E.hs0) σ j), Pr, he, hp, ren_ok hm hz, ⟨fun j hj => ?_, fun i j hi hj li lj e => ?_, fun j hj lj => ?_, hr.pr, hr.gl⟩, hkp, hp0, hpm, fun k hk hg => ?_, by rw [hl]; omega, fun k hk hg => ?_⟩
  · have hj : j < lenO E.hs0 + σ.length := by rw [← hl]; exact hj
    rw [hget j hj]
    exact renO_ok hm (hr.obj _ (htd j hj))
  · have hi : i < lenO E.hs0 + σ.length := by rw [← hl]; exact hi
    have hj : j < lenO E.hs0 + σ.length := by rw [← hl]; exact hj
    rw [hget i hi] at li; rw [hget j hj] at lj
    exact hti i j hi hj (hr.inj _ _ (htd i hi) (htd j hj) (live_renO.1 li) (live_renO.1 lj) e)
  · have hj : j < lenO E.hs0 + σ.length := by rw [← hl]; exact hj
    rw [hget j hj] at lj
    exact hr.mine _ (htd j hj) (live_renO.1 lj)
  · have : tauE (lenO E.hs0) σ k = k := if_pos hk
    show gs (tauE _ _ _) = _
    rw [this]; exact hag k hk hg
  · rw [hget k (by omega)] at hg
    have : tauE (lenO E.hs0) σ k = k := if_pos hk
    rw [this] at hg
    exact hkd k hk (isGrow_renO.1 hg)
/-- What is to be shown where a function ends. -/
def EndP (n : Nat) (spost : AV → List AObj → Prop) (r : AV) (hs : List AObj) : Prop := ∃ σ, okS n (lenO hs) σ = true ∧ spost (ren (endM n σ) r) (endH n σ hs)
/-- A FUNCTION's CONTRACT BY ITS CODE. -/
theorem acalls_of {P : Program} {f : Nat} {fn : Func} {A : AFunc} {args : List AV} {hs : List AObj} {spost : AV → List AObj → Prop} (hf : P.funcs[f]? = some fn) (hc : cFunc P fn = some A) (he : entersB P f = true)
    (h : AW P A.rs [.code A.code] (catA args (anys (A.ntmps - lenA args))) hs (EndP (lenO hs) spost)) : ACalls P f args hs spost := by
  refine ⟨he, fun gs Pr w vs hr hv => ?_⟩
  unfold cFunc at hc
  simp only [Option.bind_eq_bind, Option.bind_eq_some_iff, Option.pure_def, Option.some.injEq] at hc
  obtain ⟨c, hb, ac, hac, rs, hrs, rfl⟩ := hc
  refine calls_of_wp hf hb ?_
  have C : Conc (envOf gs Pr w hs) gs Pr (catA args (anys (fn.ntmps - lenA args))) hs { tmps := vs ++ Array.replicate (fn.ntmps - vs.size) undef, defers := [] } w := by
    refine ⟨hr, ?_, fun i => ?_, rfl, ⟨rfl, rfl, rfl, Nat.le_refl _, fun _ _ _ => rfl⟩, fun _ h => h, fun _ h => .inl h, fun _ _ _ => rfl, Nat.le_refl _, fun _ _ h => h⟩
    · rw [catA_eq, anys_eq, lenA_eq]; simp [hv.1]
    · rw [catA_eq, anys_eq, lenA_eq, getL_eq, List.getD_eq_getElem?_getD]
      by_cases hi : i < args.length
      · rw [List.getElem?_append_left hi, List.getElem?_eq_getElem hi]
        have hi2 : i < vs.size := by rw [hv.1]; exact hi
        have : (vs ++ Array.replicate (fn.ntmps - vs.size) undef).getD i undef = vs[i] := by
          rw [Array.getD_eq_getD_getElem?, Array.getElem?_append_left hi2, Array.getElem?_eq_getElem hi2]; rfl
        rw [this]
        exact hv.2 i _ _ (List.getElem?_eq_getElem hi) (Array.getElem?_eq_getElem hi2)
      · have : (args ++ List.replicate (fn.ntmps - args.length) AV.any)[i]?.getD .any = .any := by
          rw [List.getElem?_append_right (by omega), List.getElem?_replicate]
          split <;> rfl
        rw [this]
        exact .any _
  have := h fn hrs (envOf gs Pr w hs) [.code c] ⟨hac, trivial⟩ gs Pr _ w C
  refine wp_mono (show c.wp P (kont P (bodyPost P fn (Rfin (envOf gs Pr w hs) (EndP (lenO hs) spost))) []) _ w from this) fun e a w' h => ?_
  have conv : bodyPost P fn (Rfin (envOf gs Pr w hs) (EndP (lenO hs) spost)) e a w' := h
  cases e with
  | normal => obtain ⟨h1, v, h2, h3⟩ := conv; exact ⟨h1, v, h2, Rfin.end_ h3⟩
  | ret => obtain ⟨h1, v, h2, h3⟩ := conv; exact ⟨h1, v, h2, Rfin.end_ h3⟩
  | panic ch => obtain ⟨h1, h2⟩ := conv; exact ⟨h1, Rfin.end_ h2⟩
  | outgrown => exact Rfin.end_ (show Rfin _ (EndP (lenO hs) spost) .outgrown w' from conv)
  | exit id => exact conv.elim
  | goto l => exact conv.elim
end Go.Proofs.YtlnafekmiidpkaaDoor.S
