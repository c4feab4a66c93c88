/- What it is that an evaluation shows: from a state on, what is to be done ends as is said. -/
import Derived.Test.YtlnafekmiidpkaaDoorS3
namespace Go.Proofs.YtlnafekmiidpkaaDoor.S
set_option linter.all false
set_option linter.unusedVariables false
structure Env where
  S : Nat → Prop
  w0 : World
  P0 : Nat → Prop
  gs0 : Nat → Gh
  hs0 : List AObj
def Env.M (E : Env) (b : Nat) : Prop := E.S b ∨ E.w0.heap.size ≤ b
def isGrow : AObj → Prop
  | .grow .. => True
  | _ => False
structure Kp (E : Env) (w : World) : Prop where
  os : w.os = E.w0.os
  tape : w.tape = E.w0.tape
  output : w.output = E.w0.output
  size : E.w0.heap.size ≤ w.heap.size
  block : ∀ b, b < E.w0.heap.size → ¬ E.S b → w.heap[b]? = E.w0.heap[b]?
abbrev dom (hs : List AObj) : Nat → Prop := fun k => k < lenO hs
structure Conc (E : Env) (gs : Nat → Gh) (Pr : Nat → Prop) (tm : List AV) (hs : List AObj) (a : Act) (w : World) : Prop where
  rep : Rep gs (dom hs) Pr E.M (getO hs) w
  size : a.tmps.size = tm.length
  tms : ∀ i, Cz gs (dom hs) Pr w (getL tm i) (a.tmps.getD i undef)
  dfs : a.defers = []
  kp : Kp E w
  p0 : ∀ b, E.P0 b → Pr b
  pm : ∀ b, Pr b → E.P0 b ∨ E.M b
  agree : ∀ k, k < lenO E.hs0 → ¬ isGrow (getO E.hs0 k) → gs k = E.gs0 k
  len0 : lenO E.hs0 ≤ lenO hs
  kind : ∀ k, k < lenO E.hs0 → isGrow (getO hs k) → isGrow (getO E.hs0 k)
/-- How a call ends. -/
def Rfin (E : Env) (post : AV → List AObj → Prop) (e : Ending) (w : World) : Prop :=
  ∃ v r hs gs Pr, e = .returned v ∧ post r hs ∧ Cz gs (dom hs) Pr w r v ∧ Rep gs (dom hs) Pr E.M (getO hs) w ∧ Kp E w ∧ (∀ b, E.P0 b → Pr b) ∧ (∀ b, Pr b → E.P0 b ∨ E.M b) ∧
    (∀ k, k < lenO E.hs0 → ¬ isGrow (getO E.hs0 k) → gs k = E.gs0 k) ∧ lenO E.hs0 ≤ lenO hs ∧ ∀ k, k < lenO E.hs0 → isGrow (getO hs k) → isGrow (getO E.hs0 k)
inductive MItem
  | code (c : Code)
  | ops (full : Array Oper) (l : List Oper)
  | block (id : Nat)
  | again (J : Act → World → Prop)
  | scope (m : Nat) (c : Code)
  | inLoop (m : Nat) (c : Code)
def IRel (P : Program) (E : Env) : AItem → MItem → Prop
  | .code c, .code c' => cCode P c' = some c
  | .ops l, .ops full l' => cOpers P full l' = some l
  | .block i, .block j => i = j
  | .inLoop m c, .inLoop m' c' => m = m' ∧ cCode P c' = some c
  | .scope m n c, .scope m' c' => m = m' ∧ lenO E.hs0 ≤ n ∧ cCode P c' = some c
  | .again J, .again J' => ∀ gs Pr tm hs a w, Conc E gs Pr tm hs a w → J tm hs → J' a w
  | _, _ => False
def IRels (P : Program) (E : Env) : List AItem → List MItem → Prop
  | [], [] => True
  | x :: l, y :: m => IRel P E x y ∧ IRels P E l m
  | _, _ => False
/-- So many jumps in a scope, and what follows. -/
def scK (P : Program) (c : Code) (K : Exit → Act → World → Prop) : Nat → Exit → Act → World → Prop
  | 0 => fun e a w => match e with
    | .goto l => match findLabel c l with
      | none => K (.goto l) a w
      | some _ => False
    | e => K e a w
  | m + 1 => fun e a w => match e with
    | .goto l => match findLabel c l with
      | none => K (.goto l) a w
      | some r => r.wp P (scK P c K m) a w
    | e => K e a w
/-- So many rounds of a loop, and what follows. -/
def lpK (P : Program) (c : Code) (K : Exit → Act → World → Prop) : Nat → Exit → Act → World → Prop
  | 0 => fun e a w => match e with
    | .normal => False
    | e => K e a w
  | m + 1 => fun e a w => match e with
    | .normal => c.wp P (lpK P c K m) a w
    | e => K e a w
/-- What is to be done, as a condition on where a piece of code ends. -/
def kont (P : Program) (Q : Exit → Act → World → Prop) : List MItem → Exit → Act → World → Prop
  | [], e, a, w => Q e a w
  | .code c :: k, .normal, a, w => c.wp P (kont P Q k) a w
  | .code _ :: k, e, a, w => kont P Q k e a w
  | .ops full l :: k, .normal, a, w => wpList P full (kont P Q k) l a w
  | .ops _ _ :: k, e, a, w => kont P Q k e a w
  | .block id :: k, .exit i, a, w => if i = id then kont P Q k .normal a w else kont P Q k (.exit i) a w
  | .block _ :: k, e, a, w => kont P Q k e a w
  | .again J :: k, .normal, a, w => J a w
  | .again _ :: k, e, a, w => kont P Q k e a w
  | .scope m c :: k, e, a, w => scK P c (kont P Q k) m e a w
  | .inLoop m c :: k, e, a, w => lpK P c (kont P Q k) m e a w
def AW (P : Program) (rs : List ARes) (todo : List AItem) (tm : List AV) (hs : List AObj) (post : AV → List AObj → Prop) : Prop :=
  ∀ (fn : Func) (hrs : fn.results.toList.mapM (cRes P) = some rs) (E : Env) (mt : List MItem), IRels P E todo mt → ∀ gs Pr a w, Conc E gs Pr tm hs a w → kont P (bodyPost P fn (Rfin E post)) mt .normal a w
/-- Values that stand for a list of abstract ones. -/
def Czs (gs : Nat → Gh) (D : Nat → Prop) (Pr : Nat → Prop) (w : World) (l : List AV) (vs : Array Value) : Prop := vs.size = l.length ∧ ∀ (j : Nat) a v, l[j]? = some a → vs[j]? = some v → Cz gs D Pr w a v
def ACall (P : Program) (rs : List ARes) (f : Nat) (args : List AV) (dst : Option Nat) (todo : List AItem) (tm : List AV) (hs : List AObj) (post : AV → List AObj → Prop) : Prop :=
  ∀ (fn : Func) (hrs : fn.results.toList.mapM (cRes P) = some rs) (E : Env) (mt : List MItem), IRels P E todo mt → ∀ gs Pr a w, Conc E gs Pr tm hs a w → ∀ vs, Czs gs (dom hs) Pr w args vs →
    (callFunc f vs).run P w = .ok (.enter f vs) w ∧ Calls P f vs w fun e w' => ∃ v, e = .returned v ∧ kont P (bodyPost P fn (Rfin E post)) mt .normal (a.put dst v) w'
def ALoop (P : Program) (rs : List ARes) (body : ACode) (todo : List AItem) (tm : List AV) (hs : List AObj) (post : AV → List AObj → Prop) : Prop := AW P rs (.code (.loop body) :: todo) tm hs post
def ADreg (P : Program) (rs : List ARes) (l : List AOper) (cl : List (List Nat)) (todo : List AItem) (tm : List AV) (hs : List AObj) (post : AV → List AObj → Prop) : Prop := AW P rs (.code (.dreg l cl) :: todo) tm hs post
def NodeOK (P : Program) (rs : List ARes) (post : AV → List AObj → Prop) : Node → Prop
  | .ret v hs => post v hs
  | .need p n => p ∧ NodeOK P rs post n
  | .br b x y => (b = true → NodeOK P rs post x) ∧ (b = false → NodeOK P rs post y)
  | .go todo tm hs => AW P rs todo tm hs post
  | .callN f args dst todo tm hs => ACall P rs f args dst todo tm hs post
  | .rowN xs i dst todo tm hs => 0 ≤ i ∧ ∃ c, xs[i.toNat]? = some c ∧ AW P rs todo (putL tm dst (.rp c 0)) hs post
  | .growN xs i off m agg flat dst todo tm hs => ∃ c, xs[i]? = some c ∧ (agg = true → fits c off m = true ∧ AW P rs todo (putL tm dst (mkAgg flat (segL c off m))) hs post) ∧ (agg = false → fits c off 1 = true ∧ AW P rs todo (putL tm dst (getL c off)) hs post)
  | .lookN M n z ok dst todo tm hs => (∀ v, M.look n = some v → AW P rs todo (putL tm dst (lookR v ok .tt)) hs post) ∧ (M.look n = none → AW P rs todo (putL tm dst (lookR z ok .ff)) hs post)
  | .nextN M kk k x c seen dst todo tm hs => M.clock = c ∧ (∀ e ∈ M.es, e.1 ∉ seen → AW P rs todo (putL tm dst (.tup [.tt, .int kk e.2.1, e.2.2])) (setO hs k (.iter x c (seen ++ [e.1]))) post) ∧ ((∀ e ∈ M.es, e.1 ∈ seen) → AW P rs todo (putL tm dst (.tup [.ff])) hs post)
  | .entN M kk seen dst todo tm hs => ∃ e ∈ M.es, ∃ r, seen = r ++ [e.1] ∧ AW P rs todo (putL tm dst (.tup [.int kk e.2.1, e.2.2])) hs post
  | .cellN cs i dst todo tm hs => ∃ c, cs[i]? = some c ∧ AW P rs todo (putL tm dst c) hs post
  | .loopN body todo tm hs => ALoop P rs body todo tm hs post
  | .scopeN c todo tm hs => AW P rs (.code (.scope c) :: todo) tm hs post
  | .both x y => NodeOK P rs post x ∧ NodeOK P rs post y
  | .hyp p n => p → NodeOK P rs post n
  | .dregN l cl todo tm hs => ADreg P rs l cl todo tm hs post
  | .againN J tm hs => J tm hs
  | .bad => False
/- lists -/
theorem getL_eq (l : List AV) (i : Nat) : getL l i = l.getD i .any := by
  induction l generalizing i with
  | nil => rfl
  | cons x l ih => cases i with
    | zero => rfl
    | succ i => simpa [getL] using ih i
theorem setL_eq (l : List AV) (i : Nat) (v : AV) : setL l i v = l.set i v := by
  induction l generalizing i with
  | nil => rfl
  | cons x l ih => cases i with
    | zero => rfl
    | succ i => simpa [setL] using ih i
theorem getO_eq (l : List AObj) (i : Nat) : getO l i = l.getD i .dead := by
  induction l generalizing i with
  | nil => rfl
  | cons x l ih => cases i with
    | zero => rfl
    | succ i => simpa [getO] using ih i
theorem lenO_eq (l : List AObj) : lenO l = l.length := by
  induction l with
  | nil => rfl
  | cons x l ih => simp [lenO, ih]
theorem setO_eq (l : List AObj) (i : Nat) (v : AObj) : setO l i v = l.set i v := by
  induction l generalizing i with
  | nil => rfl
  | cons x l ih => cases i with
    | zero => rfl
    | succ i => simpa [setO] using ih i
theorem snocO_eq (l : List AObj) (v : AObj) : snocO l v = l ++ [v] := by
  induction l with
  | nil => rfl
  | cons x l ih => simpa [snocO] using ih
theorem dom_snoc (hs : List AObj) (o : AObj) : dom (snocO hs o) = fun k => dom hs k ∨ k = lenO hs := by
  funext k
  simp only [dom, lenO_eq, snocO_eq, List.length_append, List.length_singleton, eq_iff_iff]
  omega
theorem getO_snoc (hs : List AObj) (o : AObj) : getO (snocO hs o) = upd (getO hs) (lenO hs) o := by
  funext k
  simp only [getO_eq, snocO_eq, upd, lenO_eq]
  by_cases e : k = hs.length
  · subst e; simp
  · rw [if_neg e]
    simp only [List.getD_eq_getElem?_getD]
    by_cases h : k < hs.length
    · rw [List.getElem?_append_left h]
    · rw [List.getElem?_eq_none (by simp; omega), List.getElem?_eq_none (by omega)]
theorem dom_set (hs : List AObj) (k : Nat) (o : AObj) : dom (setO hs k o) = dom hs := by
  funext j
  simp [dom, lenO_eq, setO_eq]
theorem getO_set {hs : List AObj} {k : Nat} (h : k < lenO hs) (o : AObj) : getO (setO hs k o) = upd (getO hs) k o := by
  funext j
  simp only [getO_eq, setO_eq, upd, List.getD_eq_getElem?_getD]
  rw [lenO_eq] at h
  by_cases e : j = k
  · subst e; simp [h]
  · rw [if_neg e, List.getElem?_set_ne (fun e' => e e'.symm)]
theorem getO_lt {hs : List AObj} {k : Nat} (h : getO hs k ≠ .dead) : k < lenO hs := by
  rw [getO_eq] at h
  rw [lenO_eq]
  apply Decidable.byContradiction
  intro hk
  exact h (by simp [List.getD_eq_getElem?_getD, List.getElem?_eq_none (Nat.le_of_not_lt hk)])
theorem segL_eq : ∀ (cs : List AV) (o n : Nat), segL cs o n = (cs.drop o).take n
  | _, _, 0 => by simp [segL]
  | [], o, n + 1 => by simp [segL]
  | x :: l, 0, n + 1 => by
    have := segL_eq l 0 n
    simp [segL, this]
  | x :: l, o + 1, n + 1 => by
    have := segL_eq l o (n + 1)
    simp [segL, this]
theorem overL_eq : ∀ (cs : List AV) (o : Nat) (vs : List AV), o + vs.length ≤ cs.length → overL cs o vs = cs.take o ++ vs ++ cs.drop (o + vs.length)
  | [], 0, [], _ => by simp [overL]
  | x :: l, 0, [], _ => by simp [overL]
  | [], 0, v :: vs, h => by simp at h
  | [], o + 1, vs, h => by simp at h
  | x :: l, 0, v :: vs, h => by
    have := overL_eq l 0 vs (by simp at h ⊢; omega)
    simp [overL, this]
  | x :: l, o + 1, vs, h => by
    have := overL_eq l o vs (by simp at h ⊢; omega)
    simp [overL, this, Nat.add_right_comm]
/- a slot is filled -/
section
variable {E : Env} {gs : Nat → Gh} {Pr : Nat → Prop} {tm : List AV} {hs : List AObj} {a : Act} {w : World}
theorem Conc.put (C : Conc E gs Pr tm hs a w) (d : Option Nat) {x : AV} {v : Value} (h : Cz gs (dom hs) Pr w x v) : Conc E gs Pr (putL tm d x) hs (a.put d v) w := by
  cases d with
  | none => exact C
  | some d =>
    refine { C with size := ?_, tms := fun i => ?_ }
    · simp [putL, Act.put, setL_eq, C.size]
    · have := C.tms i
      simp only [putL, Act.put, getL_eq, setL_eq, List.getD_eq_getElem?_getD, Array.getD_eq_getD_getElem?] at this ⊢
      by_cases e : d = i
      · subst e
        by_cases hd : d < tm.length
        · rw [List.getElem?_set_self hd, Array.getElem?_setIfInBounds_self_of_lt (by rw [C.size]; exact hd)]
          exact h
        · rw [List.getElem?_eq_none (by simp; omega), Array.getElem?_eq_none (by simp [C.size]; omega)]
          exact .any _
      · rw [List.getElem?_set_ne e, Array.getElem?_setIfInBounds_ne e]
        exact this
theorem Conc.setTm (C : Conc E gs Pr tm hs a w) (s : Nat) {x : AV} (h : Cz gs (dom hs) Pr w x (a.tmps.getD s undef)) : Conc E gs Pr (setL tm s x) hs a w := by
  refine { C with size := ?_, tms := fun i => ?_ }
  · simp [setL_eq, C.size]
  · have := C.tms i
    simp only [getL_eq, setL_eq, List.getD_eq_getElem?_getD] at this ⊢
    by_cases e : s = i
    · subst e
      by_cases hd : s < tm.length
      · rw [List.getElem?_set_self hd]; exact h
      · rw [List.getElem?_eq_none (by simp; omega)]; exact .any _
    · rw [List.getElem?_set_ne e]; exact this
end
theorem ofV_lf (Pr : Nat → Prop) (w : World) (v : Value) : ofV v = .any ∨ Lf Pr w (ofV v) v := by
  unfold ofV
  split <;> first | exact .inl rfl | (right; constructor)
theorem Cz_ofV {gs : Nat → Gh} {D Pr : Nat → Prop} {w : World} (v : Value) : Cz gs D Pr w (ofV v) v := by
  rcases ofV_lf Pr w v with h | h
  · rw [h]; exact .any _
  · exact .lf h
theorem Cz_ofC {gs : Nat → Gh} {D Pr : Nat → Prop} {w : World} (v : Value) : Cz gs D Pr w (ofC v) v := by
  cases v with
  | agg cs =>
    simp only [ofC]
    split
    · rename_i h
      refine .agg _ _ (by simp) (fun j a v h1 h2 => ?_) (List.all_eq_true.1 h)
      simp only [List.getElem?_map] at h1
      have h3 : cs.toList[j]? = some v := by simpa using h2
      rw [h3] at h1
      injection h1 with h1
      rw [← h1]
      exact Cz_ofV v
    · exact .any _
  | func fn a b =>
    cases fn with
    | func f =>
      simp only [ofC]
      split
      · rename_i h
        have h := Nat.eq_of_beq_eq_true h
        have h1 : a.size = 0 := by omega
        have h2 : b.size = 0 := by omega
        exact .fn _ _ _ _ _ h1 h2 (fun j x v h => by simp at h) (fun j x v h => by simp at h)
      · exact .any _
    | _ => simp only [ofC]; exact Cz_ofV _
  | _ => simp only [ofC]; exact Cz_ofV _
theorem Conc.opd {E : Env} {gs : Nat → Gh} {Pr : Nat → Prop} {tm : List AV} {hs : List AObj} {a : Act} {w : World} (C : Conc E gs Pr tm hs a w) {x : Operand} {y : Opd} (h : cOpd x = some y) : Cz gs (dom hs) Pr w (ev tm y) (a.eval x) := by
  cases x with
  | tmp t => simp only [cOpd, Option.some.injEq] at h; subst h; exact C.tms t
  | const v => simp only [cOpd, Option.some.injEq] at h; subst h; exact Cz_ofC v
  | global g =>
    simp only [cOpd] at h
    split at h
    · rename_i c hc
      injection h with h
      subst h
      obtain ⟨h1, h2⟩ := C.rep.gl g c hc
      exact .rp c 0 g 0 h1 (fun j a hj => by rw [Nat.zero_add]; exact h2 j a hj)
    · cases h
  | func f => simp only [cOpd, Option.some.injEq] at h; subst h; exact .fn _ _ _ _ _ rfl rfl (fun j x v h => by simp at h) (fun j x v h => by simp at h)
/- what a value is -/
section
variable {gs : Nat → Gh} {D Pr : Nat → Prop} {w : World} {v : Value}
theorem Cz.int {k : IntKind} {n : Int} (h : Cz gs D Pr w (.int k n) v) : v = .int k n := by cases h with | lf h => cases h; rfl
theorem Cz.bool {b : Bool} (h : Cz gs D Pr w (.bool b) v) : v = .bool b := by cases h with | lf h => cases h; rfl
theorem Cz.tt (h : Cz gs D Pr w .tt v) : v = .bool true := by cases h with | lf h => cases h; rfl
theorem Cz.ff (h : Cz gs D Pr w .ff v) : v = .bool false := by cases h with | lf h => cases h; rfl
theorem Cz.str {s : ByteArray} (h : Cz gs D Pr w (.str s) v) : v = .string s := by cases h with | lf h => cases h; rfl
theorem Cz.nilp (h : Cz gs D Pr w .nilp v) : v = .pointer none := by cases h with | lf h => cases h; rfl
theorem Cz.nils (h : Cz gs D Pr w .nils v) : v = .slice none 0 0 := by cases h with | lf h => cases h; rfl
theorem Cz.nilm (h : Cz gs D Pr w .nilm v) : v = .map none := by cases h with | lf h => cases h; rfl
theorem Cz.nilf (h : Cz gs D Pr w .nilf v) : v = .nilFunc := by cases h with | lf h => cases h; rfl
theorem Cz.ptr_ {k off : Nat} (h : Cz gs D Pr w (.ptr k off) v) : v = .pointer (some (at_ (gs k).blk off)) ∧ D k := by
  cases h with
  | lf h => cases h
  | ptr _ _ hk => exact ⟨rfl, hk⟩
theorem Cz.ptrS_ {k off : Nat} (h : Cz gs D Pr w (.ptrS k off) v) : v = .pointer (some (at_ (gs k).blk off)) ∧ D k := by
  cases h with
  | lf h => cases h
  | ptrS _ _ hk => exact ⟨rfl, hk⟩
theorem Cz.sl_ {k off len cap : Nat} (h : Cz gs D Pr w (.sl k off len cap) v) : v = .slice (some (at_ (gs k).blk off)) len cap ∧ D k := by
  cases h with
  | lf h => cases h
  | sl _ _ _ _ hk => exact ⟨rfl, hk⟩
theorem Cz.own_ {k : Nat} (h : Cz gs D Pr w (.own k) v) : v = (gs k).hd ∧ D k := by
  cases h with
  | lf h => cases h
  | own _ hk hh => exact ⟨rfl, hk⟩
theorem Cz.mp_ {k : Nat} (h : Cz gs D Pr w (.mp k) v) : v = .map (some (gs k).blk) ∧ D k := by
  cases h with
  | lf h => cases h
  | mp _ hk => exact ⟨rfl, hk⟩
theorem Cz.gp_ {k sz i off : Nat} (h : Cz gs D Pr w (.gp k sz i off) v) : v = .pointer (some (at_ (gs k).blk (i * sz + off))) ∧ D k := by
  cases h with
  | lf h => cases h
  | gp _ _ _ _ hk => exact ⟨rfl, hk⟩
theorem Cz.ro_ {sz : Nat} {xs : List (List AV)} (h : Cz gs D Pr w (.ro sz xs) v) : Lf Pr w (.ro sz xs) v := by cases h with | lf h => exact h
theorem Cz.arr_ {cs : List AV} (h : Cz gs D Pr w (.arr cs) v) : Lf Pr w (.arr cs) v := by cases h with | lf h => exact h
theorem Cz.agg_ {cs : List AV} (h : Cz gs D Pr w (.agg cs) v) : ∃ vs : Array Value, v = .agg vs ∧ vs.size = cs.length ∧ (∀ (j : Nat) a v, cs[j]? = some a → vs[j]? = some v → Cz gs D Pr w a v) ∧ ∀ v ∈ vs.toList, v.oneCell' = true := by
  cases h with
  | lf h => cases h
  | agg _ vs hn h hc => exact ⟨vs, rfl, hn, h, hc⟩
theorem Cz.tup_ {cs : List AV} (h : Cz gs D Pr w (.tup cs) v) : ∃ vs : Array Value, v = .tuple vs ∧ vs.size = cs.length ∧ ∀ (j : Nat) a v, cs[j]? = some a → vs[j]? = some v → Cz gs D Pr w a v := by
  cases h with
  | lf h => cases h
  | tup _ vs hn h => exact ⟨vs, rfl, hn, h⟩
theorem Cz.fn_ {f : Nat} {x y : List AV} (h : Cz gs D Pr w (.fn f x y) v) : ∃ va vb : Array Value, v = .func (.func f) va vb ∧ Czs gs D Pr w x va ∧ Czs gs D Pr w y vb := by
  cases h with
  | lf h => cases h
  | fn _ _ _ va vb ha hb h1 h2 => exact ⟨va, vb, rfl, ⟨ha, h1⟩, ⟨hb, h2⟩⟩
theorem Lf.arr_ {cs : List AV} (h : Lf Pr w (.arr cs) v) : ∃ vs : Array Value, v = .agg vs ∧ vs.size = cs.length ∧ (∀ (j : Nat) a v, cs[j]? = some a → vs[j]? = some v → Lf Pr w a v) ∧ ∀ v ∈ vs.toList, v.oneCell' = true := by
  cases h with
  | arr _ vs hn h hc => exact ⟨vs, rfl, hn, h, hc⟩
/-- A value's cells. -/
theorem Cz.cells {x : AV} (h : Cz gs D Pr w x v) (hx : okCell x = true) : v.cells.size = (cellsOf x).length ∧ (∀ (j : Nat) a u, (cellsOf x)[j]? = some a → v.cells[j]? = some u → Cz gs D Pr w a u) ∧ ∀ u ∈ v.cells.toList, u.oneCell' = true := by
  have one : ∀ {x : AV} {v : Value}, Cz gs D Pr w x v → cellsOf x = [x] → v.cells = #[v] → v.oneCell' = true → v.cells.size = (cellsOf x).length ∧ (∀ (j : Nat) a u, (cellsOf x)[j]? = some a → v.cells[j]? = some u → Cz gs D Pr w a u) ∧ ∀ u ∈ v.cells.toList, u.oneCell' = true := by
    intro x v h h1 h2 h3
    rw [h1, h2]
    refine ⟨rfl, fun j a u e1 e2 => ?_, fun u hu => ?_⟩
    · cases j with
      | zero => simp at e1 e2; subst e1; subst e2; exact h
      | succ j => simp at e1
    · simp at hu; subst hu; exact h3
  cases h with
  | any v => simp [okCell, isCell] at hx
  | lf h =>
    cases h with
    | any v => simp [okCell, isCell] at hx
    | arr cs vs hn h hc => exact ⟨hn, fun j a u e1 e2 => .lf (h j a u e1 e2), hc⟩
    | ro0 sz A cap hA => exact one (.lf (.ro0 sz A cap hA)) rfl rfl rfl
    | ro sz xs b o cap f hp hc hn hv hm => exact one (.lf (.ro sz xs b o cap f hp hc hn hv hm)) rfl rfl rfl
    | _ => exact one (.lf (by constructor)) rfl rfl rfl
  | agg cs vs hn h hc => exact ⟨hn, h, hc⟩
  | tup cs vs hn h => simp [okCell, isCell] at hx
  | rp c off b o hp h => exact one (.rp c off b o hp h) rfl rfl rfl
  | fn f a b va vb ha hb h1 h2 => exact one (.fn f a b va vb ha hb h1 h2) rfl rfl rfl
  | own k hk hh =>
    obtain ⟨A, n, c, e⟩ := hh
    exact one (.own k hk ⟨A, n, c, e⟩) rfl (by rw [e]; rfl) (by rw [e]; rfl)
  | ptr k off hk => exact one (.ptr k off hk) rfl rfl rfl
  | ptrS k off hk => exact one (.ptrS k off hk) rfl rfl rfl
  | sl k off len cap hk => exact one (.sl k off len cap hk) rfl rfl rfl
  | mp k hk => exact one (.mp k hk) rfl rfl rfl
  | gp k sz i off hk => exact one (.gp k sz i off hk) rfl rfl rfl
end
end Go.Proofs.YtlnafekmiidpkaaDoor.S
