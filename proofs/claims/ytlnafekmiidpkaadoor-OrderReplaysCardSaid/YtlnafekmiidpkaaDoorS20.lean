/- Loops; rows that become values; nil slices that may grow. -/
import Derived.Test.YtlnafekmiidpkaaDoorS19
import Derived.Deep.LoopGhost
namespace Go.Proofs.YtlnafekmiidpkaaDoor.S
set_option linter.all false
set_option linter.unusedVariables false
set_option linter.unusedSimpArgs false
/-- A state told otherwise. -/
def Trans (φ : AV → AV) (tm : List AV) (hs : List AObj) (tm2 : List AV) (hs2 : List AObj) : Prop :=
  ∀ E gs Pr a w, Conc E gs Pr tm hs a w → ∃ gs2 Pr2, Conc E gs2 Pr2 tm2 hs2 a w ∧ ∀ x v, Cz gs (dom hs) Pr w x v → Cz gs2 (dom hs2) Pr2 w (φ x) v
def mapA (φ : AV → AV) : List AV → List AV
  | [] => []
  | x :: l => φ x :: mapA φ l
theorem mapA_get (φ : AV → AV) : ∀ (l : List AV) (j : Nat), (mapA φ l)[j]? = (l[j]?).map φ
  | [], j => by simp [mapA]
  | x :: l, 0 => by simp [mapA]
  | x :: l, j + 1 => by simpa [mapA] using mapA_get φ l j
theorem mapA_len (φ : AV → AV) : ∀ (l : List AV), (mapA φ l).length = l.length
  | [] => rfl
  | x :: l => by simp [mapA, mapA_len φ l]
theorem aw_trans {P : Program} {rs : List ARes} {todo : List AItem} {tm tm2 : List AV} {hs hs2 : List AObj} {post : AV → List AObj → Prop} {φ : AV → AV} (h : Trans φ tm hs tm2 hs2) (hA : AW P rs todo tm2 hs2 post) : AW P rs todo tm hs post := by
  intro fn hrs E mt hi gs Pr a w C
  obtain ⟨gs2, Pr2, C2, _⟩ := h E gs Pr a w C
  exact hA fn hrs E mt hi gs2 Pr2 a w C2
theorem acall_trans {P : Program} {rs : List ARes} {f : Nat} {args : List AV} {dst : Option Nat} {todo : List AItem} {tm tm2 : List AV} {hs hs2 : List AObj} {post : AV → List AObj → Prop} {φ : AV → AV} (h : Trans φ tm hs tm2 hs2)
    (hA : ACall P rs f (mapA φ args) dst todo tm2 hs2 post) : ACall P rs f args dst todo tm hs post := by
  intro fn hrs E mt hi gs Pr a w C vs hvs
  obtain ⟨gs2, Pr2, C2, hφ⟩ := h E gs Pr a w C
  refine hA fn hrs E mt hi gs2 Pr2 a w C2 vs ⟨by rw [mapA_len]; exact hvs.1, fun j x v e1 e2 => ?_⟩
  rw [mapA_get, Option.map_eq_some_iff] at e1
  obtain ⟨y, hy, rfl⟩ := e1
  exact hφ y v (hvs.2 j y v hy e2)
/- Rows that become values. -/
def frzV (k : Nat) (r : AV) : AV → AV
  | .own j => ifEq j k r (.own j)
  | .gp j s i o => ifEq j k .any (.gp j s i o)
  | .agg _ => .any
  | .tup _ => .any
  | .fn .. => .any
  | v => v
def frz1 (k : Nat) (r : AV) : AV → AV
  | .agg cs => .agg (mapA (frzV k r) cs)
  | .fn f a b => .fn f (mapA (frzV k r) a) (mapA (frzV k r) b)
  | .tup _ => .any
  | v => frzV k r v
def frz (k : Nat) (r : AV) : AV → AV
  | .tup cs => .tup (mapA (frz1 k r) cs)
  | v => frz1 k r v
def frzO (k : Nat) (r : AV) : AObj → AObj
  | .cells t cs => .cells t (mapA (frz1 k r) cs)
  | .iter x c seen => .iter (frz1 k r x) c seen
  | o => o
def mapO (f : AObj → AObj) : List AObj → List AObj
  | [] => []
  | x :: l => f x :: mapO f l
theorem mapO_get (f : AObj → AObj) (hf : f .dead = .dead) : ∀ (l : List AObj) (j : Nat), getO (mapO f l) j = f (getO l j)
  | [], j => hf.symm
  | x :: l, 0 => rfl
  | x :: l, j + 1 => mapO_get f hf l j
theorem mapO_len (f : AObj → AObj) : ∀ (l : List AObj), lenO (mapO f l) = lenO l
  | [] => rfl
  | x :: l => by simp [mapO, lenO, mapO_len f l]
section
variable {gs : Nat → Gh} {D Pr Pr' : Nat → Prop} {w : World} {k : Nat} {r : AV}
variable (hr : Lf Pr' w r (gs k).hd) (hP : ∀ b, Pr b → Pr' b)
include hr hP
theorem frzV_ok {x : AV} {v : Value} (h : Cz gs D Pr w x v) : Cz gs D Pr' w (frzV k r x) v := by
  have hm : Cz gs D Pr' w x v := h.mono (fun _ h => h) (fun _ _ => rfl) hP (fun _ _ => rfl)
  cases x with
  | own j =>
    simp only [frzV, ifEq]
    split
    · rename_i e
      obtain rfl := Nat.eq_of_beq_eq_true e
      rw [h.own_.1]; exact .lf hr
    · exact hm
  | gp j s i o =>
    simp only [frzV, ifEq]
    split
    · exact .any v
    · exact hm
  | agg cs => exact .any v
  | tup cs => exact .any v
  | fn f a b => exact .any v
  | _ => exact hm
theorem frzL_ok {f : AV → AV} (hf : ∀ x v, Cz gs D Pr w x v → Cz gs D Pr' w (f x) v) {cs : List AV} {vs : Array Value} (h : ∀ (j : Nat) a v, cs[j]? = some a → vs[j]? = some v → Cz gs D Pr w a v) : ∀ (j : Nat) a v, (mapA f cs)[j]? = some a → vs[j]? = some v → Cz gs D Pr' w a v := by
  intro j a v e1 e2
  rw [mapA_get, Option.map_eq_some_iff] at e1
  obtain ⟨x, hx, rfl⟩ := e1
  exact hf x v (h j x v hx e2)
theorem frz1_ok {x : AV} {v : Value} (h : Cz gs D Pr w x v) : Cz gs D Pr' w (frz1 k r x) v := by
  cases x <;> first | exact frzV_ok hr hP h | skip
  case agg cs =>
    obtain ⟨vs, rfl, h1, h2, h3⟩ := h.agg_
    exact .agg _ vs (by rw [mapA_len]; exact h1) (frzL_ok hr hP (fun x v h => frzV_ok hr hP h) h2) h3
  case fn f a b =>
    obtain ⟨va, vb, rfl, h1, h2⟩ := h.fn_
    exact .fn _ _ _ va vb (by rw [mapA_len]; exact h1.1) (by rw [mapA_len]; exact h2.1) (frzL_ok hr hP (fun x v h => frzV_ok hr hP h) h1.2) (frzL_ok hr hP (fun x v h => frzV_ok hr hP h) h2.2)
theorem frz_ok {x : AV} {v : Value} (h : Cz gs D Pr w x v) : Cz gs D Pr' w (frz k r x) v := by
  cases x <;> first | exact frz1_ok hr hP h | skip
  case tup cs =>
    obtain ⟨vs, rfl, h1, h2⟩ := h.tup_
    exact .tup _ vs (by rw [mapA_len]; exact h1) (frzL_ok hr hP (fun x v h => frz1_ok hr hP h) h2)
theorem frzO_ok {g : Gh} {o : AObj} (h : ObjOK gs D Pr w g o) : ObjOK gs D Pr' w g (frzO k r o) := by
  have hm : ObjOK gs D Pr' w g o := h.mono (fun _ h => h) (fun _ _ => rfl) hP (fun _ _ => rfl) (fun _ => rfl)
  cases o with
  | cells t cs =>
    obtain ⟨c, fr, h1, h2, h3, h4, h5⟩ := h
    exact ⟨c, fr, h1, h2, h3, by rw [mapA_len]; exact h4, frzL_ok hr hP (fun x v h => frz1_ok hr hP h) h5⟩
  | iter x c seen =>
    obtain ⟨b, h1, h2⟩ := h
    exact ⟨b, h1, frz1_ok hr hP h2⟩
  | _ => exact hm
end
/-- A slice that grew becomes a value; nobody writes to it any more. -/
theorem trans_frz {tm : List AV} {hs : List AObj} (k t sz : Nat) (xs : List (List AV)) (ho : getO hs k = .grow t sz xs) : Trans (frz k (.ro sz xs)) tm hs (mapA (frz k (.ro sz xs)) tm) (setO (mapO (frzO k (.ro sz xs)) hs) k .dead) := by
  intro E gs Pr a w C
  have hk : dom hs k := getO_lt (by rw [ho]; simp)
  obtain ⟨h0, h1, h2⟩ := C.obj hk ho
  let Pr' : Nat → Prop := fun b => Pr b ∨ (live (gs k) (getO hs k) ∧ b = (gs k).blk)
  have hP : ∀ b, Pr b → Pr' b := fun b h => .inl h
  have hr : Lf Pr' w (.ro sz xs) (gs k).hd := by
    rcases h2 with ⟨rfl, h2⟩ | ⟨cap, h2, h3, c, fr, h4, h5, h6, h7, h8⟩
    · rw [h2]; exact .ro0 sz none 0 (fun _ => rfl)
    · rw [h2]
      have hle : xs.length * sz ≤ c.size := by rw [h7]; exact Nat.mul_le_mul_right _ h3
      refine .ro sz xs (gs k).blk 0 cap (fun q => c.getD q undef) (.inr ⟨by rw [ho]; show (gs k).hd ≠ _; rw [h2]; simp, rfl⟩) h3 h1 (fun i row j a e1 e2 => ?_) (fun q hq => ?_)
      · have hj : j < sz := by rw [← h1 row (List.mem_of_getElem? e1)]; exact (List.getElem?_eq_some_iff.1 e2).1
        have hi := (List.getElem?_eq_some_iff.1 e1).1
        have : (i + 1) * sz ≤ xs.length * sz := Nat.mul_le_mul_right _ hi
        rw [Nat.add_mul] at this
        have hlt : i * sz + j < c.size := by omega
        have hc := Array.getElem?_eq_getElem hlt
        have : c.getD (i * sz + j) undef = c[i * sz + j] := by rw [Array.getD_eq_getD_getElem?, hc]; rfl
        rw [this]
        exact (h8 i row j a _ e1 e2 hc).mono hP (fun _ _ => rfl)
      · have hlt : q < c.size := by omega
        have hc := Array.getElem?_eq_getElem hlt
        have : c.getD q undef = c[q] := by rw [Array.getD_eq_getD_getElem?, hc]; rfl
        rw [this, cell_at h4, Nat.zero_add, hc]
        exact ⟨rfl, h6 _ (by simp)⟩
  have hlen : lenO (setO (mapO (frzO k (.ro sz xs)) hs) k .dead) = lenO hs := by
    rw [lenO_eq, setO_eq, List.length_set, ← lenO_eq, mapO_len]
  have hdom : dom (setO (mapO (frzO k (.ro sz xs)) hs) k .dead) = dom hs := by unfold dom; rw [hlen]
  have hget : ∀ j, getO (setO (mapO (frzO k (.ro sz xs)) hs) k .dead) j = if j = k then .dead else frzO k (.ro sz xs) (getO hs j) := by
    intro j
    rw [getO_set (by rw [mapO_len]; exact hk)]
    unfold upd
    split
    · rfl
    · exact mapO_get _ rfl hs j
  have hlv : ∀ j, live (gs j) (getO (setO (mapO (frzO k (.ro sz xs)) hs) k .dead) j) → j ≠ k ∧ live (gs j) (getO hs j) := by
    intro j hl
    rw [hget] at hl
    split at hl
    · exact hl.elim
    · rename_i e
      refine ⟨e, ?_⟩
      cases h : getO hs j <;> rw [h] at hl <;> exact hl
  refine ⟨gs, Pr', ⟨⟨fun j hj => ?_, fun i j hi hj li lj e => ?_, fun j hj lj => ?_, fun b hb => ?_, C.rep.gl.mono hP (fun _ _ => rfl)⟩, by rw [mapA_len]; exact C.size, fun i => ?_, C.dfs, C.kp, fun b hb => .inl (C.p0 b hb), fun b hb => ?_, C.agree, by rw [hlen]; exact C.len0, fun j hj hg => ?_⟩, fun x v h => by rw [hdom]; exact frz_ok hr hP h⟩
  · rw [hdom] at hj ⊢
    rw [hget]
    split
    · trivial
    · exact frzO_ok hr hP (C.rep.obj j hj)
  · rw [hdom] at hi hj
    exact C.rep.inj i j hi hj (hlv i li).2 (hlv j lj).2 e
  · rw [hdom] at hj
    obtain ⟨h3, h4⟩ := hlv j lj
    obtain ⟨h5, h6⟩ := C.rep.mine j hj h4
    refine ⟨h5, fun hp => ?_⟩
    rcases hp with hp | ⟨hl, e⟩
    · exact h6 hp
    · exact h3 (C.rep.inj j k hj hk h4 hl e)
  · rcases hb with hb | ⟨hl, rfl⟩
    · exact C.rep.pr b hb
    · exact (C.rep.obj k hk).lt hl
  · rw [hdom]
    have := C.tms i
    rw [getL_eq, List.getD_eq_getElem?_getD] at this ⊢
    rw [mapA_get]
    cases h : tm[i]? with
    | none => exact .any _
    | some x => rw [h] at this; exact frz_ok hr hP this
  · rcases hb with hb | ⟨hl, rfl⟩
    · exact C.pm b hb
    · exact .inr (C.rep.mine k hk hl).1
  · rw [hget] at hg
    split at hg
    · exact hg.elim
    · refine C.kind j hj ?_
      cases h : getO hs j <;> rw [h] at hg <;> first | exact hg | trivial
/-- A slice that is nil is one that may grow. -/
theorem trans_nil {tm : List AV} {hs : List AObj} (i t sz : Nat) (h0 : 0 < sz) (hi : getL tm i = .nils) : Trans (fun x => x) tm hs (setL tm i (.own (lenO hs))) (snocO hs (.grow t sz [])) := by
  intro E gs Pr a w C
  have C1 := C.alloc (w' := w) ⟨0, .slice none 0 0⟩ (.grow t sz []) (fun l => absurd rfl l) (fun _ _ => rfl) (Nat.le_refl _) rfl rfl rfl ⟨h0, fun r hr => by simp at hr, .inl ⟨rfl, rfl⟩⟩
  have hv : a.tmps.getD i undef = .slice none 0 0 := by
    have := C.tms i
    rw [hi] at this
    exact this.nils
  have hz := Cz.own (gs := upd gs (lenO hs) ⟨0, .slice none 0 0⟩) (D := dom (snocO hs (.grow t sz []))) (Pr := Pr) (w := w) (lenO hs) (by rw [dom_snoc]; exact .inr rfl) (by rw [upd_self]; exact ⟨_, _, _, rfl⟩)
  rw [upd_self] at hz
  refine ⟨_, Pr, C1.setTm i (by rw [hv]; exact hz), fun x v h => h.mono (fun k hk => by rw [dom_snoc]; exact .inl hk) (fun k hk => upd_ne _ _ (fun e => by rw [e] at hk; exact Nat.lt_irrefl _ hk)) (fun _ h => h) (fun _ _ => rfl)⟩
/- Less is told. -/
def cutM (n k : Nat) : Option Nat := match Nat.blt k n with
  | true => some k
  | false => none
def mtcS (v u : AV) : Prop := match v with
  | .ro sz xs => match u with
    | .nils => xs = []
    | u => .ro sz xs = u
  | v => v = u
def mtcSL : List AV → List AV → Prop
  | [], [] => True
  | v :: l, u :: m => mtcS v u ∧ mtcSL l m
  | _, _ => False
theorem mtcS_ok {gs : Nat → Gh} {D Pr : Nat → Prop} {w : World} {v u : AV} {z : Value} (h : mtcS v u) (hz : Cz gs D Pr w u z) : Cz gs D Pr w v z := by
  cases v with
  | ro sz xs =>
    simp only [mtcS] at h
    split at h
    · rw [h, hz.nils]; exact .lf (.ro0 sz none 0 (fun _ => rfl))
    · rw [h]; exact hz
  | _ => simp only [mtcS] at h; rw [h]; exact hz
theorem mtcSL_get : ∀ {l m : List AV}, mtcSL l m → l.length = m.length ∧ ∀ (i : Nat) v, l[i]? = some v → ∃ u, m[i]? = some u ∧ mtcS v u
  | [], [], _ => ⟨rfl, fun i v h => by simp at h⟩
  | v :: l, u :: m, h => by
    obtain ⟨h1, h2⟩ := h
    obtain ⟨h3, h4⟩ := mtcSL_get h2
    refine ⟨by simp [h3], fun i x hx => ?_⟩
    cases i with
    | zero => simp at hx; subst hx; exact ⟨u, rfl, h1⟩
    | succ i => exact h4 i x (by simpa using hx)
  | [], _ :: _, h => h.elim
  | _ :: _, [], h => h.elim
def mtc0 (v u : AV) : Prop := match v with
  | .any => True
  | .bool b => match u with
    | .bool c => b = c
    | .tt => b = true
    | .ff => b = false
    | _ => False
  | .tt => match u with
    | .tt => True
    | .bool b => b = true
    | _ => False
  | .ff => match u with
    | .ff => True
    | .bool b => b = false
    | _ => False
  | .ro sz xs => match u with
    | .nils => xs = []
    | u => .ro sz xs = u
  | .agg cs => match u with
    | .arr ds => cs = ds ∨ mtcSL cs ds
    | .agg ds => cs = ds ∨ mtcSL cs ds
    | u => .agg cs = u
  | v => v = u
def mtc0L : List AV → List AV → Prop
  | [], [] => True
  | v :: l, u :: m => mtc0 v u ∧ mtc0L l m
  | _, _ => False
def mtc (v u : AV) : Prop := match v with
  | .tup cs => match u with
    | .tup ds => mtc0L cs ds
    | _ => False
  | v => mtc0 v u
def mtcL : List AV → List AV → Prop
  | [], [] => True
  | v :: l, u :: m => mtc v u ∧ mtcL l m
  | _, _ => False
def mtcO (o p : AObj) : Prop := match o with
  | .dead => True
  | .cells t cs => match p with
    | .cells t' cs' => t = t' ∧ mtcL cs cs'
    | _ => False
  | o => o = p
def mtcOs : List AObj → List AObj → Prop
  | [], [] => True
  | o :: l, p :: m => mtcO o p ∧ mtcOs l m
  | _, _ => False
/-- A state of which less is told; only the first n labels are. -/
def Wk (n : Nat) (tm : List AV) (hs : List AObj) (tm2 : List AV) (hs2 : List AObj) : Prop := n ≤ lenO hs ∧ mtcL tm2 (rens (cutM n) tm) ∧ mtcOs hs2 (takeE (cutM n) n hs)
theorem mtc0_ok {gs : Nat → Gh} {D Pr : Nat → Prop} {w : World} {v u : AV} {z : Value} (h : mtc0 v u) (hz : Cz gs D Pr w u z) : Cz gs D Pr w v z := by
  cases v with
  | any => exact .any z
  | bool b =>
    simp only [mtc0] at h
    split at h
    · rw [h]; exact hz
    · rw [h, hz.tt]; exact .lf (.bool _)
    · rw [h, hz.ff]; exact .lf (.bool _)
    · exact h.elim
  | tt =>
    simp only [mtc0] at h
    split at h
    · exact hz
    · rw [h] at hz; rw [hz.bool]; exact .lf .tt
    · exact h.elim
  | ff =>
    simp only [mtc0] at h
    split at h
    · exact hz
    · rw [h] at hz; rw [hz.bool]; exact .lf .ff
    · exact h.elim
  | ro sz xs =>
    simp only [mtc0] at h
    split at h
    · rw [h, hz.nils]; exact .lf (.ro0 sz none 0 (fun _ => rfl))
    · rw [h]; exact hz
  | agg cs =>
    simp only [mtc0] at h
    have fin : ∀ {ds : List AV} {vs : Array Value}, (cs = ds ∨ mtcSL cs ds) → vs.size = ds.length → (∀ (j : Nat) a v, ds[j]? = some a → vs[j]? = some v → Cz gs D Pr w a v) → (∀ v ∈ vs.toList, v.oneCell' = true) → Cz gs D Pr w (.agg cs) (.agg vs) := by
      intro ds vs h h1 h2 h3
      rcases h with h | h
      · subst h; exact .agg cs vs h1 h2 h3
      · obtain ⟨e1, e2⟩ := mtcSL_get h
        refine .agg cs vs (h1.trans e1.symm) (fun j a v f1 f2 => ?_) h3
        obtain ⟨u, g1, g2⟩ := e2 j a f1
        exact mtcS_ok g2 (h2 j u v g1 f2)
    split at h
    · obtain ⟨vs, rfl, h1, h2, h3⟩ := hz.arr_.arr_
      exact fin h h1 (fun j a v e1 e2 => .lf (h2 j a v e1 e2)) h3
    · obtain ⟨vs, rfl, h1, h2, h3⟩ := hz.agg_
      exact fin h h1 h2 h3
    · rw [h]; exact hz
  | _ => simp only [mtc0] at h; rw [h]; exact hz
theorem mtc0L_get : ∀ {l m : List AV}, mtc0L l m → l.length = m.length ∧ ∀ (i : Nat) v, l[i]? = some v → ∃ u, m[i]? = some u ∧ mtc0 v u
  | [], [], _ => ⟨rfl, fun i v h => by simp at h⟩
  | v :: l, u :: m, h => by
    obtain ⟨h1, h2⟩ := h
    obtain ⟨h3, h4⟩ := mtc0L_get h2
    refine ⟨by simp [h3], fun i x hx => ?_⟩
    cases i with
    | zero => simp at hx; subst hx; exact ⟨u, rfl, h1⟩
    | succ i => exact h4 i x (by simpa using hx)
  | [], _ :: _, h => h.elim
  | _ :: _, [], h => h.elim
theorem mtc_ok {gs : Nat → Gh} {D Pr : Nat → Prop} {w : World} {v u : AV} {z : Value} (h : mtc v u) (hz : Cz gs D Pr w u z) : Cz gs D Pr w v z := by
  unfold mtc at h
  split at h
  · split at h
    · obtain ⟨h1, h2⟩ := mtc0L_get h
      obtain ⟨vs, rfl, h3, h4⟩ := hz.tup_
      refine .tup _ vs (h3.trans h1.symm) (fun j a v e1 e2 => ?_)
      obtain ⟨u, e3, h5⟩ := h2 j a e1
      exact mtc0_ok h5 (h4 j u v e3 e2)
    · exact h.elim
  · exact mtc0_ok h hz
theorem mtcL_get : ∀ {l m : List AV}, mtcL l m → l.length = m.length ∧ ∀ i : Nat, mtc (l.getD i .any) (m.getD i .any)
  | [], [], _ => ⟨rfl, fun i => by simp [mtc, mtc0]⟩
  | v :: l, u :: m, h => by
    obtain ⟨h1, h2⟩ := h
    obtain ⟨h3, h4⟩ := mtcL_get h2
    refine ⟨by simp [h3], fun i => ?_⟩
    cases i with
    | zero => exact h1
    | succ i => exact h4 i
  | [], _ :: _, h => h.elim
  | _ :: _, [], h => h.elim
theorem mtcOs_get : ∀ {l m : List AObj}, mtcOs l m → lenO l = lenO m ∧ ∀ i : Nat, mtcO (getO l i) (getO m i)
  | [], [], _ => ⟨rfl, fun i => trivial⟩
  | v :: l, u :: m, h => by
    obtain ⟨h1, h2⟩ := h
    obtain ⟨h3, h4⟩ := mtcOs_get h2
    refine ⟨by simp [lenO, h3], fun i => ?_⟩
    cases i with
    | zero => exact h1
    | succ i => exact h4 i
  | [], _ :: _, h => h.elim
  | _ :: _, [], h => h.elim
theorem mtcO_ok {gs : Nat → Gh} {D Pr : Nat → Prop} {w : World} {g : Gh} {o p : AObj} (h : mtcO o p) (hz : ObjOK gs D Pr w g p) : ObjOK gs D Pr w g o ∧ (live g o → live g p) ∧ (isGrow o → isGrow p) := by
  cases o with
  | dead => exact ⟨trivial, fun h => h.elim, fun h => h.elim⟩
  | cells t cs =>
    simp only [mtcO] at h
    split at h
    · rename_i cs'
      obtain ⟨rfl, h⟩ := h
      obtain ⟨hl, hg⟩ := mtcL_get h
      obtain ⟨c, fr, h1, h2, h3, h4, h5⟩ := hz
      refine ⟨⟨c, fr, h1, h2, h3, by rw [hl]; exact h4, fun j a v e1 e2 => ?_⟩, fun _ => trivial, fun h => h.elim⟩
      have hj := (List.getElem?_eq_some_iff.1 e1).1
      have e3 : cs'[j]? = some cs'[j] := List.getElem?_eq_getElem (by omega)
      have := hg j
      rw [List.getD_eq_getElem?_getD, List.getD_eq_getElem?_getD, e1, e3] at this
      exact mtc_ok this (h5 j _ v e3 e2)
    · exact h.elim
  | _ => simp only [mtcO] at h; rw [h]; exact ⟨hz, fun h => h, fun h => h⟩
theorem Wk.conc {E : Env} {gs : Nat → Gh} {Pr : Nat → Prop} {tm tm2 : List AV} {hs hs2 : List AObj} {a : Act} {w : World} {n : Nat} (h : Wk n tm hs tm2 hs2) (h0 : lenO E.hs0 ≤ n) (C : Conc E gs Pr tm hs a w) : Conc E gs Pr tm2 hs2 a w := by
  obtain ⟨hn, ht, ho⟩ := h
  obtain ⟨t1, t2⟩ := mtcL_get ht
  obtain ⟨o1, o2⟩ := mtcOs_get ho
  rw [takeE_len _ _ _ hn] at o1
  have hm : ∀ k j, dom hs k → cutM n k = some j → dom hs2 j ∧ gs j = gs k := by
    intro k j hk e
    unfold cutM at e
    split at e
    · rename_i e'
      injection e with e
      subst e
      have : k < n := by simpa [Nat.blt_eq] using e'
      exact ⟨by show k < lenO hs2; omega, rfl⟩
    · cases e
  have ho2 : ∀ k, k < n → ObjOK gs (dom hs2) Pr w (gs k) (getO hs2 k) ∧ (live (gs k) (getO hs2 k) → live (gs k) (getO hs k)) ∧ (isGrow (getO hs2 k) → isGrow (getO hs k)) := by
    intro k hk
    have := o2 k
    rw [takeE_get _ _ _ _ hn hk] at this
    obtain ⟨q1, q2, q3⟩ := mtcO_ok this (renO_ok hm (C.rep.obj k (show k < lenO hs by omega)))
    exact ⟨q1, fun l => live_renO.1 (q2 l), fun g => isGrow_renO.1 (q3 g)⟩
  refine ⟨⟨fun k hk => (ho2 k (by rw [← o1]; exact hk)).1, fun i j hi hj li lj e => ?_, fun k hk lk => ?_, C.rep.pr, C.rep.gl⟩, by rw [t1, rens_len]; exact C.size, fun i => ?_, C.dfs, C.kp, C.p0, C.pm, C.agree, by omega, fun k hk hg => C.kind k hk ((ho2 k (by omega)).2.2 hg)⟩
  · have hi : i < n := by rw [← o1]; exact hi
    have hj : j < n := by rw [← o1]; exact hj
    exact C.rep.inj i j (show i < lenO hs by omega) (show j < lenO hs by omega) ((ho2 i hi).2.1 li) ((ho2 j hj).2.1 lj) e
  · have hk : k < n := by rw [← o1]; exact hk
    exact C.rep.mine k (show k < lenO hs by omega) ((ho2 k hk).2.1 lk)
  · have h1 := t2 i
    have h2 := C.tms i
    rw [getL_eq] at h2 ⊢
    refine mtc_ok h1 ?_
    rw [List.getD_eq_getElem?_getD] at h2 ⊢
    rw [rens_get]
    cases h : tm[i]? with
    | none => exact .any _
    | some x => rw [h] at h2; exact ren_ok hm h2
/-- A LOOP: for each x of which I says so, the state at its head; what a round lowers. -/
theorem aw_loop {P : Program} {rs : List ARes} {body : ACode} {todo : List AItem} {tm : List AV} {hs : List AObj} {post : AV → List AObj → Prop} {α : Type} (I : α → Prop) (T : α → List AV) (H : α → List AObj) (μ : α → Nat) (x0 : α)
    (h0 : I x0) (hw : Wk (lenO hs) tm hs (T x0) (H x0)) (hH : ∀ x, lenO (H x) = lenO hs)
    (round : ∀ x, I x → AW P rs (.code body :: .again (fun tm' hs' => ∃ x', I x' ∧ μ x' < μ x ∧ Wk (lenO hs) tm' hs' (T x') (H x')) :: todo) (T x) (H x) post) : ALoop P rs body todo tm hs post := by
  intro fn hrs E mt hi gs Pr a w C
  cases mt with
  | nil => exact hi.elim
  | cons y mt =>
    obtain ⟨h1, h2⟩ := hi
    cases y <;> simp only [IRel] at h1
    rename_i c'
    obtain ⟨c, rfl, hc⟩ := cCode_inv h1
    show (Code.loop c).wp P (kont P (bodyPost P fn (Rfin E post)) mt) a w
    let J : Nat → Act → World → Prop := fun n a w => ∃ x, I x ∧ μ x = n ∧ ∃ gs Pr, Conc E gs Pr (T x) (H x) a w
    refine wp_loop_ghost J (μ x0) ⟨x0, h0, rfl, gs, Pr, hw.conc C.len0 C⟩ ?_
    rintro n a w ⟨x, hx, rfl, gs, Pr, Cx⟩
    have hlen : lenO E.hs0 ≤ lenO hs := C.len0
    have := round x hx fn hrs E (.code c :: .again (fun a' w' => ∃ n', n' < μ x ∧ J n' a' w') :: mt) ⟨hc, ⟨fun gs Pr tm' hs' a' w' C' hJ => by
      obtain ⟨x', h3, h4, h5⟩ := hJ
      exact ⟨μ x', h4, x', h3, rfl, gs, Pr, h5.conc hlen C'⟩, h2⟩⟩ gs Pr a w Cx
    refine wp_mono (show c.wp P (kont P (bodyPost P fn (Rfin E post)) (.again (fun a' w' => ∃ n', n' < μ x ∧ J n' a' w') :: mt)) a w from this) fun e a w h => ?_
    cases e <;> simpa [kont, Exit.then] using h
/- A loop whose head is told by what a round changes. -/
def wrOs : List AOper → List Nat
  | [] => []
  | q :: l => match q.dst with
    | some d => d :: wrOs l
    | none => wrOs l
def wrC : ACode → List Nat
  | .reg l => wrOs l
  | .dreg l _ => wrOs l
  | .seq a b => wrC a ++ wrC b
  | .cond _ a b => wrC a ++ wrC b
  | .block _ c => wrC c
  | .loop c => wrC c
  | .scope c => wrC c
  | _ => []
def keepT (ws : List Nat) : Nat → List AV → List AV
  | _, [] => []
  | i, v :: l => match memN ws i with
    | true => .any :: keepT ws (i + 1) l
    | false => match v with
      | .own _ => .any :: keepT ws (i + 1) l
      | v => v :: keepT ws (i + 1) l
def setsL : List (Nat × AV) → List AV → List AV
  | [], tm => tm
  | (i, v) :: u, tm => setsL u (setL tm i v)
def setsO : List (Nat × AObj) → List AObj → List AObj
  | [], hs => hs
  | (i, o) :: u, hs => setsO u (setO hs i o)
theorem setsO_len : ∀ (u : List (Nat × AObj)) (hs : List AObj), lenO (setsO u hs) = lenO hs
  | [], _ => rfl
  | (i, o) :: u, hs => by
    show lenO (setsO u (setO hs i o)) = lenO hs
    rw [setsO_len u, lenO_eq, setO_eq, List.length_set, ← lenO_eq]
theorem aw_loopU {P : Program} {rs : List ARes} {body : ACode} {todo : List AItem} {tm : List AV} {hs : List AObj} {post : AV → List AObj → Prop} {α : Type} (I : α → Prop) (U : α → List (Nat × AV)) (V : α → List (Nat × AObj)) (μ : α → Nat) (x0 : α)
    (h0 : I x0) (hw : Wk (lenO hs) tm hs (setsL (U x0) (keepT (wrC body) 0 tm)) (setsO (V x0) hs))
    (round : ∀ x, I x → AW P rs (.code body :: .again (fun tm' hs' => ∃ x', I x' ∧ μ x' < μ x ∧ Wk (lenO hs) tm' hs' (setsL (U x') (keepT (wrC body) 0 tm)) (setsO (V x') hs)) :: todo) (setsL (U x) (keepT (wrC body) 0 tm)) (setsO (V x) hs) post) : ALoop P rs body todo tm hs post :=
  aw_loop I (fun x => setsL (U x) (keepT (wrC body) 0 tm)) (fun x => setsO (V x) hs) μ x0 h0 hw (fun x => setsO_len _ _) round
/- Scopes: jumps back to a label. -/
theorem aw_scope {P : Program} {rs : List ARes} {c : ACode} {todo : List AItem} {tm : List AV} {hs : List AObj} {post : AV → List AObj → Prop} (m : Nat) (h : AW P rs (.code c :: .scope m (lenO hs) c :: todo) tm hs post) : AW P rs (.code (.scope c) :: todo) tm hs post := by
  intro fn hrs E mt hi gs Pr a w C
  cases mt with
  | nil => exact hi.elim
  | cons y mt =>
    obtain ⟨h1, h2⟩ := hi
    cases y <;> simp only [IRel] at h1
    rename_i c'
    obtain ⟨x, rfl, hx⟩ := cCode_inv h1
    show (Code.scope x).wp P (kont P (bodyPost P fn (Rfin E post)) mt) a w
    refine wp_scope_n m ?_
    have := h fn hrs E (.code x :: .scope m x :: mt) ⟨hx, ⟨rfl, C.len0, hx⟩, h2⟩ gs Pr a w C
    refine wp_mono (show x.wp P (kont P (bodyPost P fn (Rfin E post)) (.scope m x :: mt)) a w from this) fun e a w h => ?_
    rwa [kont] at h
theorem aw_up {P : Program} {rs : List ARes} {b c : ACode} {m n : Nat} {todo : List AItem} {tm : List AV} {hs : List AObj} {post : AV → List AObj → Prop} (h : AW P rs (.code b :: .scope m (lenO hs) c :: todo) tm hs post) : AW P rs (.code b :: .scope m n c :: todo) tm hs post := by
  intro fn hrs E mt hi gs Pr a w C
  cases mt with
  | nil => exact hi.elim
  | cons y mt =>
    obtain ⟨h1, h2⟩ := hi
    cases mt with
    | nil => exact h2.elim
    | cons z mt =>
      obtain ⟨h2, h3⟩ := h2
      cases z <;> simp only [IRel] at h2
      rename_i m' c'
      exact h fn hrs E (y :: .scope m' c' :: mt) ⟨h1, ⟨h2.1, C.len0, h2.2.2⟩, h3⟩ gs Pr a w C
theorem aw_wkS {P : Program} {rs : List ARes} {b c : ACode} {m n : Nat} {todo : List AItem} {tm tm2 : List AV} {hs hs2 : List AObj} {post : AV → List AObj → Prop} (hw : Wk n tm hs tm2 hs2) (h : AW P rs (.code b :: .scope m n c :: todo) tm2 hs2 post) : AW P rs (.code b :: .scope m n c :: todo) tm hs post := by
  intro fn hrs E mt hi gs Pr a w C
  cases mt with
  | nil => exact hi.elim
  | cons y mt =>
    obtain ⟨h1, h2⟩ := hi
    cases mt with
    | nil => exact h2.elim
    | cons z mt =>
      obtain ⟨h2, h3⟩ := h2
      cases z <;> simp only [IRel] at h2
      rename_i m' c'
      exact h fn hrs E (y :: .scope m' c' :: mt) ⟨h1, h2, h3⟩ gs Pr a w (hw.conc h2.2.1 C)
/-- A LABEL that is jumped to: for each x of which I says so, the state there; what a jump lowers. -/
theorem aw_jump {P : Program} {rs : List ARes} {b c : ACode} {m n : Nat} {todo : List AItem} {tm : List AV} {hs : List AObj} {post : AV → List AObj → Prop} {α : Type} (I : α → Prop) (U : α → List (Nat × AV)) (V : α → List (Nat × AObj)) (μ : α → Nat) (x0 : α)
    (h0 : I x0) (hm : μ x0 ≤ m) (hw : Wk (lenO hs) tm hs (setsL (U x0) (keepT (wrC b) 0 tm)) (setsO (V x0) hs))
    (round : ∀ m' x, I x → μ x ≤ m' → (∀ y tm' hs', I y → μ y < μ x → Wk (lenO hs) tm' hs' (setsL (U y) (keepT (wrC b) 0 tm)) (setsO (V y) hs) → AW P rs (.code b :: .scope (m' - 1) (lenO hs) c :: todo) tm' hs' post) →
      AW P rs (.code b :: .scope m' (lenO hs) c :: todo) (setsL (U x) (keepT (wrC b) 0 tm)) (setsO (V x) hs) post) : AW P rs (.code b :: .scope m n c :: todo) tm hs post := by
  have key : ∀ k m' x, I x → μ x = k → μ x ≤ m' → AW P rs (.code b :: .scope m' (lenO hs) c :: todo) (setsL (U x) (keepT (wrC b) 0 tm)) (setsO (V x) hs) post := by
    intro k
    induction k using Nat.strongRecOn with
    | _ k ih =>
      intro m' x hx hk hle
      refine round m' x hx hle fun y tm' hs' hy hlt hwk => ?_
      exact aw_wkS hwk (ih (μ y) (by omega) (m' - 1) y hy rfl (by omega))
  exact aw_up (aw_wkS hw (key _ m x0 h0 rfl hm))
/- A loop, round by round. -/
theorem wp_loop_n {P : Program} {Q : Exit → Act → World → Prop} {c : Code} (m : Nat) {a : Act} {w : World} (h : c.wp P (lpK P c Q m) a w) : (Code.loop c).wp P Q a w := by
  refine wp_loop_ghost (fun n a w => c.wp P (lpK P c Q n) a w) m h ?_
  intro n a w h
  refine wp_mono h fun e a w h => ?_
  cases n with
  | zero => cases e <;> first | exact h.elim | exact h
  | succ n => cases e <;> first | exact ⟨n, by omega, h⟩ | exact h
theorem aw_unroll {P : Program} {rs : List ARes} {body : ACode} {todo : List AItem} {tm : List AV} {hs : List AObj} {post : AV → List AObj → Prop} (m : Nat) (h : AW P rs (.code body :: .inLoop m body :: todo) tm hs post) : ALoop P rs body todo tm hs post := by
  intro fn hrs E mt hi gs Pr a w C
  cases mt with
  | nil => exact hi.elim
  | cons y mt =>
    obtain ⟨h1, h2⟩ := hi
    cases y <;> simp only [IRel] at h1
    rename_i c'
    obtain ⟨c, rfl, hc⟩ := cCode_inv h1
    show (Code.loop c).wp P (kont P (bodyPost P fn (Rfin E post)) mt) a w
    refine wp_loop_n m ?_
    have := h fn hrs E (.code c :: .inLoop m c :: mt) ⟨hc, ⟨rfl, hc⟩, h2⟩ gs Pr a w C
    refine wp_mono (show c.wp P (kont P (bodyPost P fn (Rfin E post)) (.inLoop m c :: mt)) a w from this) fun e a w h => ?_
    rwa [kont] at h
end Go.Proofs.YtlnafekmiidpkaaDoor.S
