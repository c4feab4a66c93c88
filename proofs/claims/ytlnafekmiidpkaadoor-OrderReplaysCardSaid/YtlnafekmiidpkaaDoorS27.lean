/- Rows of an array of the call's own that become a value. -/
import Derived.Test.YtlnafekmiidpkaaDoorS26
namespace Go.Proofs.YtlnafekmiidpkaaDoor.S
set_option linter.all false
set_option linter.unusedVariables false
set_option linter.unusedSimpArgs false
def frAV (k o l c : Nat) (r : AV) : AV → AV
  | .sl j p m d => ifEq j k (ifEq p o (ifEq m l (ifEq d c r .any) .any) .any) (.sl j p m d)
  | .agg _ => .any
  | .tup _ => .any
  | .fn .. => .any
  | v => v
def frA1 (k o l c : Nat) (r : AV) : AV → AV
  | .agg cs => .agg (mapA (frAV k o l c r) cs)
  | .fn f a b => .fn f (mapA (frAV k o l c r) a) (mapA (frAV k o l c r) b)
  | .tup _ => .any
  | v => frAV k o l c r v
def frA (k o l c : Nat) (r : AV) : AV → AV
  | .tup cs => .tup (mapA (frA1 k o l c r) cs)
  | v => frA1 k o l c r v
def frAO (k o l c : Nat) (r : AV) : AObj → AObj
  | .cells t cs => .cells t (mapA (frA1 k o l c r) cs)
  | .iter x q seen => .iter (frA1 k o l c r x) q seen
  | o => o
section
variable {gs : Nat → Gh} {D Pr Pr' : Nat → Prop} {w : World} {k o l c : Nat} {r : AV}
variable (hr : Lf Pr' w r (.slice (some (at_ (gs k).blk o)) l c)) (hP : ∀ b, Pr b → Pr' b)
include hr hP
theorem frAV_ok {x : AV} {v : Value} (h : Cz gs D Pr w x v) : Cz gs D Pr' w (frAV k o l c r x) v := by
  have hm : Cz gs D Pr' w x v := h.mono (fun _ h => h) (fun _ _ => rfl) hP (fun _ _ => rfl)
  cases x with
  | sl j p m d =>
    simp only [frAV, ifEq]
    split
    · rename_i e
      obtain rfl := Nat.eq_of_beq_eq_true e
      split
      · rename_i e
        obtain rfl := Nat.eq_of_beq_eq_true e
        split
        · rename_i e
          obtain rfl := Nat.eq_of_beq_eq_true e
          split
          · rename_i e
            obtain rfl := Nat.eq_of_beq_eq_true e
            rw [h.sl_.1]; exact .lf hr
          · exact .any v
        · exact .any v
      · exact .any v
    · exact hm
  | agg cs => exact .any v
  | tup cs => exact .any v
  | fn f a b => exact .any v
  | _ => exact hm
theorem frAL_ok {f : AV → AV} (hf : ∀ x v, Cz gs D Pr w x v → Cz gs D Pr' w (f x) v) {cs : List AV} {vs : Array Value} (h : ∀ (j : Nat) a v, cs[j]? = some a → vs[j]? = some v → Cz gs D Pr w a v) : ∀ (j : Nat) a v, (mapA f cs)[j]? = some a → vs[j]? = some v → Cz gs D Pr' w a v := by
  intro j a v e1 e2
  rw [mapA_get, Option.map_eq_some_iff] at e1
  obtain ⟨x, hx, rfl⟩ := e1
  exact hf x v (h j x v hx e2)
theorem frA1_ok {x : AV} {v : Value} (h : Cz gs D Pr w x v) : Cz gs D Pr' w (frA1 k o l c r x) v := by
  cases x <;> first | exact frAV_ok hr hP h | skip
  case agg cs =>
    obtain ⟨vs, rfl, h1, h2, h3⟩ := h.agg_
    exact .agg _ vs (by rw [mapA_len]; exact h1) (frAL_ok hr hP (fun x v h => frAV_ok hr hP h) h2) h3
  case fn f a b =>
    obtain ⟨va, vb, rfl, h1, h2⟩ := h.fn_
    exact .fn _ _ _ va vb (by rw [mapA_len]; exact h1.1) (by rw [mapA_len]; exact h2.1) (frAL_ok hr hP (fun x v h => frAV_ok hr hP h) h1.2) (frAL_ok hr hP (fun x v h => frAV_ok hr hP h) h2.2)
theorem frA_ok {x : AV} {v : Value} (h : Cz gs D Pr w x v) : Cz gs D Pr' w (frA k o l c r x) v := by
  cases x <;> first | exact frA1_ok hr hP h | skip
  case tup cs =>
    obtain ⟨vs, rfl, h1, h2⟩ := h.tup_
    exact .tup _ vs (by rw [mapA_len]; exact h1) (frAL_ok hr hP (fun x v h => frA1_ok hr hP h) h2)
theorem frAO_ok {g : Gh} {q : AObj} (h : ObjOK gs D Pr w g q) : ObjOK gs D Pr' w g (frAO k o l c r q) := by
  have hm : ObjOK gs D Pr' w g q := h.mono (fun _ h => h) (fun _ _ => rfl) hP (fun _ _ => rfl) (fun _ => rfl)
  cases q with
  | cells t cs =>
    obtain ⟨c, fr, h1, h2, h3, h4, h5⟩ := h
    exact ⟨c, fr, h1, h2, h3, by rw [mapA_len]; exact h4, frAL_ok hr hP (fun x v h => frA1_ok hr hP h) h5⟩
  | iter x c seen =>
    obtain ⟨b, h1, h2⟩ := h
    exact ⟨b, h1, frA1_ok hr hP h2⟩
  | _ => exact hm
end
/-- A row of cells of the call's own becomes a value; nobody writes to it any more. -/
theorem trans_frA {tm : List AV} {hs : List AObj} (k o c : Nat) {t sz : Nat} {cs : List AV} (xs : List (List AV)) (ho : getO hs k = .arr t cs) (hc : xs.length ≤ c) (h1 : ∀ row ∈ xs, row.length = sz)
    (hx : ∀ (i : Nat) row (j : Nat) a, xs[i]? = some row → row[j]? = some a → cs[o + (i * sz + j)]? = some a) (hle : o + xs.length * sz ≤ cs.length) :
    Trans (frA k o xs.length c (.ro sz xs)) tm hs (mapA (frA k o xs.length c (.ro sz xs)) tm) (setO (mapO (frAO k o xs.length c (.ro sz xs)) hs) k .dead) := by
  intro E gs Pr a w C
  have hk : dom hs k := getO_lt (by rw [ho]; simp)
  obtain ⟨cc, fr, h4, h5, h6, h7, h8⟩ := C.obj hk ho
  have hlive : live (gs k) (getO hs k) := by rw [ho]; trivial
  let Pr' : Nat → Prop := fun b => Pr b ∨ b = (gs k).blk
  have hP : ∀ b, Pr b → Pr' b := fun b h => .inl h
  have hr : Lf Pr' w (.ro sz xs) (.slice (some (at_ (gs k).blk o)) xs.length c) := by
    refine .ro sz xs (gs k).blk o c (fun q => cc.getD (o + q) undef) (.inr rfl) hc h1 (fun i row j a e1 e2 => ?_) (fun q hq => ?_)
    · have hj : j < sz := by rw [← h1 row (List.mem_of_getElem? e1)]; exact (List.getElem?_eq_some_iff.1 e2).1
      have hi := (List.getElem?_eq_some_iff.1 e1).1
      have : (i + 1) * sz ≤ xs.length * sz := Nat.mul_le_mul_right _ hi
      rw [Nat.add_mul] at this
      have hlt : o + (i * sz + j) < cc.size := by omega
      have hc := Array.getElem?_eq_getElem hlt
      have : cc.getD (o + (i * sz + j)) undef = cc[o + (i * sz + j)] := by rw [Array.getD_eq_getD_getElem?, hc]; rfl
      rw [this]
      exact (h8 _ a _ (hx i row j a e1 e2) hc).mono hP (fun _ _ => rfl)
    · have hlt : o + q < cc.size := by omega
      have hc := Array.getElem?_eq_getElem hlt
      have : cc.getD (o + q) undef = cc[o + q] := by rw [Array.getD_eq_getD_getElem?, hc]; rfl
      rw [this, cell_at h4, hc]
      exact ⟨rfl, h6 _ (by simp)⟩
  generalize hF : frA k o xs.length c (.ro sz xs) = F
  generalize hFO : frAO k o xs.length c (.ro sz xs) = FO
  have hFd : FO .dead = .dead := by rw [← hFO]; rfl
  have hFk : ∀ q, ∃ f : List AV → List AV × AV, FO q = (match q with | .cells t cs => .cells t (f cs).1 | .iter x c s => .iter (f [x]).2 c s | q => q) := by
    intro q
    rw [← hFO]
    cases q with
    | cells t cs => exact ⟨fun cs => (_, .any), rfl⟩
    | iter x c s => exact ⟨fun cs => ([], _), rfl⟩
    | _ => exact ⟨fun _ => ([], .any), rfl⟩
  have hlen : lenO (setO (mapO FO hs) k .dead) = lenO hs := by
    rw [lenO_eq, setO_eq, List.length_set, ← lenO_eq, mapO_len]
  have hdom : dom (setO (mapO FO hs) k .dead) = dom hs := by unfold dom; rw [hlen]
  have hget : ∀ j, getO (setO (mapO FO hs) k .dead) j = if j = k then .dead else FO (getO hs j) := by
    intro j
    rw [getO_set (by rw [mapO_len]; exact hk)]
    unfold upd
    split
    · rfl
    · exact mapO_get _ hFd hs j
  have hlv : ∀ j, live (gs j) (getO (setO (mapO FO hs) k .dead) j) → j ≠ k ∧ live (gs j) (getO hs j) := by
    intro j hl
    rw [hget] at hl
    split at hl
    · exact hl.elim
    · rename_i e
      refine ⟨e, ?_⟩
      obtain ⟨f, hf⟩ := hFk (getO hs j)
      rw [hf] at hl
      cases h : getO hs j <;> rw [h] at hl <;> exact hl
  refine ⟨gs, Pr', ⟨⟨fun j hj => ?_, fun i j hi hj li lj e => ?_, fun j hj lj => ?_, fun b hb => ?_, C.rep.gl.mono hP (fun _ _ => rfl)⟩, by rw [mapA_len]; exact C.size, fun i => ?_, C.dfs, C.kp, fun b hb => .inl (C.p0 b hb), fun b hb => ?_, C.agree, by rw [hlen]; exact C.len0, fun j hj hg => ?_⟩, fun x v h => by rw [hdom, ← hF]; exact frA_ok hr hP h⟩
  · rw [hdom] at hj ⊢
    rw [hget]
    split
    · trivial
    · rw [← hFO]; exact frAO_ok hr hP (C.rep.obj j hj)
  · rw [hdom] at hi hj
    exact C.rep.inj i j hi hj (hlv i li).2 (hlv j lj).2 e
  · rw [hdom] at hj
    obtain ⟨h3, h4⟩ := hlv j lj
    obtain ⟨h5, h6⟩ := C.rep.mine j hj h4
    refine ⟨h5, fun hp => ?_⟩
    rcases hp with hp | e
    · exact h6 hp
    · exact h3 (C.rep.inj j k hj hk h4 hlive e)
  · rcases hb with hb | rfl
    · exact C.rep.pr b hb
    · exact (C.rep.obj k hk).lt hlive
  · rw [hdom]
    have := C.tms i
    rw [getL_eq, List.getD_eq_getElem?_getD] at this ⊢
    rw [mapA_get]
    cases h : tm[i]? with
    | none => exact .any _
    | some x => rw [h] at this; rw [← hF]; exact frA_ok hr hP this
  · rcases hb with hb | rfl
    · exact C.pm b hb
    · exact .inr (C.rep.mine k hk hlive).1
  · rw [hget] at hg
    split at hg
    · exact hg.elim
    · refine C.kind j hj ?_
      obtain ⟨f, hf⟩ := hFk (getO hs j)
      rw [hf] at hg
      cases h : getO hs j <;> rw [h] at hg <;> first | exact hg | trivial
/-- All rows of an array, from its beginning. -/
theorem flat_get {sz : Nat} {xs : List (List AV)} (h1 : ∀ row ∈ xs, row.length = sz) : ∀ (i : Nat) row (j : Nat) a, xs[i]? = some row → row[j]? = some a → xs.flatten[0 + (i * sz + j)]? = some a := by
  intro i row j a e1 e2
  rw [Nat.zero_add]
  induction xs generalizing i with
  | nil => simp at e1
  | cons r xs ih =>
    rw [List.flatten_cons]
    have hr : r.length = sz := h1 r (by simp)
    cases i with
    | zero =>
      simp at e1
      subst e1
      rw [List.getElem?_append_left (by have := (List.getElem?_eq_some_iff.1 e2).1; omega)]
      simpa using e2
    | succ i =>
      rw [List.getElem?_append_right (by rw [hr, Nat.add_mul]; omega), hr, show (i + 1) * sz + j - sz = i * sz + j by rw [Nat.add_mul]; omega]
      exact ih (fun row hm => h1 row (by simp [hm])) i (by simpa using e1)
theorem trans_frA0 {tm : List AV} {hs : List AObj} (k c : Nat) {t sz : Nat} (xs : List (List AV)) (ho : getO hs k = .arr t xs.flatten) (hc : xs.length ≤ c) (h1 : ∀ row ∈ xs, row.length = sz) :
    Trans (frA k 0 xs.length c (.ro sz xs)) tm hs (mapA (frA k 0 xs.length c (.ro sz xs)) tm) (setO (mapO (frAO k 0 xs.length c (.ro sz xs)) hs) k .dead) :=
  trans_frA k 0 c xs ho hc h1 (flat_get h1) (by rw [flatten_len h1]; omega)
theorem over_all {cs vs : List AV} (h : vs.length = cs.length) : over cs 0 vs = vs := by
  unfold over
  rw [List.take_zero, List.nil_append, List.drop_of_length_le (by omega), List.append_nil]
/-- A row that was made, and into which all of another one was copied. -/
theorem made_copy {xs : List (List AV)} {sz : Nat} {z : List AV} (hz : z.length = sz) (h1 : ∀ row ∈ xs, row.length = sz) : over (List.replicate xs.length z).flatten 0 (xs.flatten.take (min xs.length xs.length * sz)) = xs.flatten := by
  have h2 := flatten_len h1
  rw [Nat.min_self, List.take_of_length_le (by omega)]
  exact over_all (by rw [h2]; simp [hz])
/- The end of a call told otherwise. -/
theorem Rfin.tr {E : Env} {p q : AV → List AObj → Prop} {e : Ending} {w : World} (h : Rfin E p e w)
    (ht : ∀ r hs, p r hs → lenO E.hs0 ≤ lenO hs → ∃ φ tm2 hs2 n r' hs3, Trans φ [r] hs tm2 hs2 ∧ lenO E.hs0 ≤ n ∧ Wk n tm2 hs2 [r'] hs3 ∧ q r' hs3) : Rfin E q e w := by
  obtain ⟨v, r, hs, gs, Pr, rfl, hp, hz, hrep, hk, h4, h5, h6, h7, h8⟩ := h
  obtain ⟨φ, tm2, hs2, n, r', hs3, hT, hn, hW, hq⟩ := ht r hs hp h7
  have C : Conc E gs Pr [r] hs ⟨#[v], []⟩ w := ⟨hrep, rfl, fun i => by
    cases i with
    | zero => exact hz
    | succ i => exact .any _, rfl, hk, h4, h5, h6, h7, h8⟩
  obtain ⟨gs2, Pr2, C2, _⟩ := hT _ _ _ _ _ C
  have C3 := hW.conc hn C2
  exact ⟨v, r', hs3, gs2, Pr2, rfl, hq, C3.tms 0, C3.rep, C3.kp, C3.p0, C3.pm, C3.agree, C3.len0, C3.kind⟩
theorem acalls_tr {P : Program} {f : Nat} {args : List AV} {hs : List AObj} {p q : AV → List AObj → Prop} (h : ACalls P f args hs p)
    (ht : ∀ r hs', p r hs' → ∃ φ tm2 hs2 r' hs3, Trans φ [r] hs' tm2 hs2 ∧ Wk (lenO hs) tm2 hs2 [r'] hs3 ∧ q r' hs3) : ACalls P f args hs q :=
  ⟨h.1, fun gs Pr w vs h1 h2 => (h.2 gs Pr w vs h1 h2).mono fun e w' h => Rfin.tr h fun r hs' hp hl => by
    obtain ⟨φ, tm2, hs2, r', hs3, a1, a2, a3⟩ := ht r hs' hp
    exact ⟨φ, tm2, hs2, _, r', hs3, a1, Nat.le_refl _, a2, a3⟩⟩
/- Two labels of the call's own change places. -/
theorem aw_base {P : Program} {rs : List ARes} {c : ACode} {tm : List AV} {hs : List AObj} {post : AV → List AObj → Prop} (h : AW P rs [.code c, .scope 0 (lenO hs) .skip] tm hs post) : AW P rs [.code c] tm hs post := by
  intro fn hrs E mt hi gs Pr a w C
  cases mt with
  | nil => exact hi.elim
  | cons y mt =>
    obtain ⟨h1, h2⟩ := hi
    cases y <;> simp only [IRel] at h1
    rename_i c'
    cases mt with
    | cons z mt => exact h2.elim
    | nil =>
      have := h fn hrs E [.code c', .scope 0 .skip] ⟨h1, ⟨rfl, C.len0, rfl⟩, trivial⟩ gs Pr a w C
      refine wp_mono (show c'.wp P (kont P (bodyPost P fn (Rfin E post)) [.scope 0 .skip]) a w from this) fun e a w h => ?_
      cases e <;> exact h
theorem acalls_ofS {P : Program} {f : Nat} {fn : Func} {A : AFunc} {args : List AV} {hs : List AObj} {spost : AV → List AObj → Prop} (hf : P.funcs[f]? = some fn) (hc : cFunc P fn = some A) (he : entersB P f = true)
    (h : AW P A.rs [.code A.code, .scope 0 (lenO hs) .skip] (catA args (anys (A.ntmps - lenA args))) hs (EndP (lenO hs) spost)) : ACalls P f args hs spost := acalls_of hf hc he (aw_base h)
def baseN : List AItem → Nat → Prop
  | [], _ => False
  | .scope _ k _ :: l, n => k ≤ n ∨ baseN l n
  | _ :: l, n => baseN l n
theorem baseN_le {P : Program} {E : Env} {n : Nat} : ∀ {todo : List AItem} {mt : List MItem}, IRels P E todo mt → baseN todo n → lenO E.hs0 ≤ n
  | [], _, _, h => h.elim
  | x :: l, [], hi, _ => hi.elim
  | x :: l, y :: m, hi, h => by
    obtain ⟨h1, h2⟩ := hi
    cases x with
    | scope a k c =>
      cases y <;> simp only [IRel] at h1
      rcases h with h | h
      · exact Nat.le_trans h1.2.1 h
      · exact baseN_le h2 h
    | _ => exact baseN_le h2 h
def sw (i j k : Nat) : Option Nat := match Nat.beq k i with
  | true => some j
  | false => match Nat.beq k j with
    | true => some i
    | false => some k
def sw' (i j k : Nat) : Nat := if k = i then j else if k = j then i else k
theorem sw_eq (i j k : Nat) : sw i j k = some (sw' i j k) := by
  unfold sw sw'
  split
  · rename_i e; rw [if_pos (Nat.eq_of_beq_eq_true e)]
  · rename_i e
    rw [if_neg (fun e' => by rw [e'] at e; simp at e)]
    split
    · rename_i e; rw [if_pos (Nat.eq_of_beq_eq_true e)]
    · rename_i e
      rw [if_neg (fun e' => by rw [e'] at e; simp at e)]
theorem sw_sw (i j k : Nat) : sw' i j (sw' i j k) = k := by
  unfold sw'
  split <;> split <;> (try split) <;> simp_all
theorem aw_swap {P : Program} {rs : List ARes} {todo : List AItem} {tm : List AV} {hs : List AObj} {post : AV → List AObj → Prop} (n i j : Nat) (hb : baseN todo n) (hi : n ≤ i) (hj : n ≤ j) (hi' : i < lenO hs) (hj' : j < lenO hs)
    (h : AW P rs todo (rens (sw i j) tm) (mapO (renO (sw i j)) (setO (setO hs i (getO hs j)) j (getO hs i))) post) : AW P rs todo tm hs post := by
  intro fn hrs E mt hirel gs Pr a w C
  have hn := baseN_le hirel hb
  refine h fn hrs E mt hirel (fun k => gs (sw' i j k)) Pr a w ?_
  have hlen : lenO (mapO (renO (sw i j)) (setO (setO hs i (getO hs j)) j (getO hs i))) = lenO hs := by
    rw [mapO_len, lenO_eq, setO_eq, setO_eq]; simp [lenO_eq]
  have hdom : dom (mapO (renO (sw i j)) (setO (setO hs i (getO hs j)) j (getO hs i))) = dom hs := by unfold dom; rw [hlen]
  have hlt : ∀ k, k < lenO hs → sw' i j k < lenO hs := by
    intro k hk
    unfold sw'
    split
    · exact hj'
    · split
      · exact hi'
      · exact hk
  have hget : ∀ k, getO (mapO (renO (sw i j)) (setO (setO hs i (getO hs j)) j (getO hs i))) k = renO (sw i j) (getO hs (sw' i j k)) := by
    intro k
    rw [mapO_get _ rfl, getO_set (by rw [lenO_eq, setO_eq]; simpa [lenO_eq] using hj'), getO_set hi']
    congr 1
    unfold upd sw'
    by_cases e1 : k = i
    · subst e1
      by_cases e2 : k = j
      · subst e2; simp
      · simp [e2]
    · by_cases e2 : k = j
      · subst e2; simp [e1]
      · simp [e1, e2]
  have hm : ∀ k q, dom hs k → sw i j k = some q → dom hs q ∧ (fun k => gs (sw' i j k)) q = gs k := by
    intro k q hk e
    rw [sw_eq] at e
    injection e with e
    subst e
    exact ⟨hlt k hk, by show gs _ = _; rw [sw_sw]⟩
  have hsame : ∀ k, k < lenO E.hs0 → sw' i j k = k := by
    intro k hk
    unfold sw'
    rw [if_neg (by omega), if_neg (by omega)]
  refine ⟨⟨fun k hk => ?_, fun p q hp hq lp lq e => ?_, fun k hk lk => ?_, C.rep.pr, C.rep.gl⟩, by rw [rens_len]; exact C.size, fun q => ?_, C.dfs, C.kp, C.p0, C.pm, fun k hk hg => ?_, by rw [hlen]; exact C.len0, fun k hk hg => ?_⟩
  · rw [hdom] at hk ⊢
    rw [hget]
    exact renO_ok hm (C.rep.obj _ (hlt k hk))
  · rw [hdom] at hp hq
    rw [hget] at lp lq
    have := C.rep.inj _ _ (hlt p hp) (hlt q hq) (live_renO.1 lp) (live_renO.1 lq) e
    have := congrArg (sw' i j) this
    rwa [sw_sw, sw_sw] at this
  · rw [hdom] at hk
    rw [hget] at lk
    exact C.rep.mine _ (hlt k hk) (live_renO.1 lk)
  · rw [hdom]
    have := C.tms q
    rw [getL_eq, List.getD_eq_getElem?_getD] at this ⊢
    rw [rens_get]
    cases h : tm[q]? with
    | none => exact .any _
    | some x => rw [h] at this; exact ren_ok hm this
  · show gs (sw' i j k) = _
    rw [hsame k hk]; exact C.agree k hk hg
  · rw [hget, hsame k hk] at hg
    exact C.kind k hk (isGrow_renO.1 hg)
theorem trans_id {tm : List AV} {hs : List AObj} : Trans (fun x => x) tm hs tm hs := fun E gs Pr a w C => ⟨gs, Pr, C, fun x v h => h⟩
/- A slice that grows is lent to a callee, as a value. -/
def scV : AV → Bool
  | .any | .int .. | .bool _ | .tt | .ff | .str _ | .nilp | .nils | .nilm | .nilf => true
  | _ => false
theorem scV_lf {Pr Pr' : Nat → Prop} {w : World} {a : AV} {v : Value} (h : scV a = true) (hv : Lf Pr w a v) : Lf Pr' w a v := by
  cases hv <;> first | (simp [scV] at h; done) | constructor
def pvV : AV → Bool
  | .any | .ptr .. | .ptrS .. | .sl .. | .own _ => true
  | v => scV v
theorem pvV_cz {gs : Nat → Gh} {D Pr Pr' : Nat → Prop} {w : World} {a : AV} {v : Value} (h : pvV a = true) (hv : Cz gs D Pr w a v) : Cz gs D Pr' w a v := by
  cases hv with
  | any => exact .any _
  | lf hl => exact .lf (scV_lf (by cases a <;> first | exact h | cases hl) hl)
  | ptr k o hk => exact .ptr k o hk
  | ptrS k o hk => exact .ptrS k o hk
  | sl k o l c hk => exact .sl k o l c hk
  | own k hk hh => exact .own k hk hh
  | _ => simp [pvV, scV] at h
def NoRo : AObj → Prop
  | .grow _ _ xs => ∀ row ∈ xs, ∀ a ∈ row, scV a = true
  | .arr _ cs => ∀ a ∈ cs, scV a = true
  | .cells _ cs => ∀ a ∈ cs, pvV a = true
  | .dead => True
  | _ => False
theorem NoRo_ok {gs : Nat → Gh} {D Pr Pr' : Nat → Prop} {w : World} {g : Gh} {o : AObj} (h : NoRo o) (ho : ObjOK gs D Pr w g o) : ObjOK gs D Pr' w g o := by
  cases o with
  | grow t sz xs =>
    obtain ⟨h0, h1, h2⟩ := ho
    refine ⟨h0, h1, ?_⟩
    rcases h2 with h2 | ⟨cap, h2, h3, c, fr, h4, h5, h6, h7, h8⟩
    · exact .inl h2
    · exact .inr ⟨cap, h2, h3, c, fr, h4, h5, h6, h7, fun i row j a v e1 e2 e3 => scV_lf (h row (List.mem_of_getElem? e1) a (List.mem_of_getElem? e2)) (h8 i row j a v e1 e2 e3)⟩
  | arr t cs =>
    obtain ⟨c, fr, h4, h5, h6, h7, h8⟩ := ho
    exact ⟨c, fr, h4, h5, h6, h7, fun j a v e1 e2 => scV_lf (h a (List.mem_of_getElem? e1)) (h8 j a v e1 e2)⟩
  | cells t cs =>
    obtain ⟨c, fr, h4, h5, h6, h7, h8⟩ := ho
    exact ⟨c, fr, h4, h5, h6, h7, fun j a v e1 e2 => pvV_cz (h a (List.mem_of_getElem? e1)) (h8 j a v e1 e2)⟩
  | dead => trivial
  | _ => exact h.elim
theorem acall_lend {P : Program} {rs : List ARes} {f : Nat} {args sargs : List AV} {dst : Option Nat} {todo : List AItem} {tm : List AV} {hs : List AObj} {post : AV → List AObj → Prop} {spost : AV → List AObj → Prop} (k t sz : Nat) (xs : List (List AV)) (ho : asGrow (getO hs k) = .grow t sz xs)
    (HC : ACalls P f sargs [] spost) (hav : allVal sargs = true) (ha : mtcL sargs (mapA (frz k (.ro sz xs)) args))
    (hrest : ∀ r hs', spost r hs' → pvV r = true ∧ (∀ j, j < lenO hs' → NoRo (getO hs' j)) ∧ AW P rs todo (putL tm dst (ren (fun j => some (lenO hs + j)) r)) (catO hs (mapO (renO (fun j => some (lenO hs + j))) hs')) post) : ACall P rs f args dst todo tm hs post := by
  intro fn hrs E mt hi gs Pr a w C vs hvs
  refine ⟨callFunc_enter HC.1 vs w, ?_⟩
  have hk : dom hs k := getO_lt (by intro e; rw [e] at ho; cases ho)
  have hlg : live (gs k) (getO hs k) ↔ (gs k).hd ≠ .slice none 0 0 := by cases h : getO hs k <;> rw [h] at ho <;> first | cases ho; done | exact Iff.rfl
  let Pr1 : Nat → Prop := fun b => Pr b ∨ (live (gs k) (getO hs k) ∧ b = (gs k).blk)
  have hP : ∀ b, Pr b → Pr1 b := fun b h => .inl h
  have hr : Lf Pr1 w (.ro sz xs) (gs k).hd := by
    obtain ⟨h0, h1, h2⟩ := C.objG hk ho
    rcases h2 with ⟨rfl, h2⟩ | ⟨cap, h2, h3, c, fr, h4, h5, h6, h7, h8⟩
    · rw [h2]; exact .ro0 sz none 0 (fun _ => rfl)
    · rw [h2]
      have hle : xs.length * sz ≤ c.size := by rw [h7]; exact Nat.mul_le_mul_right _ h3
      refine .ro sz xs (gs k).blk 0 cap (fun q => c.getD q undef) (.inr ⟨hlg.2 (by rw [h2]; simp), rfl⟩) h3 h1 (fun i row j a e1 e2 => ?_) (fun q hq => ?_)
      · have hj : j < sz := by rw [← h1 row (List.mem_of_getElem? e1)]; exact (List.getElem?_eq_some_iff.1 e2).1
        have hi := (List.getElem?_eq_some_iff.1 e1).1
        have : (i + 1) * sz ≤ xs.length * sz := Nat.mul_le_mul_right _ hi
        rw [Nat.add_mul] at this
        have hlt : i * sz + j < c.size := by omega
        have hc := Array.getElem?_eq_getElem hlt
        have : c.getD (i * sz + j) undef = c[i * sz + j] := by rw [Array.getD_eq_getD_getElem?, hc]; rfl
        rw [this]
        exact (h8 i row j a _ e1 e2 hc).mono hP (fun _ _ => rfl)
      · have hlt : q < c.size := by omega
        have hc := Array.getElem?_eq_getElem hlt
        have : c.getD q undef = c[q] := by rw [Array.getD_eq_getD_getElem?, hc]; rfl
        rw [this, cell_at h4, Nat.zero_add, hc]
        exact ⟨rfl, h6 _ (by simp)⟩
  have hsz1 : ∀ b, Pr1 b → b < w.heap.size := by
    rintro b (hb | ⟨hl, rfl⟩)
    · exact C.rep.pr b hb
    · exact (C.rep.obj k hk).lt hl
  have hgs : ∀ j, gs j = gs j := fun _ => rfl
  have hrep0 : Rep gs (dom []) Pr1 (envOf gs Pr1 w []).M (getO []) w :=
    ⟨fun j hj => absurd hj (Nat.not_lt_zero j), fun i j hi => absurd hi (Nat.not_lt_zero i), fun j hj => absurd hj (Nat.not_lt_zero j), hsz1, C.rep.gl.mono hP (fun _ _ => rfl)⟩
  obtain ⟨m1, m2⟩ := mtcL_get ha
  have hcs : Czs gs (dom []) Pr1 w sargs vs := by
    refine ⟨by rw [m1, mapA_len]; exact hvs.1, fun j x v e1 e2 => ?_⟩
    have q := m2 j
    have hj : j < args.length := by have := (List.getElem?_eq_some_iff.1 e1).1; rw [m1, mapA_len] at this; exact this
    have e3 : (mapA (frz k (.ro sz xs)) args)[j]? = some (frz k (.ro sz xs) args[j]) := by rw [mapA_get, List.getElem?_eq_getElem hj]; rfl
    rw [List.getD_eq_getElem?_getD, List.getD_eq_getElem?_getD, e1, e3] at q
    exact .lf (Cz_val (allVal_mem hav x (List.mem_of_getElem? e1)) (mtc_ok q (frz_ok hr hP (hvs.2 j _ v (List.getElem?_eq_getElem hj) e2))))
  refine (HC.2 gs Pr1 w vs hrep0 hcs).mono fun e w' hfin => ?_
  obtain ⟨v, r, hs', gs', Pr', rfl, hp, hz, hrep, hkp, h4, h5, _, _, _⟩ := hfin
  obtain ⟨hpv, hno, hA⟩ := hrest r hs' hp
  refine ⟨v, rfl, ?_⟩
  have hsize : w.heap.size ≤ w'.heap.size := hkp.size
  have hblk : ∀ b, b < w.heap.size → w'.heap[b]? = w.heap[b]? := fun b hb => hkp.block b hb (by rintro ⟨j, hj, _⟩; exact Nat.not_lt_zero j hj)
  have hM : ∀ b, (envOf gs Pr1 w []).M b → w.heap.size ≤ b := by
    rintro b (⟨j, hj, _⟩ | hb)
    · exact absurd hj (Nat.not_lt_zero j)
    · exact hb
  let Pr3 : Nat → Prop := fun b => Pr' b ∧ ¬ (live (gs k) (getO hs k) ∧ b = (gs k).blk)
  have hPr3 : ∀ b, Pr b → Pr3 b := fun b hb => ⟨h4 b (.inl hb), fun ⟨hl, e⟩ => (C.rep.mine k hk hl).2 (e ▸ hb)⟩
  let gs3 : Nat → Gh := fun j => if j < lenO hs then gs j else gs' (j - lenO hs)
  have hg1 : ∀ j, j < lenO hs → gs3 j = gs j := fun j hj => if_pos hj
  have hg2 : ∀ j, gs3 (lenO hs + j) = gs' j := fun j => by show (if _ then _ else _) = _; rw [if_neg (by omega), Nat.add_sub_cancel_left]
  have hlen : lenO (catO hs (mapO (renO (fun j => some (lenO hs + j))) hs')) = lenO hs + lenO hs' := by rw [catO_len, mapO_len]
  have hget1 : ∀ j, j < lenO hs → getO (catO hs (mapO (renO (fun j => some (lenO hs + j))) hs')) j = getO hs j := fun j hj => catO_left hj
  have hget2 : ∀ j, getO (catO hs (mapO (renO (fun j => some (lenO hs + j))) hs')) (lenO hs + j) = renO (fun j => some (lenO hs + j)) (getO hs' j) := fun j => by
    rw [catO_right (by omega), Nat.add_sub_cancel_left, mapO_get _ rfl]
  have hm : ∀ j q, dom hs' j → (fun j => some (lenO hs + j)) j = some q → dom (catO hs (mapO (renO (fun j => some (lenO hs + j))) hs')) q ∧ gs3 q = gs' j := by
    intro j q hj e
    injection e with e
    subst e
    exact ⟨by show _ < _; rw [hlen]; have : j < lenO hs' := hj; omega, hg2 j⟩
  have hold : ∀ j, dom hs j → dom (catO hs (mapO (renO (fun j => some (lenO hs + j))) hs')) j := fun j hj => by show j < _; rw [hlen]; have : j < lenO hs := hj; omega
  have C2 : Conc E gs3 Pr3 tm (catO hs (mapO (renO (fun j => some (lenO hs + j))) hs')) a w' := by
    refine ⟨⟨fun j hj => ?_, fun i j hi hj li lj e => ?_, fun j hj lj => ?_, fun b hb => hrep.pr b hb.1, C.rep.gl.mono hPr3 (fun b hb => hblk b (C.rep.pr b hb))⟩, C.size, fun i => (C.tms i).mono hold (fun j hj => hg1 j hj) hPr3 (fun b hb => hblk b (C.rep.pr b hb)), C.dfs,
      ⟨hkp.os.trans C.kp.os, hkp.tape.trans C.kp.tape, hkp.output.trans C.kp.output, Nat.le_trans C.kp.size hsize, fun b hb hS => (hblk b (Nat.lt_of_lt_of_le hb C.kp.size)).trans (C.kp.block b hb hS)⟩, fun b hb => hPr3 b (C.p0 b hb), fun b hb => ?_, fun j hj hg => (hg1 j (Nat.lt_of_lt_of_le hj C.len0)).trans (C.agree j hj hg), by rw [hlen]; have := C.len0; omega, fun j hj hg => C.kind j hj (by rwa [hget1 j (Nat.lt_of_lt_of_le hj C.len0)] at hg)⟩
    · by_cases h : j < lenO hs
      · rw [hget1 j h, hg1 j h]
        exact (C.rep.obj j h).mono hold (fun i hi => hg1 i hi) hPr3 (fun b hb => hblk b (C.rep.pr b hb)) (fun hl => hblk _ ((C.rep.obj j h).lt hl))
      · have hj' : j < lenO hs + lenO hs' := by rw [← hlen]; exact hj
        obtain ⟨i, rfl⟩ : ∃ i, j = lenO hs + i := ⟨j - lenO hs, by omega⟩
        have hi : i < lenO hs' := by omega
        rw [hget2, hg2]
        exact renO_ok hm (NoRo_ok (hno i hi) (hrep.obj i hi))
    · have hi' : i < lenO hs + lenO hs' := by rw [← hlen]; exact hi
      have hj' : j < lenO hs + lenO hs' := by rw [← hlen]; exact hj
      have newl : ∀ q, lenO hs ≤ q → q < lenO hs + lenO hs' → live (gs3 q) (getO (catO hs (mapO (renO (fun j => some (lenO hs + j))) hs')) q) → live (gs' (q - lenO hs)) (getO hs' (q - lenO hs)) ∧ gs3 q = gs' (q - lenO hs) ∧ w.heap.size ≤ (gs3 q).blk := by
        intro q h1 h2 lq
        obtain ⟨i, rfl⟩ : ∃ i, q = lenO hs + i := ⟨q - lenO hs, by omega⟩
        rw [hget2, hg2] at lq
        rw [Nat.add_sub_cancel_left]
        have l2 := live_renO.1 lq
        exact ⟨l2, hg2 i, by rw [hg2]; exact hM _ (hrep.mine i (show i < lenO hs' by omega) l2).1⟩
      have oldl : ∀ q, q < lenO hs → live (gs3 q) (getO (catO hs (mapO (renO (fun j => some (lenO hs + j))) hs')) q) → live (gs q) (getO hs q) ∧ gs3 q = gs q ∧ (gs3 q).blk < w.heap.size := by
        intro q h1 lq
        rw [hget1 q h1, hg1 q h1] at lq
        exact ⟨lq, hg1 q h1, by rw [hg1 q h1]; exact (C.rep.obj q h1).lt lq⟩
      by_cases h1 : i < lenO hs <;> by_cases h2 : j < lenO hs
      · obtain ⟨a1, a2, _⟩ := oldl i h1 li
        obtain ⟨b1, b2, _⟩ := oldl j h2 lj
        rw [a2, b2] at e
        exact C.rep.inj i j h1 h2 a1 b1 e
      · obtain ⟨_, _, a3⟩ := oldl i h1 li
        obtain ⟨_, _, b3⟩ := newl j (by omega) hj' lj
        omega
      · obtain ⟨_, _, a3⟩ := newl i (by omega) hi' li
        obtain ⟨_, _, b3⟩ := oldl j h2 lj
        omega
      · obtain ⟨a1, a2, _⟩ := newl i (by omega) hi' li
        obtain ⟨b1, b2, _⟩ := newl j (by omega) hj' lj
        rw [a2, b2] at e
        have := hrep.inj _ _ (show i - lenO hs < lenO hs' by omega) (show j - lenO hs < lenO hs' by omega) a1 b1 e
        omega
    · by_cases h : j < lenO hs
      · rw [hget1 j h, hg1 j h] at lj
        rw [hg1 j h]
        obtain ⟨q1, q2⟩ := C.rep.mine j h lj
        refine ⟨q1, fun ⟨p1, p2⟩ => ?_⟩
        rcases h5 _ p1 with h6 | h6
        · rcases h6 with h6 | ⟨h6, h7⟩
          · exact q2 h6
          · exact p2 ⟨h6, h7⟩
        · have := hM _ h6
          have := (C.rep.obj j h).lt lj
          omega
      · have hj' : j < lenO hs + lenO hs' := by rw [← hlen]; exact hj
        obtain ⟨i, rfl⟩ : ∃ i, j = lenO hs + i := ⟨j - lenO hs, by omega⟩
        rw [hget2, hg2] at lj
        rw [hg2]
        obtain ⟨q1, q2⟩ := hrep.mine i (show i < lenO hs' by omega) (live_renO.1 lj)
        exact ⟨.inr (Nat.le_trans C.kp.size (hM _ q1)), fun ⟨p1, _⟩ => q2 p1⟩
    · rcases h5 b hb.1 with h6 | h6
      · rcases h6 with h6 | h6
        · exact C.pm b h6
        · exact absurd h6 hb.2
      · exact .inr (.inr (Nat.le_trans C.kp.size (hM _ h6)))
  exact hA fn hrs E mt hi gs3 Pr3 _ w' (C2.put dst (ren_ok hm (pvV_cz hpv hz)))
/- A slice that grows is lent, and taken back. -/
theorem Conc.swapO {E : Env} {gs : Nat → Gh} {Pr : Nat → Prop} {tm : List AV} {hs : List AObj} {a : Act} {w : World} (C : Conc E gs Pr tm hs a w) (k : Nat) (o : AObj) (hk : dom hs k) (h1 : ObjOK gs (dom hs) Pr w (gs k) o) (h2 : live (gs k) o → live (gs k) (getO hs k)) (h3 : k < lenO E.hs0 → isGrow o → isGrow (getO E.hs0 k)) : Conc E gs Pr tm (setO hs k o) a w := by
  have hlen : lenO (setO hs k o) = lenO hs := by rw [lenO_eq, setO_eq, List.length_set, ← lenO_eq]
  have hlv : ∀ j, live (gs j) (upd (getO hs) k o j) → live (gs j) (getO hs j) := by
    intro j hl
    by_cases e : j = k
    · subst e; rw [upd_self] at hl; exact h2 hl
    · rwa [upd_ne _ _ e] at hl
  refine ⟨⟨fun j hj => ?_, fun i j hi hj li lj e => ?_, fun j hj lj => ?_, C.rep.pr, C.rep.gl⟩, C.size, fun i => by rw [dom_set]; exact C.tms i, C.dfs, C.kp, C.p0, C.pm, C.agree, by rw [hlen]; exact C.len0, fun j hj hg => ?_⟩
  · rw [dom_set] at hj ⊢
    rw [getO_set hk]
    by_cases e : j = k
    · subst e; rw [upd_self]; exact h1
    · rw [upd_ne _ _ e]; exact C.rep.obj j hj
  · rw [dom_set] at hi hj
    rw [getO_set hk] at li lj
    exact C.rep.inj i j hi hj (hlv i li) (hlv j lj) e
  · rw [dom_set] at hj
    rw [getO_set hk] at lj
    exact C.rep.mine j hj (hlv j lj)
  · rw [getO_set hk] at hg
    by_cases e : j = k
    · subst e; rw [upd_self] at hg; exact h3 hj hg
    · rw [upd_ne _ _ e] at hg; exact C.kind j hj hg
theorem trans_lend {tm : List AV} {hs : List AObj} (k t sz : Nat) (xs : List (List AV)) (ho : getO hs k = .grow t sz xs) : Trans (fun x => x) tm hs tm (setO hs k (.lent t sz xs)) := by
  intro E gs Pr a w C
  have hk : dom hs k := getO_lt (by rw [ho]; simp)
  exact ⟨gs, Pr, C.swapO k _ hk (show ObjOK gs (dom hs) Pr w (gs k) (.grow t sz xs) from C.obj hk ho) (fun h => by rw [ho]; exact h) (fun _ h => h.elim), fun x v h => by rw [dom_set]; exact h⟩
theorem aw_back {P : Program} {rs : List ARes} {todo : List AItem} {tm : List AV} {hs : List AObj} {post : AV → List AObj → Prop} (n k t sz : Nat) (xs : List (List AV)) (hb : baseN todo n) (hn : n ≤ k) (ho : getO hs k = .lent t sz xs) (h : AW P rs todo tm (setO hs k (.grow t sz xs)) post) : AW P rs todo tm hs post := by
  intro fn hrs E mt hirel gs Pr a w C
  have hk : dom hs k := getO_lt (by rw [ho]; simp)
  have hl := baseN_le hirel hb
  exact h fn hrs E mt hirel gs Pr a w (C.swapO k _ hk (show ObjOK gs (dom hs) Pr w (gs k) (.lent t sz xs) from C.obj hk ho) (fun h => by rw [ho]; exact h) (fun h => by omega))
end Go.Proofs.YtlnafekmiidpkaaDoor.S
