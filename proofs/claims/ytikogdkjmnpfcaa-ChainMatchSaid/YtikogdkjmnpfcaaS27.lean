/- Rows of an array of the call's own that become a value. -/
import Derived.Test.YtikogdkjmnpfcaaS26
namespace Go.Proofs.Ytikogdkjmnpfcaa.S
set_option linter.all false
set_option linter.unusedVariables false
set_option linter.unusedSimpArgs false
def frAV (k o l c : Nat) (r : AV) : AV → AV
  | .sl j p m d => ifEq j k (ifEq p o (ifEq m l (ifEq d c r .any) .any) .any) (.sl j p m d)
  | .agg _ => .any
  | .tup _ => .any
  | .fn .. => .any
  | v => v
def frA1 (k o l c : Nat) (r : AV) : AV → AV
  | .agg cs => .agg (mapA (frAV k o l c r) cs)
  | .fn f a b => .fn f (mapA (frAV k o l c r) a) (mapA (frAV k o l c r) b)
  | .tup _ => .any
  | v => frAV k o l c r v
def frA (k o l c : Nat) (r : AV) : AV → AV
  | .tup cs => .tup (mapA (frA1 k o l c r) cs)
  | v => frA1 k o l c r v
def frAO (k o l c : Nat) (r : AV) : AObj → AObj
  | .cells t cs => .cells t (mapA (frA1 k o l c r) cs)
  | .iter x q seen => .iter (frA1 k o l c r x) q seen
  | o => o
section
variable {gs : Nat → Gh} {D Pr Pr' : Nat → Prop} {w : World} {k o l c : Nat} {r : AV}
variable (hr : Lf Pr' w r (.slice (some (at_ (gs k).blk o)) l c)) (hP : ∀ b, Pr b → Pr' b)
include hr hP
theorem frAV_ok {x : AV} {v : Value} (h : Cz gs D Pr w x v) : Cz gs D Pr' w (frAV k o l c r x) v := by
  have hm : Cz gs D Pr' w x v := h.mono (fun _ h => h) (fun _ _ => rfl) hP (fun _ _ => rfl)
  cases x with
  | sl j p m d =>
    simp only [frAV, ifEq]
    split
    · rename_i e
      obtain rfl := Nat.eq_of_beq_eq_true e
      split
      · rename_i e
        obtain rfl := Nat.eq_of_beq_eq_true e
        split
        · rename_i e
          obtain rfl := Nat.eq_of_beq_eq_true e
          split
          · rename_i e
            obtain rfl := Nat.eq_of_beq_eq_true e
            rw [h.sl_.1]; exact .lf hr
          · exact .any v
        · exact .any v
      · exact .any v
    · exact hm
  | agg cs => exact .any v
  | tup cs => exact .any v
  | fn f a b => exact .any v
  | _ => exact hm
theorem frAL_ok {f : AV → AV} (hf : ∀ x v, Cz gs D Pr w x v → Cz gs D Pr' w (f x) v) {cs : List AV} {vs : Array Value} (h : ∀ (j : Nat) a v, cs[j]? = some a → vs[j]? = some v → Cz gs D Pr w a v) : ∀ (j : Nat) a v, (mapA f cs)[j]? = some a → vs[j]? = some v → Cz gs D Pr' w a v := by
  intro j a v e1 e2
  rw [mapA_get, Option.map_eq_some_iff] at e1
  obtain ⟨x, hx, rfl⟩ := e1
  exact hf x v (h j x v hx e2)
theorem frA1_ok {x : AV} {v : Value} (h : Cz gs D Pr w x v) : Cz gs D Pr' w (frA1 k o l c r x) v := by
  cases x <;> first | exact frAV_ok hr hP h | skip
  case agg cs =>
    obtain ⟨vs, rfl, h1, h2, h3⟩ := h.agg_
    exact .agg _ vs (by rw [mapA_len]; exact h1) (frAL_ok hr hP (fun x v h => frAV_ok hr hP h) h2) h3
  case fn f a b =>
    obtain ⟨va, vb, rfl, h1, h2⟩ := h.fn_
    exact .fn _ _ _ va vb (by rw [mapA_len]; exact h1.1) (by rw [mapA_len]; exact h2.1) (frAL_ok hr hP (fun x v h => frAV_ok hr hP h) h1.2) (frAL_ok hr hP (fun x v h => frAV_ok hr hP h) h2.2)
theorem frA_ok {x : AV} {v : Value} (h : Cz gs D Pr w x v) : Cz gs D Pr' w (frA k o l c r x) v := by
  cases x <;> first | exact frA1_ok hr hP h | skip
  case tup cs =>
    obtain ⟨vs, rfl, h1, h2⟩ := h.tup_
    exact .tup _ vs (by rw [mapA_len]; exact h1) (frAL_ok hr hP (fun x v h => frA1_ok hr hP h) h2)
theorem frAO_ok {g : Gh} {q : AObj} (h : ObjOK gs D Pr w g q) : ObjOK gs D Pr' w g (frAO k o l c r q) := by
  have hm : ObjOK gs D Pr' w g q := h.mono (fun _ h => h) (fun _ _ => rfl) hP (fun _ _ => rfl) (fun _ => rfl)
  cases q with
  | cells t cs =>
    obtain ⟨c, fr, h1, h2, h3, h4, h5⟩ := h
    exact ⟨c, fr, h1, h2, h3, by rw [mapA_len]; exact h4, frAL_ok hr hP (fun x v h => frA1_ok hr hP h) h5⟩
  | iter x c seen =>
    obtain ⟨b, h1, h2⟩ := h
    exact ⟨b, h1, frA1_ok hr hP h2⟩
  | _ => exact hm
end
/-- A row of cells of the call's own becomes a value; nobody writes to it any more. -/
theorem trans_frA {tm : List AV} {hs : List AObj} (k o c : Nat) {t sz : Nat} {cs : List AV} (xs : List (List AV)) (ho : getO hs k = .arr t cs) (hc : xs.length ≤ c) (h1 : ∀ row ∈ xs, row.length = sz)
    (hx : ∀ (i : Nat) row (j : Nat) a, xs[i]? = some row → row[j]? = some a → cs[o + (i * sz + j)]? = some a) (hle : o + xs.length * sz ≤ cs.length) :
    Trans (frA k o xs.length c (.ro sz xs)) tm hs (mapA (frA k o xs.length c (.ro sz xs)) tm) (setO (mapO (frAO k o xs.length c (.ro sz xs)) hs) k .dead) := by
  intro E gs Pr a w C
  have hk : dom hs k := getO_lt (by rw [ho]; simp)
  obtain ⟨cc, fr, h4, h5, h6, h7, h8⟩ := C.obj hk ho
  have hlive : live (gs k) (getO hs k) := by rw [ho]; trivial
  let Pr' : Nat → Prop := fun b => Pr b ∨ b = (gs k).blk
  have hP : ∀ b, Pr b → Pr' b := fun b h => .inl h
  have hr : Lf Pr' w (.ro sz xs) (.slice (some (at_ (gs k).blk o)) xs.length c) := by
    refine .ro sz xs (gs k).blk o c (fun q => cc.getD (o + q) undef) (.inr rfl) hc h1 (fun i row j a e1 e2 => ?_) (fun q hq => ?_)
    · have hj : j < sz := by rw [← h1 row (List.mem_of_getElem? e1)]; exact (List.getElem?_eq_some_iff.1 e2).1
      have hi := (List.getElem?_eq_some_iff.1 e1).1
      have : (i + 1) * sz ≤ xs.length * sz := Nat.mul_le_mul_right _ hi
      rw [Nat.add_mul] at this
      have hlt : o + (i * sz + j) < cc.size := by omega
      have hc := Array.getElem?_eq_getElem hlt
      have : cc.getD (o + (i * sz + j)) undef = cc[o + (i * sz + j)] := by rw [Array.getD_eq_getD_getElem?, hc]; rfl
      rw [this]
      exact (h8 _ a _ (hx i row j a e1 e2) hc).mono hP (fun _ _ => rfl)
    · have hlt : o + q < cc.size := by omega
      have hc := Array.getElem?_eq_getElem hlt
      have : cc.getD (o + q) undef = cc[o + q] := by rw [Array.getD_eq_getD_getElem?, hc]; rfl
      rw [this, cell_at h4, hc]
      exact ⟨rfl, h6 _ (by simp)⟩
  generalize hF : frA k o xs.length c (.ro sz xs) = F
  generalize hFO : frAO k o xs.length c (.ro sz xs) = FO
  have hFd : FO .dead = .dead := by rw [← hFO]; rfl
  have hFk : ∀ q, ∃ f : List AV → List AV × AV, FO q = (match q with | .cells t cs => .cells t (f cs).1 | .iter x c s => .iter (f [x]).2 c s | q => q) := by
    intro q
    rw [← hFO]
    cases q with
    | cells t cs => exact ⟨fun cs => (_, .any), rfl⟩
    | iter x c s => exact ⟨fun cs => ([], _), rfl⟩
    | _ => exact ⟨fun _ => ([], .any), rfl⟩
  have hlen : lenO (setO (mapO FO hs) k .dead) = lenO hs := by
    rw [lenO_eq, setO_eq, List.length_set, ← lenO_eq, mapO_len]
  have hdom : dom (setO (mapO FO hs) k .dead) = dom hs := by unfold dom; rw [hlen]
  have hget : ∀ j, getO (setO (mapO FO hs) k .dead) j = if j = k then .dead else FO (getO hs j) := by
    intro j
    rw [getO_set (by rw [mapO_len]; exact hk)]
    unfold upd
    split
    · rfl
    · exact mapO_get _ hFd hs j
  have hlv : ∀ j, live (gs j) (getO (setO (mapO FO hs) k .dead) j) → j ≠ k ∧ live (gs j) (getO hs j) := by
    intro j hl
    rw [hget] at hl
    split at hl
    · exact hl.elim
    · rename_i e
      refine ⟨e, ?_⟩
      obtain ⟨f, hf⟩ := hFk (getO hs j)
      rw [hf] at hl
      cases h : getO hs j <;> rw [h] at hl <;> exact hl
  refine ⟨gs, Pr', ⟨⟨fun j hj => ?_, fun i j hi hj li lj e => ?_, fun j hj lj => ?_, fun b hb => ?_, C.rep.gl.mono hP (fun _ _ => rfl)⟩, by rw [mapA_len]; exact C.size, fun i => ?_, C.dfs, C.kp, fun b hb => .inl (C.p0 b hb), fun b hb => ?_, C.agree, by rw [hlen]; exact C.len0, fun j hj hg => ?_⟩, fun x v h => by rw [hdom, ← hF]; exact frA_ok hr hP h⟩
  · rw [hdom] at hj ⊢
    rw [hget]
    split
    · trivial
    · rw [← hFO]; exact frAO_ok hr hP (C.rep.obj j hj)
  · rw [hdom] at hi hj
    exact C.rep.inj i j hi hj (hlv i li).2 (hlv j lj).2 e
  · rw [hdom] at hj
    obtain ⟨h3, h4⟩ := hlv j lj
    obtain ⟨h5, h6⟩ := C.rep.mine j hj h4
    refine ⟨h5, fun hp => ?_⟩
    rcases hp with hp | e
    · exact h6 hp
    · exact h3 (C.rep.inj j k hj hk h4 hlive e)
  · rcases hb with hb | rfl
    · exact C.rep.pr b hb
    · exact (C.rep.obj k hk).lt hlive
  · rw [hdom]
    have := C.tms i
    rw [getL_eq, List.getD_eq_getElem?_getD] at this ⊢
    rw [mapA_get]
    cases h : tm[i]? with
    | none => exact .any _
    | some x => rw [h] at this; rw [← hF]; exact frA_ok hr hP this
  · rcases hb with hb | rfl
    · exact C.pm b hb
    · exact .inr (C.rep.mine k hk hlive).1
  · rw [hget] at hg
    split at hg
    · exact hg.elim
    · refine C.kind j hj ?_
      obtain ⟨f, hf⟩ := hFk (getO hs j)
      rw [hf] at hg
      cases h : getO hs j <;> rw [h] at hg <;> first | exact hg | trivial
/-- All rows of an array, from its beginning. -/
theorem flat_get {sz : Nat} {xs : List (List AV)} (h1 : ∀ row ∈ xs, row.length = sz) : ∀ (i : Nat) row (j : Nat) a, xs[i]? = some row → row[j]? = some a → xs.flatten[0 + (i * sz + j)]? = some a := by
  intro i row j a e1 e2
  rw [Nat.zero_add]
  induction xs generalizing i with
  | nil => simp at e1
  | cons r xs ih =>
    rw [List.flatten_cons]
    have hr : r.length = sz := h1 r (by simp)
    cases i with
    | zero =>
      simp at e1
      subst e1
      rw [List.getElem?_append_left (by have := (List.getElem?_eq_some_iff.1 e2).1; omega)]
      simpa using e2
    | succ i =>
      rw [List.getElem?_append_right (by rw [hr, Nat.add_mul]; omega), hr, show (i + 1) * sz + j - sz = i * sz + j by rw [Nat.add_mul]; omega]
      exact ih (fun row hm => h1 row (by simp [hm])) i (by simpa using e1)
theorem trans_frA0 {tm : List AV} {hs : List AObj} (k c : Nat) {t sz : Nat} (xs : List (List AV)) (ho : getO hs k = .arr t xs.flatten) (hc : xs.length ≤ c) (h1 : ∀ row ∈ xs, row.length = sz) :
    Trans (frA k 0 xs.length c (.ro sz xs)) tm hs (mapA (frA k 0 xs.length c (.ro sz xs)) tm) (setO (mapO (frAO k 0 xs.length c (.ro sz xs)) hs) k .dead) :=
  trans_frA k 0 c xs ho hc h1 (flat_get h1) (by rw [flatten_len h1]; omega)
theorem over_all {cs vs : List AV} (h : vs.length = cs.length) : over cs 0 vs = vs := by
  unfold over
  rw [List.take_zero, List.nil_append, List.drop_of_length_le (by omega), List.append_nil]
/-- A row that was made, and into which all of another one was copied. -/
theorem made_copy {xs : List (List AV)} {sz : Nat} {z : List AV} (hz : z.length = sz) (h1 : ∀ row ∈ xs, row.length = sz) : over (List.replicate xs.length z).flatten 0 (xs.flatten.take (min xs.length xs.length * sz)) = xs.flatten := by
  have h2 := flatten_len h1
  rw [Nat.min_self, List.take_of_length_le (by omega)]
  exact over_all (by rw [h2]; simp [hz])
/- The end of a call told otherwise. -/
theorem Rfin.tr {E : Env} {p q : AV → List AObj → Prop} {e : Ending} {w : World} (h : Rfin E p e w)
    (ht : ∀ r hs, p r hs → lenO E.hs0 ≤ lenO hs → ∃ φ tm2 hs2 n r' hs3, Trans φ [r] hs tm2 hs2 ∧ lenO E.hs0 ≤ n ∧ Wk n tm2 hs2 [r'] hs3 ∧ q r' hs3) : Rfin E q e w := by
  obtain ⟨v, r, hs, gs, Pr, rfl, hp, hz, hrep, hk, h4, h5, h6, h7, h8⟩ := h
  obtain ⟨φ, tm2, hs2, n, r', hs3, hT, hn, hW, hq⟩ := ht r hs hp h7
  have C : Conc E gs Pr [r] hs ⟨#[v], []⟩ w := ⟨hrep, rfl, fun i => by
    cases i with
    | zero => exact hz
    | succ i => exact .any _, rfl, hk, h4, h5, h6, h7, h8⟩
  obtain ⟨gs2, Pr2, C2, _⟩ := hT _ _ _ _ _ C
  have C3 := hW.conc hn C2
  exact ⟨v, r', hs3, gs2, Pr2, rfl, hq, C3.tms 0, C3.rep, C3.kp, C3.p0, C3.pm, C3.agree, C3.len0, C3.kind⟩
theorem acalls_tr {P : Program} {f : Nat} {args : List AV} {hs : List AObj} {p q : AV → List AObj → Prop} (h : ACalls P f args hs p)
    (ht : ∀ r hs', p r hs' → ∃ φ tm2 hs2 r' hs3, Trans φ [r] hs' tm2 hs2 ∧ Wk (lenO hs) tm2 hs2 [r'] hs3 ∧ q r' hs3) : ACalls P f args hs q :=
  ⟨h.1, fun gs Pr w vs h1 h2 => (h.2 gs Pr w vs h1 h2).mono fun e w' h => Rfin.tr h fun r hs' hp hl => by
    obtain ⟨φ, tm2, hs2, r', hs3, a1, a2, a3⟩ := ht r hs' hp
    exact ⟨φ, tm2, hs2, _, r', hs3, a1, Nat.le_refl _, a2, a3⟩⟩
/- Two labels of the call's own change places. -/
theorem aw_base {P : Program} {rs : List ARes} {c : ACode} {tm : List AV} {hs : List AObj} {post : AV → List AObj → Prop} (h : AW P rs [.code c, .scope 0 (lenO hs) .skip] tm hs post) : AW P rs [.code c] tm hs post := by
  intro fn hrs E mt hi gs Pr a w C
  cases mt with
  | nil => exact hi.elim
  | cons y mt =>
    obtain ⟨h1, h2⟩ := hi
    cases y <;> simp only [IRel] at h1
    rename_i c'
    cases mt with
    | cons z mt => exact h2.elim
    | nil =>
      have := h fn hrs E [.code c', .scope 0 .skip] ⟨h1, ⟨rfl, C.len0, rfl⟩, trivial⟩ gs Pr a w C
      refine wp_mono (show c'.wp P (kont P (bodyPost P fn (Rfin E post)) [.scope 0 .skip]) a w from this) fun e a w h => ?_
      cases e <;> exact h
theorem acalls_ofS {P : Program} {f : Nat} {fn : Func} {A : AFunc} {args : List AV} {hs : List AObj} {spost : AV → List AObj → Prop} (hf : P.funcs[f]? = some fn) (hc : cFunc P fn = some A) (he : entersB P f = true)
    (h : AW P A.rs [.code A.code, .scope 0 (lenO hs) .skip] (catA args (anys (A.ntmps - lenA args))) hs (EndP (lenO hs) spost)) : ACalls P f args hs spost := acalls_of hf hc he (aw_base h)
def baseN : List AItem → Nat → Prop
  | [], _ => False
  | .scope _ k _ :: l, n => k ≤ n ∨ baseN l n
  | _ :: l, n => baseN l n
theorem baseN_le {P : Program} {E : Env} {n : Nat} : ∀ {todo : List AItem} {mt : List MItem}, IRels P E todo mt → baseN todo n → lenO E.hs0 ≤ n
  | [], _, _, h => h.elim
  | x :: l, [], hi, _ => hi.elim
  | x :: l, y :: m, hi, h => by
    obtain ⟨h1, h2⟩ := hi
    cases x with
    | scope a k c =>
      cases y <;> simp only [IRel] at h1
      rcases h with h | h
      · exact Nat.le_trans h1.2.1 h
      · exact baseN_le h2 h
    | _ => exact baseN_le h2 h
def sw (i j k : Nat) : Option Nat := match Nat.beq k i with
  | true => some j
  | false => match Nat.beq k j with
    | true => some i
    | false => some k
def sw' (i j k : Nat) : Nat := if k = i then j else if k = j then i else k
theorem sw_eq (i j k : Nat) : sw i j k = some (sw' i j k) := by
  unfold sw sw'
  split
  · rename_i e; rw [if_pos (Nat.eq_of_beq_eq_true e)]
  · rename_i e
    rw [if_neg (fun e' => by rw [e'] at e; simp at e)]
    split
    · rename_i e; rw [if_pos (Nat.eq_of_beq_eq_true e)]
    · rename_i e
      rw [if_neg (fun e' => by rw [e'] at e; simp at e)]
theorem sw_sw (i j k : Nat) : sw' i j (sw' i j k) = k := by
  unfold sw'
  split <;> split <;> (try split) <;> simp_all
theorem aw_swap {P : Program} {rs : List ARes} {todo : List AItem} {tm : List AV} {hs : List AObj} {post : AV → List AObj → Prop} (n i j : Nat) (hb : baseN todo n) (hi : n ≤ i) (hj : n ≤ j) (hi' : i < lenO hs) (hj' : j < lenO hs)
    (h : AW P rs todo (rens (sw i j) tm) (mapO (renO (sw i j)) (setO (setO hs i (getO hs j)) j (getO hs i))) post) : AW P rs todo tm hs post := by
  intro fn hrs E mt hirel gs Pr a w C
  have hn := baseN_le hirel hb
  refine h fn hrs E mt hirel (fun k => gs (sw' i j k)) Pr a w ?_
  have hlen : lenO (mapO (renO (sw i j)) (setO (setO hs i (getO hs j)) j (getO hs i))) = lenO hs := by
    rw [mapO_len, lenO_eq, setO_eq, setO_eq]; simp [lenO_eq]
  have hdom : dom (mapO (renO (sw i j)) (setO (setO hs i (getO hs j)) j (getO hs i))) = dom hs := by unfold dom; rw [hlen]
  have hlt : ∀ k, k < lenO hs → sw' i j k < lenO hs := by
    intro k hk
    unfold sw'
    split
    · exact hj'
    · split
      · exact hi'
      · exact hk
  have hget : ∀ k, getO (mapO (renO (sw i j)) (setO (setO hs i (getO hs j)) j (getO hs i))) k = renO (sw i j) (getO hs (sw' i j k)) := by
    intro k
    rw [mapO_get _ rfl, getO_set (by rw [lenO_eq, setO_eq]; simpa [lenO_eq] using hj'), getO_set hi']
    congr 1
    unfold upd sw'
    by_cases e1 : k = i
    · subst e1
      by_cases e2 : k = j
      · subst e2; simp
      · simp [e2]
    · by_cases e2 : k = j
      · subst e2; simp [e1]
      · simp [e1, e2]
  have hm : ∀ k q, dom hs k → sw i j k = some q → dom hs q ∧ (fun k => gs (sw' i j k)) q = gs k := by
    intro k q hk e
    rw [sw_eq] at e
    injection e with e
    subst e
    exact ⟨hlt k hk, by show gs _ = _; rw [sw_sw]⟩
  have hsame : ∀ k, k < lenO E.hs0 → sw' i j k = k := by
    intro k hk
    unfold sw'
    rw [if_neg (by omega), if_neg (by omega)]
  refine ⟨⟨fun k hk => ?_, fun p q hp hq lp lq e => ?_, fun k hk lk => ?_, C.rep.pr, C.rep.gl⟩, by rw [rens_len]; exact C.size, fun q => ?_, C.dfs, C.kp, C.p0, C.pm, fun k hk hg => ?_, by rw [hlen]; exact C.len0, fun k hk hg => ?_⟩
  · rw [hdom] at hk ⊢
    rw [hget]
    exact renO_ok hm (C.rep.obj _ (hlt k hk))
  · rw [hdom] at hp hq
    rw [hget] at lp lq
    have := C.rep.inj _ _ (hlt p hp) (hlt q hq) (live_renO.1 lp) (live_renO.1 lq) e
    have := congrArg (sw' i j) this
    rwa [sw_sw, sw_sw] at this
  · rw [hdom] at hk
    rw [hget] at lk
    exact C.rep.mine _ (hlt k hk) (live_renO.1 lk)
  · rw [hdom]
    have := C.tms q
    rw [getL_eq, List.getD_eq_getElem?_getD] at this ⊢
    rw [rens_get]
    cases h : tm[q]? with
    | none => exact .any _
    | some x => rw [h] at this; exact ren_ok hm this
  · show gs (sw' i j k) = _
    rw [hsame k hk]; exact C.agree k hk hg
  · rw [hget, hsame k hk] at hg
    exact C.kind k hk (isGrow_renO.1 hg)
theorem trans_id {tm : List AV} {hs : List AObj} : Trans (fun x => x) tm hs tm hs := fun E gs Pr a w C => ⟨gs, Pr, C, fun x v h => h⟩
end Go.Proofs.Ytikogdkjmnpfcaa.S
