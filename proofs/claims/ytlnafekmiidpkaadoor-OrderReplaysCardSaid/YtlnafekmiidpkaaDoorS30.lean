/- A region of open order: an append at its end, beside which one reading operation may come early or late. -/
import Derived.Test.YtlnafekmiidpkaaDoorS29
import Derived.Test.YtlnafekmiidpkaaDoorS28
namespace Go.Proofs.YtlnafekmiidpkaaDoor.S
set_option linter.all false
set_option linter.unusedVariables false
set_option linter.unusedSimpArgs false
def mask (f : Nat → Bool) : Nat → List OpD → List OpD
  | _, [] => []
  | i, d :: R => (match f i with | true => d | false => ⟨.any, [], [], []⟩) :: mask f (i + 1) R
theorem mask_congr {f g : Nat → Bool} : ∀ (R : List OpD) (s : Nat), (∀ i, i < R.length → f (s + i) = g (s + i)) → mask f s R = mask g s R
  | [], s, h => rfl
  | d :: R, s, h => by
    simp only [mask]
    have e := mask_congr (f := f) (g := g) R (s + 1) (fun i hi => by
      have := h (i + 1) (by simpa using hi)
      rwa [show s + (i + 1) = s + 1 + i by omega] at this)
    have h0 := h 0 (by simp)
    rw [Nat.add_zero] at h0
    rw [e, h0]
theorem mask_len (f : Nat → Bool) : ∀ (R : List OpD) (s : Nat), (mask f s R).length = R.length
  | [], s => rfl
  | d :: R, s => by simp [mask, mask_len f R (s + 1)]
theorem mask_mem {f : Nat → Bool} {d : OpD} : ∀ {R : List OpD} {s : Nat}, d ∈ mask f s R → d = ⟨.any, [], [], []⟩ ∨ d ∈ R
  | [], s, h => by simp [mask] at h
  | x :: R, s, h => by
    simp only [mask] at h
    rcases List.mem_cons.1 h with h | h
    · cases hf : f s
      · rw [hf] at h; exact .inl h
      · rw [hf] at h; exact .inr (by rw [h]; simp)
    · rcases mask_mem h with h | h
      · exact .inl h
      · exact .inr (by simp [h])
theorem objF_mask {f : Nat → Bool} : ∀ (R : List OpD) (s : Nat) (h : Nat → AObj), objF (fun _ => true) s (mask f s R) h = objF f s R h
  | [], s, h => rfl
  | d :: R, s, h => by
    simp only [mask, objF]
    cases hf : f s
    · simp only []
      rw [show updD ⟨.any, [], [], []⟩ h = h from rfl]
      exact objF_mask R (s + 1) h
    · simp only []
      exact objF_mask R (s + 1) _
theorem wrt_mask {f : Nat → Bool} {t : Nat} : ∀ (l : List AOper) (R : List OpD) (s : Nat), wrt s l (mask f s R) t = (wrt s l R t).map fun p => (p.1, match f p.1 with | true => p.2 | false => .any)
  | [], R, s => by cases R <;> simp [wrt, mask]
  | q :: l, [], s => by simp [wrt, mask]
  | q :: l, d :: R, s => by
    have ih := wrt_mask (f := f) (t := t) l R (s + 1)
    simp only [wrt, mask]
    cases q.dst with
    | none => exact ih
    | some u =>
      simp only []
      cases Nat.beq u t
      · exact ih
      · simp only [Option.map_some]
        cases hf : f s <;> rfl
theorem ri_end {E : Env} {l : List AOper} {cl : List (List Nat)} {R : List OpD} {tm : List AV} {hs : List AObj} {n : Nat} {gs : Nat → Gh} {Pr : Nat → Prop} {F : Nat → Bool} {a : Act} {w : World} (hchk : chkR cl l R (lenO hs) n = true) (hF : ∀ (i : Nat) d, R[i]? = some d → F i = true → ∀ j ∈ cl.getD i [], F j = true) (RC : RI E l R tm hs gs Pr F a w) : Conc E gs Pr (setDs l (mask F 0 R) tm) (endO (mask F 0 R) (catD hs (deads (n - lenO hs)))) a w := by
  have hn0 := chk_n hchk
  have hlc : lenO (catD hs (deads (n - lenO hs))) = n := by
    have := deads_len (n - lenO hs)
    simp only [lenO_eq, catD_eq, List.length_append] at this hn0 ⊢
    omega
  have hend : ∀ k, getO (endO (mask F 0 R) (catD hs (deads (n - lenO hs)))) k = objF F 0 R (getO hs) k := fun k => by
    rw [← objF_mask R 0]
    refine endO_get (mask F 0 R) 0 _ _ (fun _ _ => rfl) (fun d hd => ?_) (catD_get _ _ _)
    rcases mask_mem hd with rfl | hd
    · exact ⟨fun j hj => by simp [keysO] at hj, fun j hj => by simp [keysF] at hj⟩
    · obtain ⟨i, hi⟩ := List.getElem?_of_mem hd
      rw [hlc]
      exact ⟨fun j hj => chk_lt hchk hi (List.mem_append_right _ hj), fun j hj => (chk_fr hchk hi hj).2⟩
  have hle : lenO (endO (mask F 0 R) (catD hs (deads (n - lenO hs)))) = n := by rw [endO_len, hlc]
  have hdead : ∀ k, ¬ Df R (lenO hs) F k → objF F 0 R (getO hs) k = .dead := by
    intro k hk
    rw [objF_none R 0 _ (fun j d hd ht => ?_)]
    · rw [getO_eq, List.getD_eq_getElem?_getD, List.getElem?_eq_none (by
        apply Decidable.byContradiction
        intro h
        exact hk (.inl (by rw [lenO_eq]; omega)))]
      rfl
    · rw [Nat.zero_add]
      apply Classical.byContradiction
      intro hfj
      have hfj : F j = true := by simpa using hfj
      have hfr : ∀ (j : Nat) (d : OpD), R[j]? = some d → F j = true → k ∈ keysF d.fr → False := fun j d hd hf h => hk (.inr ⟨j, d, hd, hf, h⟩)
      unfold touchB at ht
      split at ht
      · rename_i o hno
        unfold newO at hno
        split at hno
        · rename_i e
          rcases chk_vis hchk hd (List.mem_append_right _ (keysO_mem (lkO_some e))) with h | h
          · exact hk (.inl h)
          · obtain ⟨j', hj', d', hd', h'⟩ := visN_mem h
            exact hfr j' d' hd' (hF j d hd hfj j' hj') h'
        · split at hno
          · rename_i e; exact hfr j d hd hfj (keysF_mem (lkF_some e)).1
          · cases hno
      · cases ht
  have hDd : ∀ k, Df R (lenO hs) F k → dom (endO (mask F 0 R) (catD hs (deads (n - lenO hs)))) k := fun k hk => by
    show k < lenO _
    rw [hle]
    exact D_lt hchk hk
  have hlv : ∀ k, live (gs k) (getO (endO (mask F 0 R) (catD hs (deads (n - lenO hs)))) k) → Df R (lenO hs) F k ∧ live (gs k) (objF F 0 R (getO hs) k) := fun k hl => by
    rw [hend] at hl
    refine ⟨?_, hl⟩
    apply Classical.byContradiction
    intro h
    rw [hdead k h] at hl
    exact hl
  refine ⟨⟨fun k hk => ?_, fun x y hx hy lx ly e => ?_, fun k hk hl => ?_, RC.rep.pr, RC.rep.gl⟩, by rw [setDs_len]; exact RC.size, fun t => ?_, RC.dfs, RC.kp, RC.p0, RC.pm, RC.agree, by rw [hle]; exact Nat.le_trans RC.len0 hn0, fun k hk hg => ?_⟩
  · rw [hend]
    rcases Classical.em (Df R (lenO hs) F k) with h | h
    · exact (RC.rep.obj k h).mono hDd (fun _ _ => rfl) (fun _ h => h) (fun _ _ => rfl) (fun _ => rfl)
    · rw [hdead k h]; trivial
  · obtain ⟨a1, a2⟩ := hlv x lx
    obtain ⟨b1, b2⟩ := hlv y ly
    exact RC.rep.inj x y a1 b1 a2 b2 e
  · obtain ⟨a1, a2⟩ := hlv k hl
    exact RC.rep.mine k a1 a2
  · by_cases ht : t < tm.length
    · rw [setDs_get l (mask F 0 R) 0 tm ht, wrt_mask]
      have hz := RC.tms t
      unfold tmF at hz
      cases e : wrt 0 l R t with
      | none =>
        rw [e] at hz
        exact hz.mono hDd (fun _ _ => rfl) (fun _ h => h) (fun _ _ => rfl)
      | some p =>
        obtain ⟨j, v⟩ := p
        rw [e] at hz
        simp only [Option.map_some] at hz ⊢
        cases hf : F j
        · exact .any _
        · rw [hf] at hz
          exact hz.mono hDd (fun _ _ => rfl) (fun _ h => h) (fun _ _ => rfl)
    · have : getL (setDs l (mask F 0 R) tm) t = .any := by
        rw [getL_eq, List.getD_eq_getElem?_getD, List.getElem?_eq_none (by rw [setDs_len]; omega)]; rfl
      rw [this]; exact .any _
  · rw [hend] at hg
    exact RC.kind k hk hg
/-- Told of each operation but one. -/
def AllX (P : Program) (rs : List ARes) (l0 : List AOper) (cl0 : List (List Nat)) (R0 : List OpD) (tm : List AV) (hs : List AObj) (n x : Nat) : Nat → List AOper → List (List Nat) → List OpD → Prop
  | _, [], [], [] => True
  | i, q :: l, c :: cl, d :: R => (Nat.beq i x = false → OpOK P rs l0 cl0 R0 tm hs n i q c d) ∧ AllX P rs l0 cl0 R0 tm hs n x (i + 1) l cl R
  | _, _, _, _ => False
theorem AllX_get {P : Program} {rs : List ARes} {l0 : List AOper} {cl0 : List (List Nat)} {R0 : List OpD} {tm : List AV} {hs : List AObj} {n x : Nat} : ∀ {l : List AOper} {cl : List (List Nat)} {R : List OpD} {s i : Nat} {q : AOper}, AllX P rs l0 cl0 R0 tm hs n x s l cl R → l[i]? = some q →
    ∃ c d, cl[i]? = some c ∧ R[i]? = some d ∧ (Nat.beq (s + i) x = false → OpOK P rs l0 cl0 R0 tm hs n (s + i) q c d)
  | [], _, _, s, i, q, _, h => by simp at h
  | y :: l, [], _, s, i, q, h, _ => h.elim
  | y :: l, c :: cl, [], s, i, q, h, _ => h.elim
  | y :: l, c :: cl, d :: R, s, 0, q, h, hi => by
    simp at hi; subst hi
    exact ⟨c, d, rfl, rfl, h.1⟩
  | y :: l, c :: cl, d :: R, s, i + 1, q, h, hi => by
    obtain ⟨c', d', h1, h2, h3⟩ := AllX_get h.2 (by simpa using hi)
    exact ⟨c', d', by simpa using h1, by simpa using h2, by rw [show s + (i + 1) = s + 1 + i by omega]; exact h3⟩
theorem AllX_len {P : Program} {rs : List ARes} {l0 : List AOper} {cl0 : List (List Nat)} {R0 : List OpD} {tm : List AV} {hs : List AObj} {n x : Nat} : ∀ {l : List AOper} {cl : List (List Nat)} {R : List OpD} {s : Nat}, AllX P rs l0 cl0 R0 tm hs n x s l cl R → R.length = l.length
  | [], [], [], s, _ => rfl
  | [], _ :: _, _, s, h => h.elim
  | [], [], _ :: _, s, h => h.elim
  | y :: l, [], _, s, h => h.elim
  | y :: l, c :: cl, [], s, h => h.elim
  | y :: l, c :: cl, d :: R, s, h => by simp [AllX_len h.2]
def lastX (cl : List (List Nat)) (m : Nat) : Bool := ((List.range m).all fun j => memN (cl.getD m []) j) && (((List.range (m + 1)).all fun j => memN (cl.getD (m + 2) []) j) && ((List.range (m + 3)).all fun j => memN (cl.getD (m + 3) []) j))
def fX (m : Nat) (fd : Bool) (i : Nat) : Bool := match Nat.blt i m with
  | true => true
  | false => match Nat.beq i m with
    | true => false
    | false => fd
theorem wpList_mono {P : Program} {ops : Array Oper} {Q : Exit → Act → World → Prop} {o : Oper} {a : Act} {w : World} {K1 K2 : Act → World → Prop} (h : wpList P ops (Exit.then K1 Q) [o] a w) (hK : ∀ a w, K1 a w → K2 a w) : wpList P ops (Exit.then K2 Q) [o] a w := by
  unfold wpList at h ⊢
  split
  · rename_i hw
    rw [if_pos hw] at h
    rcases h with h | h
    · refine .inl ?_
      unfold Oper.wp at h ⊢
      generalize (execOp a.eval o).run P w = r at h
      cases r with
      | ok nx w' =>
        cases nx <;> simp only [Oper.upon] at h ⊢
        case value u => exact hK _ _ h
        case skip => exact hK _ _ h
        case defer d => exact hK _ _ h
        case enter f args =>
          refine Calls.mono h fun e w'' he => ?_
          cases e with
          | returned u => exact hK _ _ he
          | panicked c => exact he
          | outgrown => exact he
        case row row args => exact Rows.mono h fun u w'' he => hK _ _ he
      | halt x w' =>
        cases x <;> simp only [Oper.upon] at h ⊢
        case panic u => exact h
    · exact .inr h
  · rename_i hw
    rw [if_neg hw] at h
    exact hK _ _ h
/-- What is left of the end, by what of it is done. -/
def WX (P : Program) (ops : Array Oper) (Q : Exit → Act → World → Prop) (s0 s1 s2 fl : Oper) : Bool → Nat → Act → World → Prop
  | true, 0 => wpList P ops Q [s0, s1, s2]
  | true, 1 => wpList P ops Q [s1, s2]
  | true, 2 => wpList P ops Q [s2]
  | true, _ => wpList P ops Q []
  | false, 0 => fun a w => wpList P ops Q [fl, s0, s1, s2] a w ∧ wpList P ops (Exit.then (fun a w => wpList P ops Q [fl, s1, s2] a w ∧ wpList P ops (Exit.then (wpList P ops Q [fl, s2]) Q) [s1] a w) Q) [s0] a w
  | false, 1 => fun a w => wpList P ops Q [fl, s1, s2] a w ∧ wpList P ops (Exit.then (wpList P ops Q [fl, s2]) Q) [s1] a w
  | false, _ => wpList P ops Q [fl, s2]
theorem reg_X {P : Program} {ops : Array Oper} {Q : Exit → Act → World → Prop} {id : Nat} {a : Act} {w : World} (hm : P.follows .mixedOrders = true) (hk : needsLt ops = true) (m : Nat) {s0 s1 s2 fl : Oper} (h0s : ops[m]? = some s0) (h1s : ops[m + 2]? = some s1) (h2s : ops[m + 3]? = some s2) (hfs : ops[m + 1]? = some fl) (hsz : ops.size = m + 4) (hlast : lastX (clsGo [] (ops.toList.map K.needs)) m = true) (I : (Nat → Bool) → Act → World → Prop) (h0 : I (fun _ => false) a w.drew) (hm0 : 0 < m)
    (good : ∀ i o, (i < m ∨ i = m + 1) → ops[i]? = some o → ∀ f a w, K.Turn ops f i → f m = false → f (m + 2) = false → f (m + 3) = false → I f a w → ∀ K' : Act → World → Prop, (∀ a' w', I (K.up f i) a' w' → K' a' w') → wpList P ops (Exit.then K' Q) [o] a w)
    (rest : ∀ f a w, K.Shut ops f → (∀ i, i < m → f i = true) → f m = false → f (m + 2) = false → f (m + 3) = false → I f a w → WX P ops Q s0 s1 s2 fl (f (m + 1)) 0 a w) : (Code.region id ops true).wp P Q a w := by
  have early : ∀ i o, ops[i]? = some o → ∀ f, K.Turn ops f i → ∀ j ∈ (clsGo [] (ops.toList.map K.needs)).getD i [], f j = true := fun i o ho f ht j hj =>
    cls_sound hk ht.shut i o ho (fun j hj => ht.early o ho j (List.contains_iff_mem.2 hj)) j hj
  unfold lastX at hlast
  rw [Bool.and_eq_true, Bool.and_eq_true] at hlast
  obtain ⟨q0, q1, q2⟩ := hlast
  have w0 : ∀ f, K.Turn ops f m → ∀ j, j < m → f j = true := fun f ht j hj => early m _ h0s f ht j (memN_iff.1 (List.all_eq_true.1 q0 j (List.mem_range.2 hj)))
  have w1 : ∀ f, K.Turn ops f (m + 2) → ∀ j, j < m + 1 → f j = true := fun f ht j hj => early _ _ h1s f ht j (memN_iff.1 (List.all_eq_true.1 q1 j (List.mem_range.2 hj)))
  have w2 : ∀ f, K.Turn ops f (m + 3) → ∀ j, j < m + 3 → f j = true := fun f ht j hj => early _ _ h2s f ht j (memN_iff.1 (List.all_eq_true.1 q2 j (List.mem_range.2 hj)))
  refine reg_any hm hk (fun f a w => ((∃ i, i < m ∧ f i = false) ∧ f m = false ∧ f (m + 2) = false ∧ f (m + 3) = false ∧ I f a w) ∨ ∃ s, s ≤ 3 ∧ (f (m + 1) = false → s ≤ 2) ∧ (∀ i, i < m → f i = true) ∧ f m = decide (0 < s) ∧ f (m + 2) = decide (1 < s) ∧ f (m + 3) = decide (2 < s) ∧ WX P ops Q s0 s1 s2 fl (f (m + 1)) s a w) ?_ ?_ ?_
  · exact .inl ⟨⟨0, hm0, rfl⟩, rfl, rfl, rfl, h0⟩
  · rintro i o ho f a w ht (⟨⟨j, hj, hfj⟩, f0, f1, f2, hI⟩ | ⟨s, hs3, hs2, hP, f0, f1, f2, hW⟩) K' hK'
    · have hi4 : i < m + 4 := by rw [← hsz]; exact (Array.getElem?_eq_some_iff.1 ho).1
      have him : i < m ∨ i = m + 1 := by
        apply Decidable.byContradiction
        intro h
        have hc : i = m ∨ i = m + 2 ∨ i = m + 3 := by omega
        rcases hc with rfl | rfl | rfl
        · have := w0 f ht j hj; rw [hfj] at this; cases this
        · have := w1 f ht j (by omega); rw [hfj] at this; cases this
        · have := w2 f ht j (by omega); rw [hfj] at this; cases this
      have hne : i ≠ m ∧ i ≠ m + 2 ∧ i ≠ m + 3 := by omega
      have u0 : K.up f i m = false := by unfold K.up; rw [if_neg (fun e => hne.1 e.symm)]; exact f0
      have u1 : K.up f i (m + 2) = false := by unfold K.up; rw [if_neg (fun e => hne.2.1 e.symm)]; exact f1
      have u2 : K.up f i (m + 3) = false := by unfold K.up; rw [if_neg (fun e => hne.2.2 e.symm)]; exact f2
      refine good i o him ho f a w ht f0 f1 f2 hI K' fun a' w' hI' => hK' a' w' ?_
      by_cases hd : ∃ q, q < m ∧ K.up f i q = false
      · exact .inl ⟨hd, u0, u1, u2, hI'⟩
      · have hall : ∀ q, q < m → K.up f i q = true := fun q hq => by
          cases h : K.up f i q with
          | true => rfl
          | false => exact absurd ⟨q, hq, h⟩ hd
        refine .inr ⟨0, by omega, fun _ => by omega, hall, by rw [u0]; rfl, by rw [u1]; rfl, by rw [u2]; rfl, rest _ _ _ (fun s o' hs' hf' j' hj' => ?_) hall u0 u1 u2 hI'⟩
        unfold K.up at hf' ⊢
        split at hf'
        · rename_i e
          subst e
          split
          · rfl
          · exact ht.early o' hs' j' (List.contains_iff_mem.2 hj')
        · split
          · rfl
          · exact ht.shut s o' hs' hf' j' hj'
    · have hi4 : i < m + 4 := by rw [← hsz]; exact (Array.getElem?_eq_some_iff.1 ho).1
      have hfi := ht.self
      have him : m ≤ i := by
        apply Decidable.byContradiction
        intro h
        have := hP i (by omega)
        rw [hfi] at this; cases this
      have upP : ∀ q, q < m → K.up f i q = true := fun q hq => by unfold K.up; rw [if_neg (by omega)]; exact hP q hq
      have hc : i = m ∨ i = m + 1 ∨ i = m + 2 ∨ i = m + 3 := by omega
      have upn : ∀ j, j ≠ i → K.up f i j = f j := fun j hj => by unfold K.up; rw [if_neg hj]
      have upi : K.up f i i = true := by unfold K.up; rw [if_pos rfl]
      rcases hc with rfl | rfl | rfl | rfl
      · -- the first of the end
        rw [hfi] at f0
        have hs0 : s = 0 := by have := f0.symm; simp at this; omega
        subst hs0
        obtain rfl : s0 = o := by rw [h0s] at ho; exact Option.some.inj ho
        cases hfd : f (i + 1) with
        | true =>
          rw [hfd] at hW
          exact wpList_snoc hW fun a' w' h => hK' a' w' (.inr ⟨1, by omega, fun e => by omega, upP, by rw [upi]; rfl, by rw [upn _ (by omega), f1]; rfl, by rw [upn _ (by omega), f2]; rfl, by rw [upn _ (by omega), hfd]; exact h⟩)
        | false =>
          rw [hfd] at hW
          refine wpList_mono hW.2 fun a' w' h => hK' a' w' (.inr ⟨1, by omega, fun e => by omega, upP, by rw [upi]; rfl, by rw [upn _ (by omega), f1]; rfl, by rw [upn _ (by omega), f2]; rfl, by rw [upn _ (by omega), hfd]; exact h⟩)
      · -- the one that comes early or late
        obtain rfl : fl = o := by rw [hfs] at ho; exact Option.some.inj ho
        have hs2 := hs2 hfi
        rw [hfi] at hW
        have hh : wpList P ops (Exit.then (WX P ops Q s0 s1 s2 fl true s) Q) [fl] a w := by
          match s, hs2, hW with
          | 0, _, hW => exact wpList_snoc hW.1 fun a' w' h => h
          | 1, _, hW => exact wpList_snoc hW.1 fun a' w' h => h
          | 2, _, hW => exact wpList_snoc hW fun a' w' h => h
        exact wpList_mono hh fun a' w' h => hK' a' w' (.inr ⟨s, hs3, fun (e : K.up f (m + 1) (m + 1) = false) => absurd (upi.symm.trans e) (by simp), upP, by rw [upn _ (by omega), f0], by rw [upn _ (by omega), f1], by rw [upn _ (by omega), f2], by rw [upi]; exact h⟩)
      · -- the second of the end
        rw [hfi] at f1
        have hfm := w1 f ht m (by omega)
        rw [hfm] at f0
        have hs1 : s = 1 := by simp at f0 f1; omega
        subst hs1
        obtain rfl : s1 = o := by rw [h1s] at ho; exact Option.some.inj ho
        cases hfd : f (m + 1) with
        | true =>
          rw [hfd] at hW
          exact wpList_snoc hW fun a' w' h => hK' a' w' (.inr ⟨2, by omega, fun e => by omega, upP, by rw [upn _ (by omega), hfm]; rfl, by rw [upi]; rfl, by rw [upn _ (by omega), f2]; rfl, by rw [upn _ (by omega), hfd]; exact h⟩)
        | false =>
          rw [hfd] at hW
          exact wpList_mono hW.2 fun a' w' h => hK' a' w' (.inr ⟨2, by omega, fun e => by omega, upP, by rw [upn _ (by omega), hfm]; rfl, by rw [upi]; rfl, by rw [upn _ (by omega), f2]; rfl, by rw [upn _ (by omega), hfd]; exact h⟩)
      · -- the last one
        have hfm := w2 f ht m (by omega)
        have hfm1 := w2 f ht (m + 1) (by omega)
        have hfm2 := w2 f ht (m + 2) (by omega)
        rw [hfm] at f0; rw [hfm2] at f1; rw [hfi] at f2
        have hs1 : s = 2 := by simp at f1 f2; omega
        subst hs1
        obtain rfl : s2 = o := by rw [h2s] at ho; exact Option.some.inj ho
        rw [hfm1] at hW
        exact wpList_snoc hW fun a' w' h => hK' a' w' (.inr ⟨3, by omega, fun (e : K.up f (m + 3) (m + 1) = false) => absurd (hfm1.symm.trans ((upn (m + 1) (by omega)).symm.trans e)) (by simp), upP, by rw [upn _ (by omega), hfm]; rfl, by rw [upn _ (by omega), hfm2]; rfl, by rw [upi]; rfl, by rw [upn _ (by omega), hfm1]; exact h⟩)
  · rintro f a w hf (⟨⟨j, hj, hfj⟩, _⟩ | ⟨s, h1, h2, h3, h4, h5, h6, h7⟩)
    · have := hf j (by omega)
      rw [hfj] at this; cases this
    · have hx := hf (m + 3) (by omega)
      rw [hx] at h6
      have : s = 3 := by have := h6.symm; simp at this; omega
      subst this
      rw [hf (m + 1) (by omega)] at h7
      exact h7
theorem fX_lt {m i : Nat} {fd : Bool} (h : i < m) : fX m fd i = true := by
  unfold fX
  rw [show Nat.blt i m = true by rw [Nat.blt_eq]; exact h]
theorem fX_m {m : Nat} {fd : Bool} : fX m fd m = false := by
  unfold fX
  rw [show Nat.blt m m = false by rw [Bool.eq_false_iff, ne_eq, Nat.blt_eq]; omega, show Nat.beq m m = true from Nat.beq_refl m]
theorem fX_s {m : Nat} {fd : Bool} : fX m fd (m + 1) = fd := by
  unfold fX
  rw [show Nat.blt (m + 1) m = false by rw [Bool.eq_false_iff, ne_eq, Nat.blt_eq]; omega, show Nat.beq (m + 1) m = false by rw [Bool.eq_false_iff, ne_eq, Nat.beq_eq]; omega]
theorem aw_dregX {P : Program} {rs : List ARes} {l0 : List AOper} {cl : List (List Nat)} {todo : List AItem} {tm : List AV} {hs : List AObj} {post : AV → List AObj → Prop} (hm : P.follows .mixedOrders = true) (m n : Nat) (ov : List (Nat × OpD)) {q0 q1 q2 qf : AOper} (hq0 : l0[m]? = some q0) (hqf : l0[m + 1]? = some qf) (hq1 : l0[m + 2]? = some q1) (hq2 : l0[m + 3]? = some q2) (hml : Nat.beq l0.length (m + 4) = true) (hm0 : Nat.blt 0 m = true) (hlast : lastX cl m = true) (hchk : chkR cl (tkO (m + 2) l0) (mkR ov 0 (tkO (m + 2) l0) tm hs) (lenO hs) n = true)
    (hops : AllX P rs (tkO (m + 2) l0) cl (mkR ov 0 (tkO (m + 2) l0) tm hs) tm hs n m 0 (tkO (m + 2) l0) (tkN (m + 2) cl) (mkR ov 0 (tkO (m + 2) l0) tm hs))
    (hA : AW P rs (.ops [q0, q1, q2] :: todo) (setDs (tkO (m + 2) l0) (mask (fX m true) 0 (mkR ov 0 (tkO (m + 2) l0) tm hs)) tm) (endO (mask (fX m true) 0 (mkR ov 0 (tkO (m + 2) l0) tm hs)) (catD hs (deads (n - lenO hs)))) post)
    (hB : AW P rs (.ops [qf, q0, q1, q2] :: todo) (setDs (tkO (m + 2) l0) (mask (fX m false) 0 (mkR ov 0 (tkO (m + 2) l0) tm hs)) tm) (endO (mask (fX m false) 0 (mkR ov 0 (tkO (m + 2) l0) tm hs)) (catD hs (deads (n - lenO hs)))) post)
    (hC : AW P rs [.ops [q0], .again fun tm' hs' => AW P rs (.ops [qf, q1, q2] :: todo) tm' hs' post ∧ AW P rs [.ops [q1], .again fun tm' hs' => AW P rs (.ops [qf, q2] :: todo) tm' hs' post] tm' hs' (fun _ _ => False)] (setDs (tkO (m + 2) l0) (mask (fX m false) 0 (mkR ov 0 (tkO (m + 2) l0) tm hs)) tm) (endO (mask (fX m false) 0 (mkR ov 0 (tkO (m + 2) l0) tm hs)) (catD hs (deads (n - lenO hs)))) (fun _ _ => False)) : ADreg P rs l0 cl todo tm hs post := by
  generalize mkR ov 0 (tkO (m + 2) l0) tm hs = R at *
  rw [tkO_eq, tkN_eq] at hops
  rw [tkO_eq] at hchk hA hB hC
  have hml : l0.length = m + 4 := Nat.eq_of_beq_eq_true hml
  have hm0 : 0 < m := by rwa [Nat.blt_eq] at hm0
  have hll : (l0.take (m + 2)).length = m + 2 := by rw [List.length_take]; omega
  have hl2 : ∀ i, i < m + 2 → (l0.take (m + 2))[i]? = l0[i]? := fun i hi => List.getElem?_take_of_lt hi
  have hc2 : ∀ i, i < m + 2 → (cl.take (m + 2))[i]? = cl[i]? := fun i hi => List.getElem?_take_of_lt hi
  generalize hl0 : l0.take (m + 2) = l at *
  intro fn hrs E mt hi gs Pr a w C
  cases mt with
  | nil => exact hi.elim
  | cons y mt =>
    obtain ⟨h1, h2⟩ := hi
    cases y <;> simp only [IRel] at h1
    rename_i c'
    obtain ⟨id, ops, rfl, hl, hk, hcl⟩ := cCode_inv h1
    show (Code.region id ops true).wp P (kont P (bodyPost P fn (Rfin E post)) mt) a w
    have hlen := AllX_len hops
    have hsz0 : l0.length = ops.size := by rw [cOpers_len hl]; simp
    have hop : ∀ (i : Nat) (q : AOper), l0[i]? = some q → ∃ o, ops[i]? = some o ∧ cOper P ops o = some q := fun i q hq => by
      have hi : i < ops.size := by have := (List.getElem?_eq_some_iff.1 hq).1; omega
      obtain ⟨q', hq', hqo⟩ := cOpers_at hl (i := i) (o := ops[i]) (by simp [hi])
      rw [hq] at hq'
      exact ⟨ops[i], Array.getElem?_eq_getElem hi, by rw [Option.some.inj hq']; exact hqo⟩
    obtain ⟨o0, e0, c0⟩ := hop _ _ hq0
    obtain ⟨of, ef, cf⟩ := hop _ _ hqf
    obtain ⟨o1, e1, c1⟩ := hop _ _ hq1
    obtain ⟨o2, e2, c2⟩ := hop _ _ hq2
    refine reg_X hm hk m e0 e1 e2 ef (by omega) (by rw [← hcl]; exact hlast) (fun f a w => ∃ gs Pr, RI E l R tm hs gs Pr f a w) ?_ hm0 ?_ ?_
    · -- at the start
      have hobj : ∀ k, objF (fun _ => false) 0 R (getO hs) k = getO hs k := fun k => objF_none R 0 _ (fun _ _ _ _ => rfl)
      have hD : ∀ k, Df R (lenO hs) (fun _ => false) k → k < lenO hs := fun k hk => by
        rcases hk with hk | ⟨_, _, _, hf, _⟩
        · exact hk
        · cases hf
      have hD' : ∀ k, dom hs k → Df R (lenO hs) (fun _ => false) k := fun k hk => .inl hk
      have hd : w.drew.heap = w.heap := rfl
      refine ⟨gs, Pr, ⟨fun k hk => ?_, fun x y hx hy lx ly e => ?_, fun k hk hl => ?_, fun b hb => C.rep.pr b hb, GlobOK.mono (w := w) (fun _ h => h) (fun _ _ => rfl) C.rep.gl⟩, C.size, fun t => ?_, C.dfs, ⟨C.kp.os, C.kp.tape, C.kp.output, C.kp.size, C.kp.block⟩, C.p0, C.pm, C.agree, C.len0, fun k hk hg => ?_⟩
      · rw [hobj]
        exact ObjOK.mono (w := w) (w' := w.drew) hD' (fun _ _ => rfl) (fun _ h => h) (fun _ _ => rfl) (C.rep.obj k (hD k hk)) (fun _ => rfl)
      · rw [hobj] at lx ly
        exact C.rep.inj x y (hD x hx) (hD y hy) lx ly e
      · rw [hobj] at hl
        exact C.rep.mine k (hD k hk) hl
      · have : tmF (fun _ => false) l R tm t = getL tm t := by
          unfold tmF
          split <;> rfl
        rw [this]
        exact Cz.mono (w := w) (w' := w.drew) hD' (fun _ _ => rfl) (fun _ h => h) (fun _ _ => rfl) (C.tms t)
      · rw [hobj] at hg
        exact C.kind k hk hg
    · -- one more
      rintro i o him ho f a w ht _ _ _ ⟨gs, Pr, RC⟩
      have hi : i < ops.size := (Array.getElem?_eq_some_iff.1 ho).1
      obtain rfl : ops[i] = o := by rw [Array.getElem?_eq_getElem hi] at ho; injection ho
      obtain ⟨q, hq, hqo⟩ := cOpers_at hl (i := i) (o := ops[i]) (by simp [hi])
      have hq : l[i]? = some q := by rw [hl2 i (by omega)]; exact hq
      obtain ⟨c, d, hc, hd, hOp⟩ := AllX_get hops hq
      rw [Nat.zero_add] at hOp
      have hOp := hOp (by rw [Bool.eq_false_iff, ne_eq, Nat.beq_eq]; omega)
      have hcD : cl.getD i [] = c := by rw [hc2 i (by omega)] at hc; rw [List.getD_eq_getElem?_getD, hc]; rfl
      have T : Tn cl l.length f i := by
        refine ⟨ht.self, fun j hj => ?_, fun j hj hij => ?_⟩
        · rw [hcl] at hj
          exact cls_sound hk ht.shut i _ ho (fun j hj => ht.early _ ho j (List.contains_iff_mem.2 hj)) j hj
        · cases hf : f j with
          | false => rfl
          | true =>
            rw [hcl] at hij
            have hj' : j < ops.size := by omega
            have hoj : ops[j]? = some ops[j] := Array.getElem?_eq_getElem hj'
            have := cls_sound hk ht.shut j _ hoj (fun q hq => ht.shut j _ hoj hf q hq) i hij
            rw [ht.self] at this; cases this
      intro K' hK'
      have CC := ri_pre hchk hlen hq hd T RC
      subst hcD
      have run := hOp fn hrs (envOf gs Pr w (preO R hs n (cl.getD i []) d)) [.ops ops [ops[i]], .again fun a' w' => ∃ gs1 Pr1 tm' hs', Conc (envOf gs Pr w (preO R hs n (cl.getD i []) d)) gs1 Pr1 tm' hs' a' w' ∧ JR (sig (lenO hs) n (visN R (cl.getD i [])) (preO R hs n (cl.getD i []) d) d) (preO R hs n (cl.getD i []) d) d q.dst tm' hs']
        ⟨by show cOpers P ops [ops[i]] = some [q]; simp [cOpers, hqo], fun gs1 Pr1 tm' hs' a' w' h1 h2 => ⟨gs1, Pr1, tm', hs', h1, h2⟩, trivial⟩ gs Pr a w CC
      have run : wpList P ops (kont P (bodyPost P fn (Rfin (envOf gs Pr w (preO R hs n (cl.getD i []) d)) fun _ _ => False)) [.again fun a' w' => ∃ gs1 Pr1 tm' hs', Conc (envOf gs Pr w (preO R hs n (cl.getD i []) d)) gs1 Pr1 tm' hs' a' w' ∧ JR (sig (lenO hs) n (visN R (cl.getD i [])) (preO R hs n (cl.getD i []) d) d) (preO R hs n (cl.getD i []) d) d q.dst tm' hs']) [ops[i]] a w := run
      refine one_op (fun e a w he h => ?_) (fun a w h => h) run (fun a' w' u ⟨gs1, Pr1, tm', hs', h1, h2⟩ h3 => ?_)
      · skip
        have no' : ∀ E' : Env, ∀ e w, ¬ Rfin E' (fun _ _ => False) e w := fun E' e w ⟨_, _, _, _, _, _, h, _⟩ => h
        cases e with
        | normal => exact he rfl
        | ret => simp only [kont, bodyPost] at h; obtain ⟨_, v, _, h⟩ := h; exact no' _ _ _ h
        | panic c => simp only [kont, bodyPost] at h; exact no' _ _ _ h.2
        | outgrown => simp only [kont, bodyPost] at h; exact no' _ _ _ h
        | _ => simp only [kont, bodyPost] at h
      · obtain ⟨gs2, hR⟩ := ri_step hchk hlen hq hd T RC h1 h2 (by rw [cOper_dst hqo]; exact h3)
        exact hK' a' w' ⟨gs2, Pr1, hR⟩
    · -- at the end
      rintro F a w hsh hfall fm f2 f3 ⟨gs, Pr, RC⟩
      have hclo : ∀ (i : Nat) d, R[i]? = some d → F i = true → ∀ j ∈ cl.getD i [], F j = true := fun i d hd hf j hj => by
        have hi : i < ops.size := by have := (List.getElem?_eq_some_iff.1 hd).1; omega
        rw [hcl] at hj
        exact cls_sound hk hsh i _ (Array.getElem?_eq_getElem hi) (fun q hq => hsh i _ (Array.getElem?_eq_getElem hi) hf q hq) j hj
      have fin := ri_end hchk hclo RC
      have hmask : mask F 0 R = mask (fX m (F (m + 1))) 0 R := mask_congr R 0 fun i hi => by
        rw [Nat.zero_add]
        have : i < m ∨ i = m ∨ i = m + 1 := by omega
        rcases this with h | h | h
        · rw [hfall i h, fX_lt h]
        · subst h; rw [fm, fX_m]
        · subst h; rw [fX_s]
      rw [hmask] at fin
      have no' : ∀ (e : Exit) (mt : List MItem) (J : Act → World → Prop) a w, e ≠ .normal → ¬ kont P (bodyPost P fn (Rfin E fun _ _ => False)) [.again J] e a w := fun e mt J a w he h => by
        have no' : ∀ E' : Env, ∀ e w, ¬ Rfin E' (fun _ _ => False) e w := fun E' e w ⟨_, _, _, _, _, _, h, _⟩ => h
        cases e with
        | normal => exact he rfl
        | ret => simp only [kont, bodyPost] at h; obtain ⟨_, v, _, h⟩ := h; exact no' _ _ _ h
        | panic c => simp only [kont, bodyPost] at h; exact no' _ _ _ h.2
        | outgrown => simp only [kont, bodyPost] at h; exact no' _ _ _ h
        | _ => simp only [kont, bodyPost] at h
      cases hfd : F (m + 1) with
      | true =>
        rw [hfd] at fin
        have r := hA fn hrs E (.ops ops [o0, o1, o2] :: mt) ⟨by show cOpers P ops [o0, o1, o2] = some [q0, q1, q2]; simp [cOpers, c0, c1, c2], h2⟩ gs Pr a w fin
        show wpList P ops (kont P (bodyPost P fn (Rfin E post)) mt) [o0, o1, o2] a w
        simpa [kont] using r
      | false =>
        rw [hfd] at fin
        refine ⟨?_, ?_⟩
        · have r := hB fn hrs E (.ops ops [of, o0, o1, o2] :: mt) ⟨by show cOpers P ops [of, o0, o1, o2] = some [qf, q0, q1, q2]; simp [cOpers, c0, c1, c2, cf], h2⟩ gs Pr a w fin
          simpa [kont] using r
        · have r := hC fn hrs E [.ops ops [o0], .again fun a' w' => ∃ gs1 Pr1 tm' hs', Conc E gs1 Pr1 tm' hs' a' w' ∧ (AW P rs (.ops [qf, q1, q2] :: todo) tm' hs' post ∧ AW P rs [.ops [q1], .again fun tm' hs' => AW P rs (.ops [qf, q2] :: todo) tm' hs' post] tm' hs' (fun _ _ => False))]
            ⟨by show cOpers P ops [o0] = some [q0]; simp [cOpers, c0], fun gs1 Pr1 tm' hs' a' w' h1 h2 => ⟨gs1, Pr1, tm', hs', h1, h2⟩, trivial⟩ gs Pr a w fin
          have r : wpList P ops (kont P (bodyPost P fn (Rfin E fun _ _ => False)) [.again fun a' w' => ∃ gs1 Pr1 tm' hs', Conc E gs1 Pr1 tm' hs' a' w' ∧ (AW P rs (.ops [qf, q1, q2] :: todo) tm' hs' post ∧ AW P rs [.ops [q1], .again fun tm' hs' => AW P rs (.ops [qf, q2] :: todo) tm' hs' post] tm' hs' (fun _ _ => False))]) [o0] a w := r
          refine one_op (fun e a w he h => no' e mt _ a w he h) (fun a w h => h) r (fun a' w' u ⟨gs1, Pr1, tm', hs', k1, k2, k3⟩ _ => ⟨?_, ?_⟩)
          · have r := k2 fn hrs E (.ops ops [of, o1, o2] :: mt) ⟨by show cOpers P ops [of, o1, o2] = some [qf, q1, q2]; simp [cOpers, c1, c2, cf], h2⟩ gs1 Pr1 a' w' k1
            simpa [kont] using r
          · have r := k3 fn hrs E [.ops ops [o1], .again fun a' w' => ∃ gs1 Pr1 tm' hs', Conc E gs1 Pr1 tm' hs' a' w' ∧ AW P rs (.ops [qf, q2] :: todo) tm' hs' post]
              ⟨by show cOpers P ops [o1] = some [q1]; simp [cOpers, c1], fun gs1 Pr1 tm' hs' a' w' h1 h2 => ⟨gs1, Pr1, tm', hs', h1, h2⟩, trivial⟩ gs1 Pr1 a' w' k1
            have r : wpList P ops (kont P (bodyPost P fn (Rfin E fun _ _ => False)) [.again fun a' w' => ∃ gs1 Pr1 tm' hs', Conc E gs1 Pr1 tm' hs' a' w' ∧ AW P rs (.ops [qf, q2] :: todo) tm' hs' post]) [o1] a' w' := r
            refine one_op (fun e a w he h => no' e mt _ a w he h) (fun a w h => h) r (fun a' w' u ⟨gs1, Pr1, tm', hs', k1, k2⟩ _ => ?_)
            have r := k2 fn hrs E (.ops ops [of, o2] :: mt) ⟨by show cOpers P ops [of, o2] = some [qf, q2]; simp [cOpers, c2, cf], h2⟩ gs1 Pr1 a' w' k1
            simpa [kont] using r
end Go.Proofs.YtlnafekmiidpkaaDoor.S
