/- A region of open order: what is needed of lists and of what waits for what. -/
import Derived.Test.YtlnafekmiidpkaaDoorS21
namespace Go.Proofs.YtlnafekmiidpkaaDoor.S
set_option linter.all false
set_option linter.unusedVariables false
set_option linter.unusedSimpArgs false
theorem memN_iff : ∀ {l : List Nat} {k : Nat}, memN l k = true ↔ k ∈ l
  | [], k => by simp [memN]
  | x :: l, k => by
    simp only [memN]
    split
    · rename_i e; rw [Nat.eq_of_beq_eq_true e]; simp
    · rename_i e
      have : ¬ k = x := fun e' => by rw [e'] at e; simp at e
      rw [memN_iff, List.mem_cons]; simp [this]
theorem mem_addN {x k : Nat} {l : List Nat} (h : k ∈ addN x l) : k = x ∨ k ∈ l := by
  unfold addN at h
  split at h
  · exact .inr h
  · exact List.mem_cons.1 h
theorem mem_mrgN {k : Nat} : ∀ {m l : List Nat}, k ∈ mrgN m l → k ∈ m ∨ k ∈ l
  | [], l, h => .inr h
  | x :: m, l, h => by
    rcases mem_addN h with rfl | h
    · exact .inl (by simp)
    · rcases mem_mrgN h with h | h
      · exact .inl (by simp [h])
      · exact .inr h
theorem mem_unisN {k : Nat} : ∀ {ns : List Nat} {acc : List (List Nat)}, k ∈ unisN ns acc → ∃ j ∈ ns, k = j ∨ k ∈ acc.getD j []
  | [], acc, h => by simp [unisN] at h
  | j :: ns, acc, h => by
    rcases mem_addN h with rfl | h
    · exact ⟨k, by simp, .inl rfl⟩
    · rcases mem_mrgN h with h | h
      · exact ⟨j, by simp, .inr h⟩
      · obtain ⟨q, h1, h2⟩ := mem_unisN h
        exact ⟨q, by simp [h1], h2⟩
theorem clsGo_at : ∀ (nd acc : List (List Nat)), (clsGo acc nd).take acc.length = acc ∧ ∀ k ns, nd[k]? = some ns → (clsGo acc nd)[acc.length + k]? = some (unisN ns ((clsGo acc nd).take (acc.length + k)))
  | [], acc => ⟨by simp [clsGo], fun k ns h => by simp at h⟩
  | ns :: nd, acc => by
    obtain ⟨h1, h2⟩ := clsGo_at nd (acc ++ [unisN ns acc])
    simp only [List.length_append, List.length_singleton] at h1 h2
    have e : clsGo acc (ns :: nd) = clsGo (acc ++ [unisN ns acc]) nd := rfl
    rw [e]
    have h3 : (clsGo (acc ++ [unisN ns acc]) nd).take acc.length = acc := by
      have := congrArg (List.take acc.length) h1
      rw [List.take_take, Nat.min_eq_left (by omega), List.take_left'] at this
      · exact this
      · rfl
    refine ⟨h3, fun k ms hk => ?_⟩
    cases k with
    | zero =>
      simp only [List.getElem?_cons_zero, Option.some.injEq] at hk
      subst hk
      rw [Nat.add_zero, h3]
      have := congrArg (fun l => l[acc.length]?) h1
      simp only [List.getElem?_append_right (Nat.le_refl _), Nat.sub_self, List.getElem?_cons_zero] at this
      rw [List.getElem?_take_of_lt (by omega)] at this
      exact this
    | succ k =>
      have := h2 k ms (by simpa using hk)
      rw [show acc.length + (k + 1) = acc.length + 1 + k by omega]
      exact this
theorem reg_lt {ops : Array Oper} (hk : needsLt ops = true) (i : Nat) (o : Oper) (ho : ops[i]? = some o) : ∀ j ∈ K.needs o, j < i := by
  intro j hj
  simp only [needsLt, List.all_eq_true, List.mem_range] at hk
  have := hk i (Array.getElem?_eq_some_iff.1 ho).1
  rw [ho] at this
  simp only [List.all_eq_true] at this
  exact Nat.le_of_ble_eq_true (this j hj)
/-- A region of open order: what holds by what was done. -/
theorem reg_any {P : Program} {ops : Array Oper} {Q : Exit → Act → World → Prop} {id : Nat} {a : Act} {w : World} (hm : P.follows .mixedOrders = true) (hk : needsLt ops = true) (I : (Nat → Bool) → Act → World → Prop) (h0 : I (fun _ => false) a w.drew)
    (good : ∀ i o, ops[i]? = some o → ∀ f a w, K.Turn ops f i → I f a w → ∀ K' : Act → World → Prop, (∀ a' w', I (K.up f i) a' w' → K' a' w') → wpList P ops (Exit.then K' Q) [o] a w)
    (rest : ∀ f a w, (∀ i, i < ops.size → f i = true) → I f a w → Q .normal a w) : (Code.region id ops true).wp P Q a w := by
  have key : ∀ (left : Nat) (listed : Array Bool) (a : Act) (w : World), listed.size = ops.size → ((List.range ops.size).filter fun i => !listed.getD i true).length = left → K.Shut ops (K.fOf listed) → I (K.fOf listed) a w → wpAny P .any ops Q left listed a w := by
    intro left
    induction left with
    | zero =>
      intro listed a w hsz hleft hsh hI
      have hall : ∀ i, i < ops.size → K.fOf listed i = true := by
        intro i hi
        have h0 : ((List.range ops.size).filter fun i => !listed.getD i true) = [] := List.eq_nil_of_length_eq_zero hleft
        have h1 := List.filter_eq_nil_iff.1 h0 i (List.mem_range.2 hi)
        have hlt : i < listed.size := by omega
        unfold K.fOf
        simp [Array.getD, hlt] at h1 ⊢
        exact h1
      refine ⟨?_, rest _ a w hall hI⟩
      refine List.eq_nil_iff_forall_not_mem.2 fun i hi => ?_
      rw [mem_ready] at hi
      obtain ⟨h1, o, ho, _⟩ := hi
      have hlt := (Array.getElem?_eq_some_iff.1 ho).1
      have h2 := hall i hlt
      have hl : i < listed.size := by omega
      unfold K.fOf at h2
      simp [Array.getD, hl] at h1 h2
      rw [h1] at h2; cases h2
    | succ left ih =>
      intro listed a w hsz hleft hsh hI
      have hsome : ∃ i, i < ops.size ∧ listed.getD i true = false := by
        have h0 : ((List.range ops.size).filter fun i => !listed.getD i true) ≠ [] := fun h => by rw [h] at hleft; simp at hleft
        obtain ⟨i, hi⟩ := List.exists_mem_of_ne_nil _ h0
        simp at hi
        exact ⟨i, hi.1, by simpa using hi.2⟩
      refine ⟨fun hre => ?_, fun i hi => ?_⟩
      · exfalso
        obtain ⟨i, ⟨hlt, hif⟩, hleast⟩ := K.exists_least hsome
        have : i ∈ Region.ready .any ops listed := by
          rw [mem_ready]
          refine ⟨hif, ops[i], Array.getElem?_eq_getElem hlt, fun e he hb => ?_⟩
          have hej : e.on ∈ K.needs ops[i] := by
            simp only [K.needs, List.mem_map, List.mem_filter]
            exact ⟨e, ⟨by simpa using he, hb⟩, rfl⟩
          have hlt2 := reg_lt hk i _ (Array.getElem?_eq_getElem hlt) _ hej
          cases hq : listed.getD e.on true with
          | false => have := hleast e.on ⟨by omega, hq⟩; omega
          | true =>
            have hl : e.on < listed.size := by omega
            simp [Array.getD, hl] at hq ⊢
            exact hq
        rw [hre] at this
        cases this
      · rw [mem_ready] at hi
        obtain ⟨h1, o, ho, hr⟩ := hi
        have hlt := (Array.getElem?_eq_some_iff.1 ho).1
        have hil : i < listed.size := by omega
        have hself : K.fOf listed i = false := by
          unfold K.fOf
          simp [Array.getD, hil] at h1 ⊢
          exact h1
        have hearly : ∀ j, (K.needs o).contains j = true → K.fOf listed j = true := fun j hj => K.needs_mem hj hr
        have hturn : K.Turn ops (K.fOf listed) i := by
          refine ⟨hself, fun s p hp hn => ?_, fun p hp j hj => ?_, hsh⟩
          · cases hq : K.fOf listed s with
            | false => rfl
            | true =>
              have := hsh s p hp hq i (List.contains_iff_mem.1 hn)
              rw [hself] at this
              cases this
          · rw [ho] at hp
            injection hp with hp
            subst hp
            exact hearly j hj
        refine K.op_of_list ho (good i o ho _ a w hturn hI _ fun a' w' hI' => ih _ a' w' (by simpa using hsz) ?_ ?_ (by rw [K.fOf_set hil]; exact hI'))
        · have e1 : ((List.range ops.size).filter fun j => !(listed.setIfInBounds i true).getD j true) = ((List.range ops.size).filter fun j => !listed.getD j true).erase i := by
            rw [List.Nodup.erase_eq_filter (List.nodup_range.filter _), List.filter_filter]
            refine List.filter_congr (fun j _ => ?_)
            by_cases hij : i = j
            · subst hij
              simp [Array.getD, hil]
            · rw [getD_set_ne true hij]
              have : (j != i) = true := by simpa using fun h => hij h.symm
              rw [this, Bool.true_and]
          rw [e1, List.length_erase_of_mem (List.mem_filter.2 ⟨List.mem_range.2 hlt, by rw [h1]; rfl⟩), hleft]
          rfl
        · rw [K.fOf_set hil]
          intro s p hp hs j hj
          unfold K.up at hs ⊢
          by_cases hsi : s = i
          · subst hsi
            rw [ho] at hp
            injection hp with hp
            subst hp
            have := hearly j (List.contains_iff_mem.2 hj)
            split
            · rfl
            · exact this
          · rw [if_neg hsi] at hs
            have := hsh s p hp hs j hj
            split
            · rfl
            · exact this
  refine wp_region_any hm ?_
  have hf0 : K.fOf (Array.replicate ops.size false) = fun _ => false := by
    funext j
    unfold K.fOf
    by_cases h : j < ops.size <;> simp [Array.getD, h]
  exact key ops.size _ a _ (by simp) (by
    rw [List.filter_eq_self.2 (fun i hi => ?_), List.length_range]
    have := List.mem_range.1 hi
    simp [Array.getD, this]) (by rw [hf0]; intro s o _ h; cases h) (by rw [hf0]; exact h0)
theorem cls_sound {ops : Array Oper} (hk : needsLt ops = true) {f : Nat → Bool} (hs : K.Shut ops f) : ∀ (i : Nat) (o : Oper), ops[i]? = some o → (∀ j ∈ K.needs o, f j = true) → ∀ j ∈ (clsGo [] (ops.toList.map K.needs)).getD i [], f j = true := by
  intro i
  induction i using Nat.strongRecOn with
  | _ i ih =>
    intro o ho hn j hj
    have := (clsGo_at (ops.toList.map K.needs) []).2 i (K.needs o) (by simp [ho])
    simp only [List.length_nil, Nat.zero_add] at this
    rw [List.getD_eq_getElem?_getD, this] at hj
    obtain ⟨q, h1, h2⟩ := mem_unisN (show j ∈ unisN _ _ from hj)
    have hq := reg_lt hk i o ho q h1
    rcases h2 with rfl | h2
    · exact hn _ h1
    · rw [List.getD_eq_getElem?_getD, List.getElem?_take_of_lt hq, ← List.getD_eq_getElem?_getD] at h2
      have hi : i < ops.size := (Array.getElem?_eq_some_iff.1 ho).1
      have hoq : ops[q]? = some ops[q] := Array.getElem?_eq_getElem (by omega)
      exact ih q hq ops[q] hoq (fun j hj => hs q _ hoq (hn q h1) j hj) j h2
/- objects -/
theorem touchB_eq {d : OpD} {k : Nat} : touchB d k = false → ∀ h, updD d h k = h k := by
  intro ht h
  unfold touchB at ht
  unfold updD
  split at ht
  · cases ht
  · rfl
theorem objF_ext {f g : Nat → Bool} {k : Nat} : ∀ (R : List OpD) (s : Nat) (h h' : Nat → AObj), (∀ j d, R[j]? = some d → touchB d k = true → f (s + j) = g (s + j)) → h k = h' k → objF f s R h k = objF g s R h' k
  | [], s, h, h', _, e => e
  | d :: R, s, h, h', hf, e => by
    simp only [objF]
    refine objF_ext R (s + 1) _ _ (fun j d' h1 h2 => by rw [show s + 1 + j = s + (j + 1) by omega]; exact hf (j + 1) d' (by simpa using h1) h2) ?_
    cases ht : touchB d k with
    | true =>
      have := hf 0 d rfl ht
      rw [Nat.add_zero] at this
      rw [this]
      cases g s with
      | true =>
        show updD d h k = updD d h' k
        unfold updD
        split
        · rfl
        · exact e
      | false => exact e
    | false => cases f s <;> cases g s <;> simp only [touchB_eq ht] <;> exact e
theorem objF_none {f : Nat → Bool} {k : Nat} : ∀ (R : List OpD) (s : Nat) (h : Nat → AObj), (∀ j d, R[j]? = some d → touchB d k = true → f (s + j) = false) → objF f s R h k = h k
  | [], s, h, _ => rfl
  | d :: R, s, h, hf => by
    simp only [objF]
    rw [objF_none R (s + 1) _ (fun j d' h1 h2 => by rw [show s + 1 + j = s + (j + 1) by omega]; exact hf (j + 1) d' (by simpa using h1) h2)]
    cases ht : touchB d k with
    | true =>
      have := hf 0 d rfl ht
      rw [Nat.add_zero] at this
      rw [this]
    | false => cases f s <;> simp only [touchB_eq ht]
theorem objF_at {f : Nat → Bool} {k : Nat} {o : AObj} {d : OpD} (hn : newO d k = some o) : ∀ (R : List OpD) (i s : Nat) (h : Nat → AObj), R[i]? = some d → f (s + i) = true → (∀ j d', i < j → R[j]? = some d' → touchB d' k = true → f (s + j) = false) → objF f s R h k = o
  | [], i, s, h, hi, _, _ => by simp at hi
  | e :: R, 0, s, h, hi, hf, hl => by
    simp at hi; subst hi
    simp only [objF]
    rw [Nat.add_zero] at hf
    rw [objF_none R (s + 1) _ (fun j d' h1 h2 => by rw [show s + 1 + j = s + (j + 1) by omega]; exact hl (j + 1) d' (by omega) (by simpa using h1) h2), hf]
    simp only [updD, hn]
  | e :: R, i + 1, s, h, hi, hf, hl => by
    simp only [objF]
    exact objF_at hn R i (s + 1) _ (by simpa using hi) (by rw [show s + 1 + i = s + (i + 1) by omega]; exact hf) (fun j d' h1 h2 h3 => by rw [show s + 1 + j = s + (j + 1) by omega]; exact hl (j + 1) d' (by omega) (by simpa using h2) h3)
/- slots -/
theorem wrt_spec {t : Nat} {v : AV} : ∀ {l : List AOper} {R : List OpD} {s j : Nat}, wrt s l R t = some (j, v) → ∃ i q d, j = s + i ∧ l[i]? = some q ∧ R[i]? = some d ∧ q.dst = some t ∧ v = d.v
  | [], R, s, j, h => by simp [wrt] at h
  | q :: l, [], s, j, h => by simp [wrt] at h
  | q :: l, d :: R, s, j, h => by
    have rc : wrt (s + 1) l R t = some (j, v) → ∃ i q' d', j = s + i ∧ (q :: l)[i]? = some q' ∧ (d :: R)[i]? = some d' ∧ q'.dst = some t ∧ v = d'.v := by
      intro h
      obtain ⟨i, q', d', h1, h2, h3, h4⟩ := wrt_spec h
      exact ⟨i + 1, q', d', by omega, by simpa using h2, by simpa using h3, h4⟩
    simp only [wrt] at h
    split at h
    · rename_i s' hs'
      split at h
      · rename_i e
        have e := Nat.eq_of_beq_eq_true e
        simp only [Option.some.injEq, Prod.mk.injEq] at h
        exact ⟨0, q, d, by omega, rfl, rfl, by rw [hs', e], h.2.symm⟩
      · exact rc h
    · exact rc h
theorem dsts_mem {t : Nat} : ∀ {l : List AOper} {i : Nat} {q : AOper}, l[i]? = some q → q.dst = some t → t ∈ dsts l
  | [], i, q, h, _ => by simp at h
  | x :: l, 0, q, h, hd => by simp at h; subst h; simp [dsts, hd]
  | x :: l, i + 1, q, h, hd => by
    have := dsts_mem (l := l) (by simpa using h) hd
    simp only [dsts]
    split <;> simp [this]
theorem dsts_inj {t : Nat} : ∀ {l : List AOper} {i j : Nat} {q q' : AOper}, (dsts l).Nodup → l[i]? = some q → l[j]? = some q' → q.dst = some t → q'.dst = some t → i = j
  | [], i, j, q, q', _, h, _, _, _ => by simp at h
  | x :: l, 0, 0, q, q', _, _, _, _, _ => rfl
  | x :: l, 0, j + 1, q, q', hn, h, h', hd, hd' => by
    simp at h; subst h
    simp only [dsts, hd] at hn
    exact absurd (dsts_mem (l := l) (by simpa using h') hd') (List.nodup_cons.1 hn).1
  | x :: l, i + 1, 0, q, q', hn, h, h', hd, hd' => by
    simp at h'; subst h'
    simp only [dsts, hd'] at hn
    exact absurd (dsts_mem (l := l) (by simpa using h) hd) (List.nodup_cons.1 hn).1
  | x :: l, i + 1, j + 1, q, q', hn, h, h', hd, hd' => by
    have : (dsts l).Nodup := by
      simp only [dsts] at hn
      split at hn
      · exact (List.nodup_cons.1 hn).2
      · exact hn
    have hij := dsts_inj (i := i) (j := j) this (by simpa using h) (by simpa using h') hd hd'
    rw [hij]
theorem wrt_at {t : Nat} : ∀ {l : List AOper} {R : List OpD} {s i : Nat} {q : AOper} {d : OpD}, (dsts l).Nodup → l[i]? = some q → R[i]? = some d → q.dst = some t → wrt s l R t = some (s + i, d.v)
  | [], R, s, i, q, d, _, h, _, _ => by simp at h
  | x :: l, [], s, i, q, d, _, _, h, _ => by simp at h
  | x :: l, y :: R, s, 0, q, d, _, h, h', hd => by
    simp at h h'; subst h; subst h'
    simp [wrt, hd]
  | x :: l, y :: R, s, i + 1, q, d, hn, h, h', hd => by
    have hl : (dsts l).Nodup ∧ x.dst ≠ some t := by
      simp only [dsts] at hn
      split at hn
      · rename_i u hu
        obtain ⟨h1, h2⟩ := List.nodup_cons.1 hn
        refine ⟨h2, fun e => ?_⟩
        rw [hu] at e
        injection e with e
        subst e
        exact h1 (dsts_mem (l := l) (by simpa using h) hd)
      · rename_i hu
        exact ⟨hn, fun e => by rw [hu] at e; cases e⟩
    have := wrt_at (s := s + 1) hl.1 (by simpa using h) (by simpa using h') hd
    simp only [wrt]
    split
    · rename_i u hu
      split
      · rename_i e
        exact absurd (by rw [hu, Nat.eq_of_beq_eq_true e]) hl.2
      · rw [this]; simp; omega
    · rw [this]; simp; omega
/- lists that are filled -/
theorem setTs_len (f : Nat → AV) : ∀ (ts : List Nat) (tm : List AV), (setTs f ts tm).length = tm.length
  | [], tm => rfl
  | t :: ts, tm => by simp [setTs, setL_eq, setTs_len f ts]
theorem setTs_get (f : Nat → AV) : ∀ (ts : List Nat) (tm : List AV) (t : Nat), getL (setTs f ts tm) t = f t ∨ getL (setTs f ts tm) t = getL tm t
  | [], tm, t => .inr rfl
  | s :: ts, tm, t => by
    simp only [setTs]
    by_cases e : s = t
    · subst e
      by_cases h : s < (setTs f ts tm).length
      · left; simp [getL_eq, setL_eq, List.getD_eq_getElem?_getD, h]
      · have h2 : getL (setL (setTs f ts tm) s (f s)) s = getL (setTs f ts tm) s := by
          simp only [getL_eq, setL_eq, List.getD_eq_getElem?_getD]
          rw [List.getElem?_eq_none (by simp; omega), List.getElem?_eq_none (by omega)]
        rw [h2]; exact setTs_get f ts tm s
    · have h2 : getL (setL (setTs f ts tm) s (f s)) t = getL (setTs f ts tm) t := by
        simp only [getL_eq, setL_eq, List.getD_eq_getElem?_getD]
        rw [List.getElem?_set_ne e]
      rw [h2]; exact setTs_get f ts tm t
theorem anys_get (n t : Nat) : getL (anys n) t = .any := by
  rw [anys_eq, getL_eq, List.getD_eq_getElem?_getD, List.getElem?_replicate]
  split <;> rfl
theorem deads_eq (n : Nat) : deads n = List.replicate n .dead := by
  induction n with
  | zero => rfl
  | succ n ih => simp [deads, ih, List.replicate_succ]
theorem deads_get (n k : Nat) : getO (deads n) k = .dead := by
  rw [deads_eq, getO_eq, List.getD_eq_getElem?_getD, List.getElem?_replicate]
  split <;> rfl
theorem deads_len (n : Nat) : lenO (deads n) = n := by rw [deads_eq, lenO_eq]; simp
theorem setHs_len (h : Nat → AObj) : ∀ (ks : List Nat) (hs : List AObj), lenO (setHs h ks hs) = lenO hs
  | [], hs => rfl
  | k :: ks, hs => by
    have := setHs_len h ks hs
    simp only [lenO_eq] at this ⊢
    simp [setHs, setO_eq, this]
theorem getO_set_ne {hs : List AObj} {k j : Nat} (o : AObj) (h : j ≠ k) : getO (setO hs k o) j = getO hs j := by
  simp only [getO_eq, setO_eq, List.getD_eq_getElem?_getD]
  rw [List.getElem?_set_ne (fun e => h e.symm)]
theorem setHs_in (h : Nat → AObj) : ∀ (ks : List Nat) (hs : List AObj) (k : Nat), k ∈ ks → k < lenO hs → getO (setHs h ks hs) k = h k
  | [], hs, k, hk, _ => by simp at hk
  | j :: ks, hs, k, hk, hl => by
    simp only [setHs]
    by_cases e : k = j
    · subst e
      rw [getO_set (by rw [setHs_len]; exact hl), upd_self]
    · rw [getO_set_ne _ e]
      exact setHs_in h ks hs k (by simpa [e] using hk) hl
theorem setHs_out (h : Nat → AObj) : ∀ (ks : List Nat) (hs : List AObj) (k : Nat), k ∉ ks → getO (setHs h ks hs) k = getO hs k
  | [], hs, k, hk => rfl
  | j :: ks, hs, k, hk => by
    simp only [List.mem_cons, not_or] at hk
    simp only [setHs]
    rw [getO_set_ne _ hk.1]
    exact setHs_out h ks hs k hk.2
theorem preO_len (R : List OpD) (hs : List AObj) (n : Nat) (c : List Nat) (d : OpD) : lenO (preO R hs n c d) = n := by unfold preO; rw [setHs_len, deads_len]
theorem preO_in {R : List OpD} {hs : List AObj} {n : Nat} {c : List Nat} {d : OpD} {k : Nat} (h : k ∈ labs d) (hn : k < n) : getO (preO R hs n c d) k = objF (memN c) 0 R (getO hs) k := setHs_in _ _ _ k h (by rw [deads_len]; exact hn)
theorem preO_out {R : List OpD} {hs : List AObj} {n : Nat} {c : List Nat} {d : OpD} {k : Nat} (h : k ∉ labs d) : getO (preO R hs n c d) k = .dead := by
  unfold preO
  rw [setHs_out _ (d.rd ++ keysO d.wr) _ k h, deads_get]
theorem isGrowB_iff {o : AObj} : isGrowB o = true ↔ isGrow o := by cases o <;> simp [isGrowB, isGrow]
/- keys -/
theorem lkO_some : ∀ {l : List (Nat × AObj)} {k : Nat} {o : AObj}, lkO l k = some o → (k, o) ∈ l
  | [], k, o, h => by simp [lkO] at h
  | (j, x) :: l, k, o, h => by
    simp only [lkO] at h
    split at h
    · rename_i e
      injection h with h
      subst h
      rw [Nat.eq_of_beq_eq_true e]; simp
    · exact List.mem_cons_of_mem _ (lkO_some h)
theorem lkO_none : ∀ {l : List (Nat × AObj)} {k : Nat}, lkO l k = none → k ∉ keysO l
  | [], k, _ => by simp [keysO]
  | (j, x) :: l, k, h => by
    simp only [lkO] at h
    split at h
    · cases h
    · rename_i e
      simp only [keysO, List.mem_cons, not_or]
      exact ⟨fun e' => by rw [e'] at e; simp at e, lkO_none h⟩
theorem keysO_mem : ∀ {l : List (Nat × AObj)} {k : Nat} {o : AObj}, (k, o) ∈ l → k ∈ keysO l
  | (j, x) :: l, k, o, h => by
    rcases List.mem_cons.1 h with h | h
    · injection h with h1 h2; subst h1; simp [keysO]
    · simp [keysO, keysO_mem h]
theorem lkF_some : ∀ {l : List (Nat × Nat × AObj)} {k s : Nat} {o : AObj}, lkF l k = some (s, o) → (k, s, o) ∈ l
  | [], k, s, o, h => by simp [lkF] at h
  | (j, x, y) :: l, k, s, o, h => by
    simp only [lkF] at h
    split at h
    · rename_i e
      simp only [Option.some.injEq, Prod.mk.injEq] at h
      obtain ⟨rfl, rfl⟩ := h
      rw [Nat.eq_of_beq_eq_true e]; simp
    · exact List.mem_cons_of_mem _ (lkF_some h)
theorem lkF_none : ∀ {l : List (Nat × Nat × AObj)} {k : Nat}, lkF l k = none → k ∉ keysF l
  | [], k, _ => by simp [keysF]
  | (j, x, y) :: l, k, h => by
    simp only [lkF] at h
    split at h
    · cases h
    · rename_i e
      simp only [keysF, List.mem_cons, not_or]
      exact ⟨fun e' => by rw [e'] at e; simp at e, lkF_none h⟩
theorem keysF_mem : ∀ {l : List (Nat × Nat × AObj)} {k s : Nat} {o : AObj}, (k, s, o) ∈ l → k ∈ keysF l ∧ s ∈ srcsF l
  | (j, x, y) :: l, k, s, o, h => by
    rcases List.mem_cons.1 h with h | h
    · injection h with h1 h2; injection h2 with h2 h3; subst h1; subst h2; simp [keysF, srcsF]
    · obtain ⟨h1, h2⟩ := keysF_mem h
      simp [keysF, srcsF, h1, h2]
theorem sigF_some : ∀ {l : List (Nat × Nat × AObj)} {k s : Nat}, sigF l s = some k → (keysF l).Nodup → ∃ o, lkF l k = some (s, o)
  | [], k, s, h, _ => by simp [sigF] at h
  | (j, x, y) :: l, k, s, h, hn => by
    simp only [keysF] at hn
    obtain ⟨h1, h2⟩ := List.nodup_cons.1 hn
    simp only [sigF] at h
    split at h
    · rename_i e
      injection h with h
      subst h
      exact ⟨y, by simp [lkF, Nat.eq_of_beq_eq_true e]⟩
    · obtain ⟨o, ho⟩ := sigF_some h h2
      refine ⟨o, ?_⟩
      have hjk : j ≠ k := fun e => h1 (by rw [e]; exact (keysF_mem (lkF_some ho)).1)
      simp only [lkF]
      rw [show Nat.beq j k = false from Bool.eq_false_iff.2 fun e => hjk (Nat.eq_of_beq_eq_true e)]
      exact ho
theorem frs_inj {R : List OpD} (hn : (frs R).Nodup) {i j k : Nat} {d e : OpD} (hi : R[i]? = some d) (hj : R[j]? = some e) (h1 : k ∈ keysF d.fr) (h2 : k ∈ keysF e.fr) : i = j := by
  induction R generalizing i j with
  | nil => simp at hi
  | cons x R ih =>
    simp only [frs, List.flatMap_cons] at hn
    obtain ⟨_, h4, h5⟩ := List.nodup_append.1 hn
    have out : ∀ {q : Nat} {y : OpD}, R[q]? = some y → k ∈ keysF y.fr → k ∉ keysF x.fr := fun hq hy hx => h5 k hx k (List.mem_flatMap.2 ⟨_, List.mem_of_getElem? hq, hy⟩) rfl
    cases i with
    | zero =>
      simp at hi; subst hi
      cases j with
      | zero => rfl
      | succ j => exact absurd h1 (out (by simpa using hj) h2)
    | succ i =>
      cases j with
      | zero => simp at hj; subst hj; exact absurd h2 (out (by simpa using hi) h1)
      | succ j =>
        have hij := ih (i := i) (j := j) h4 (by simpa using hi) (by simpa using hj)
        rw [hij]
theorem frs_one {R : List OpD} (hn : (frs R).Nodup) {i : Nat} {d : OpD} (hi : R[i]? = some d) : (keysF d.fr).Nodup := by
  induction R generalizing i with
  | nil => simp at hi
  | cons x R ih =>
    simp only [frs, List.flatMap_cons] at hn
    obtain ⟨h3, h4, _⟩ := List.nodup_append.1 hn
    cases i with
    | zero => simp at hi; subst hi; exact h3
    | succ i => exact ih h4 (by simpa using hi)
theorem visN_mem {R : List OpD} {k : Nat} : ∀ {c : List Nat}, k ∈ visN R c → ∃ j ∈ c, ∃ d, R[j]? = some d ∧ k ∈ keysF d.fr
  | [], h => by simp [visN] at h
  | j :: c, h => by
    simp only [visN, List.mem_append] at h
    rcases h with h | h
    · split at h
      · rename_i d e; exact ⟨j, by simp, d, e, h⟩
      · simp at h
    · obtain ⟨q, h1, h2⟩ := visN_mem h
      exact ⟨q, by simp [h1], h2⟩
theorem nodup_srcs : ∀ {l : List (Nat × Nat × AObj)} {k k' s : Nat} {o o' : AObj}, (srcsF l).Nodup → (k, s, o) ∈ l → (k', s, o') ∈ l → k = k'
  | [], k, k', s, o, o', _, h, _ => by simp at h
  | (j, x, y) :: l, k, k', s, o, o', hn, h, h' => by
    simp only [srcsF] at hn
    obtain ⟨h1, h2⟩ := List.nodup_cons.1 hn
    rcases List.mem_cons.1 h with h | h <;> rcases List.mem_cons.1 h' with h' | h'
    · injection h with a b; injection h' with c d; rw [a, c]
    · injection h with a b; injection b with b _; exact absurd (b ▸ (keysF_mem h').2) h1
    · injection h' with a b; injection b with b _; exact absurd (b ▸ (keysF_mem h).2) h1
    · exact nodup_srcs h2 h h'
end Go.Proofs.YtlnafekmiidpkaaDoor.S
