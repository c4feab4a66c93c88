/- Order, plain laws: entries that do not meet may be done in either order. -/
import Derived.Test.YtlnafekmiidpkaaDoorOs5
namespace Go.Proofs.YtlnafekmiidpkaaDoor.S
open Go.RowKit
set_option linter.all false
set_option maxRecDepth 100000
set_option maxHeartbeats 1000000
/-- What is known of an entry that may be. -/
def GE (e : En) : Prop := e.k = 1 → 0 < e.l.n ∧ 0 ≤ e.l.f ∧ e.l.f + e.l.n ≤ 8 ∧ (e.d.size : Int) = 8 * e.l.n
def apE (s : ByteArray) (e : En) : ByteArray := if e.k = 1 then putB s e.d e.l.f.toNat e.l.n.toNat else s
def dis (e f : En) : Prop := e.k = 1 → f.k = 1 → e.l.f + e.l.n ≤ f.l.f ∨ f.l.f + f.l.n ≤ e.l.f
def pI (l : List Int) (o : Nat) (v : List Int) : List Int := l.take o ++ v ++ l.drop (o + v.length)
theorem pI_len {l v : List Int} {o : Nat} (h : o + v.length ≤ l.length) : (pI l o v).length = l.length := by
  unfold pI; rw [List.length_append, List.length_append, List.length_take, List.length_drop]; omega
theorem pI_get {l v : List Int} {o : Nat} (h : o + v.length ≤ l.length) (p : Nat) : (pI l o v)[p]? = if p < o then l[p]? else if p < o + v.length then v[p - o]? else l[p]? := by
  unfold pI
  have h1 : (l.take o).length = o := by rw [List.length_take]; omega
  split
  · rw [List.append_assoc, List.getElem?_append_left (by omega), List.getElem?_take_of_lt (by omega)]
  split
  · rw [List.append_assoc, List.getElem?_append_right (by omega), h1, List.getElem?_append_left (by omega)]
  · rw [List.getElem?_append_right (by rw [List.length_append]; omega), List.getElem?_drop, List.length_append, h1]
    congr 1; omega
theorem pI_comm {l v u : List Int} {o p : Nat} (h1 : o + v.length ≤ l.length) (h2 : p + u.length ≤ l.length) (h : o + v.length ≤ p ∨ p + u.length ≤ o) : pI (pI l o v) p u = pI (pI l p u) o v := by
  apply List.ext_getElem?
  intro q
  rw [pI_get (by rw [pI_len h1]; exact h2), pI_get h1, pI_get (by rw [pI_len h2]; exact h1), pI_get h2]
  by_cases c1 : q < o
  · by_cases c2 : q < p
    · rw [if_pos c2, if_pos c1, if_pos c1, if_pos c2]
    · rw [if_neg c2, if_pos c1, if_pos c1, if_neg c2]
  · by_cases c2 : q < p
    · rw [if_pos c2, if_neg c1, if_neg c1, if_pos c2]
    · by_cases c3 : q < o + v.length
      · rw [if_neg c2, if_neg c1, if_neg c1, if_neg c2, if_pos c3, if_pos c3, if_neg (by omega)]
      · rw [if_neg c2, if_neg c1, if_neg c1, if_neg c2, if_neg c3, if_neg c3]
theorem put_pI {s d : ByteArray} {F C : Nat} (h1 : 0 < C) (h2 : F + C ≤ s.size / 8) (h3 : d.size = 8 * C) : nmI (putB s d F C) = pI (nmI s) (8 * F) (nmI d) := by
  have hw : wrI (nmI s) (nmI d) F C = pI (nmI s) (8 * F) (nmI d) := by unfold wrI pI; rw [nmI_len d, h3]
  have hb : ByteL (wrI (nmI s) (nmI d) F C) := by
    unfold wrI
    exact ((show ByteL ((nmI s).take (8 * F)) from fun x hx => nmI_byte s x (List.mem_of_mem_take hx)).app (nmI_byte d)).app (fun x hx => nmI_byte s x (List.mem_of_mem_drop hx))
  unfold putB okP
  rw [if_pos ⟨decide_eq_true ⟨h1, h2⟩, h3⟩, nmI_str _ hb, hw]
theorem apE_size {s : ByteArray} (e : En) : (apE s e).size = s.size := by
  unfold apE
  split
  · rename_i hk
    by_cases h : okP s e.l.f.toNat e.l.n.toNat = true ∧ e.d.size = 8 * e.l.n.toNat
    · have h1 : 0 < e.l.n.toNat ∧ e.l.f.toNat + e.l.n.toNat ≤ s.size / 8 := by have := h.1; unfold okP at this; simpa using this
      have hp := put_pI h1.1 h1.2 h.2
      have := congrArg List.length hp
      rw [pI_len (by rw [nmI_len, nmI_len]; omega), nmI_len, nmI_len] at this
      exact this
    · unfold putB; rw [if_neg h]
  · rfl
theorem apE_comm {s : ByteArray} (hs : s.size = 64) {e f : En} (he : GE e) (hf : GE f) (h : dis e f) : apE (apE s e) f = apE (apE s f) e := by
  by_cases ke : e.k = 1
  case neg => unfold apE; rw [if_neg ke, if_neg ke]
  by_cases kf : f.k = 1
  case neg => unfold apE; rw [if_neg kf, if_neg kf]
  obtain ⟨e1, e2, e3, e4⟩ := he ke
  obtain ⟨f1, f2, f3, f4⟩ := hf kf
  have hd := h ke kf
  have se := apE_size (s := s) e
  have sf := apE_size (s := s) f
  apply nmI_inj
  unfold apE at *
  rw [if_pos ke] at *
  rw [if_pos kf] at *
  rw [if_pos kf, if_pos ke]
  rw [put_pI (by omega) (by omega) (by omega), put_pI (by omega) (by omega) (by omega), put_pI (by omega) (by omega) (by omega), put_pI (by omega) (by omega) (by omega)]
  exact pI_comm (by rw [nmI_len, nmI_len]; omega) (by rw [nmI_len, nmI_len]; omega) (by rw [nmI_len, nmI_len]; omega)
/-- The blocks, when those that are marked are done in order. -/
def sN (m : Mk) (all : List En) (s0 : ByteArray) : Nat → ByteArray
  | 0 => s0
  | k + 1 => match all[k]? with
    | some e => if hasM m (k + 1) = true then apE (sN m all s0 k) e else sN m all s0 k
    | none => sN m all s0 k
theorem sN_size (m : Mk) (all : List En) (s0 : ByteArray) : ∀ k, (sN m all s0 k).size = s0.size
  | 0 => rfl
  | k + 1 => by
    have ih := sN_size m all s0 k
    unfold sN
    split
    · split
      · rw [apE_size]; exact ih
      · exact ih
    · exact ih
def PW (all : List En) (m : Mk) : Prop := ∀ (i j : Nat) (e f : En), i < j → all[i]? = some e → all[j]? = some f → hasM m (j + 1) = true → hasM m (i + 1) = false → dis e f
theorem sN_eq (all : List En) (s0 : ByteArray) (m m' : Mk) : ∀ k, (∀ i, i < k → hasM m' (i + 1) = hasM m (i + 1)) → sN m' all s0 k = sN m all s0 k
  | 0, _ => rfl
  | k + 1, h => by
    unfold sN
    rw [sN_eq all s0 m m' k (fun i hi => h i (by omega)), h k (by omega)]
theorem sN_set {all : List En} {s0 : ByteArray} (hs : s0.size = 64) (hge : ∀ e ∈ all, GE e) {m m' : Mk} {j : Nat} {e : En} (hj : all[j]? = some e) (hm : hasM m (j + 1) = false) (hm' : ∀ y, hasM m' y = (hasM m y || y == j + 1)) (hp : PW all m) : ∀ k, j < k → sN m' all s0 k = apE (sN m all s0 k) e
  | 0, h => by omega
  | k + 1, h => by
    by_cases c : k = j
    · subst c
      have h1 := sN_eq all s0 m m' k (fun i hi => by rw [hm', show (i + 1 == k + 1) = false by simp; omega, Bool.or_false])
      unfold sN
      rw [hj]
      simp only []
      rw [hm', hm, show (k + 1 == k + 1) = true by simp, h1]
      rfl
    · have ih := sN_set hs hge hj hm hm' hp k (by omega)
      have hk : hasM m' (k + 1) = hasM m (k + 1) := by rw [hm', show (k + 1 == j + 1) = false by simp; omega, Bool.or_false]
      unfold sN
      cases hf : all[k]? with
      | none => exact ih
      | some f =>
        simp only []
        rw [hk]
        split
        · rename_i hd
          rw [ih]
          exact (apE_comm (by rw [sN_size]; exact hs) (hge f (List.mem_of_getElem? hf)) (hge e (List.mem_of_getElem? hj)) (fun a b => by have := hp j k e f (by omega) hj hf hd hm b a; omega)).symm
        · exact ih
theorem pw_set {all : List En} {m m' : Mk} {j : Nat} {e : En} (hj : all[j]? = some e) (hm' : ∀ y, hasM m' y = (hasM m y || y == j + 1)) (hp : PW all m) (hn : ∀ i f, i < j → all[i]? = some f → hasM m (i + 1) = false → dis f e) : PW all m' := by
  intro a b x y hab hx hy h1 h2
  rw [hm'] at h1 h2
  rw [Bool.or_eq_false_iff] at h2
  by_cases c : b = j
  · subst c
    rw [hj] at hy
    obtain rfl := Option.some.inj hy
    exact hn a x hab hx h2.1
  · rw [show (b + 1 == j + 1) = false by simp; omega, Bool.or_false] at h1
    exact hp a b x y hab hx hy h1 h2.1
/- a chain's entries -/
theorem chN_take (l : List En) (f n : Int) : ∀ j k, k ≤ j → j ≤ l.length → (chN l f n j).take k = chN l f n k
  | 0, k, h, _ => by
    obtain rfl : k = 0 := by omega
    rfl
  | j + 1, k, h, hj => by
    by_cases c : k = j + 1
    · subst c
      exact List.take_of_length_le (by rw [chN_len l f n (j + 1) hj]; exact Nat.le_refl _)
    · obtain ⟨y, hy⟩ : ∃ y, l[j]? = some y := ⟨_, List.getElem?_eq_getElem (by omega)⟩
      have hE : chN l f n (j + 1) = chN l f n j ++ [chE f n (chN l f n j) j y] := by simp only [chN, hy]
      rw [hE, List.take_append_of_le_length (by rw [chN_len l f n j (by omega)]; omega)]
      exact chN_take l f n j k (by omega) (by omega)
theorem chN_at (l : List En) (f n : Int) {k : Nat} (hk : k < l.length) : ∃ y, l[k]? = some y ∧ (chN l f n l.length)[k]? = some (chE f n (chN l f n k) k y) := by
  obtain ⟨y, hy⟩ : ∃ y, l[k]? = some y := ⟨_, List.getElem?_eq_getElem hk⟩
  refine ⟨y, hy, ?_⟩
  have hE : chN l f n (k + 1) = chN l f n k ++ [chE f n (chN l f n k) k y] := by simp only [chN, hy]
  have h1 : ((chN l f n l.length).take (k + 1))[k]? = (chN l f n l.length)[k]? := List.getElem?_take_of_lt (by omega)
  rw [← h1, chN_take l f n l.length (k + 1) hk (Nat.le_refl _), hE, List.getElem?_append_right (by rw [chN_len l f n k (by omega)]; exact Nat.le_refl _), chN_len l f n k (by omega), Nat.sub_self]
  rfl
theorem ch_ix {n : Int} {out : List En} {k : Nat} {y : En} (hk : k < 1000) : (chE 1 n out k y).i = (k + 1 : Nat) := by
  show IntKind.u64.wrap (1 + IntKind.u64.wrap (k : Nat)) = _
  rw [wru (n := (k : Int)) (by omega) (by omega), wru (by omega) (by omega)]
  omega
/-- One that may be done meets none ahead of it that is not done. -/
theorem may_dis {l : List En} {n : Int} (hl : l.length ≤ 40) {m : Mk} {j : Nat} {e : En} (hge : ∀ e ∈ l, GE e) (hj : (chN l 1 n l.length)[j]? = some e) (hm : mayB e m = true) : ∀ i f, i < j → (chN l 1 n l.length)[i]? = some f → hasM m (i + 1) = false → dis f e := by
  intro i f hij hi hn ka kb
  have hjl : j < l.length := by have := (List.getElem?_eq_some_iff.1 hj).1; rwa [chN_len l 1 n _ (Nat.le_refl _)] at this
  obtain ⟨y, hy, hy2⟩ := chN_at l 1 n hjl
  obtain ⟨z, hz, hz2⟩ := chN_at l 1 n (show i < l.length by omega)
  rw [hj] at hy2
  rw [hi] at hz2
  have e1 := Option.some.inj hy2
  have e2 := Option.some.inj hz2
  have hix : e.i = (j + 1 : Nat) := by rw [e1]; exact ch_ix (by omega)
  have hlow : m.l < i + 1 := by
    apply Decidable.byContradiction
    intro h
    rw [has_low (show i + 1 ≤ m.l by omega)] at hn; cases hn
  have hcl : clashL e ((i + 1 : Nat) : Int) = false := by
    unfold mayB at hm
    rw [List.all_eq_true] at hm
    have := hm (i + 1 - (m.l + 1)) (List.mem_range.2 (by omega))
    rw [show m.l + 1 + (i + 1 - (m.l + 1)) = i + 1 by omega, hn, Bool.false_or, Bool.not_eq_true'] at this
    exact this
  unfold clashL at hcl
  rw [decide_eq_true (by omega), Bool.true_and] at hcl
  cases ha : atL e ((i + 1 : Nat) : Int) with
  | none => rw [ha] at hcl; cases hcl
  | some lk =>
    rw [ha] at hcl
    simp only [decide_eq_false_iff_not] at hcl
    unfold atL at ha
    split at ha
    · cases ha
    rw [show (e.i - ((i + 1 : Nat) : Int) - 1).toNat = j - i - 1 by omega] at ha
    have hb : e.b = rowL (chN l 1 n j) n := by rw [e1]; rfl
    rw [hb] at ha
    unfold rowL at ha
    have hcj := chN_len l 1 n j (by omega)
    have hlt : j - i - 1 < n.toNat := by
      have := (List.getElem?_eq_some_iff.1 ha).1
      rw [List.length_take] at this; omega
    rw [List.getElem?_take_of_lt hlt, List.getElem?_map, List.getElem?_reverse (by omega), hcj, show j - 1 - (j - i - 1) = i by omega] at ha
    have hci : (chN l 1 n j)[i]? = some f := by
      have : ((chN l 1 n l.length).take j)[i]? = (chN l 1 n l.length)[i]? := List.getElem?_take_of_lt hij
      rw [chN_take l 1 n l.length j (by omega) (Nat.le_refl _), hi] at this
      exact this
    rw [hci] at ha
    have hlk : lk = f.l := (Option.some.inj ha).symm
    have gf : GE f := fun hk => by
      have := hge z (List.mem_of_getElem? hz)
      rw [e2] at hk ⊢
      exact this hk
    have ge : GE e := fun hk => by
      have := hge y (List.mem_of_getElem? hy)
      rw [e1] at hk ⊢
      exact this hk
    obtain ⟨a1, a2, a3, _⟩ := gf ka
    obtain ⟨b1, b2, b3, _⟩ := ge kb
    rw [hlk] at hcl
    unfold comS ofS limS at hcl
    simp only [] at hcl
    split at hcl
    · omega
    · exfalso
      apply hcl
      simp only []
      omega
end Go.Proofs.YtlnafekmiidpkaaDoor.S
