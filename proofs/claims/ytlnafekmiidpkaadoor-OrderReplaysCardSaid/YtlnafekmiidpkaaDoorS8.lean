/- Elements, pieces, lengths, strings. -/
import Derived.Test.YtlnafekmiidpkaaDoorS7
import Derived.Laws.BytesString
namespace Go.Proofs.YtlnafekmiidpkaaDoor.S
set_option linter.all false
set_option linter.unusedVariables false
set_option linter.unusedSimpArgs false
theorem rows1_get : ∀ {l : List AV} {i : Nat} {c : List AV}, (rows1 l)[i]? = some c → ∃ y, l[i]? = some y ∧ c = [y]
  | [], i, c, h => by simp [rows1] at h
  | x :: l, 0, c, h => by simp [rows1] at h; exact ⟨x, rfl, h.symm⟩
  | x :: l, i + 1, c, h => rows1_get (l := l) (i := i) (by simpa [rows1] using h)
theorem dropN_get : ∀ (n : Nat) (l : List AV) (i : Nat), (dropN n l)[i]? = l[n + i]?
  | 0, l, i => by simp [dropN]
  | n + 1, [], i => by simp [dropN]
  | n + 1, x :: l, i => by rw [show n + 1 + i = (n + i) + 1 by omega]; simpa [dropN] using dropN_get n l i
section
variable {P : Program} {rs : List ARes} {post : AV → List AObj → Prop} {E : Env} {NK : List AV → List AObj → Node} {K : Act → World → Prop} {rest : List AItem} {Q : Exit → Act → World → Prop}
  {gs : Nat → Gh} {Pr : Nat → Prop} {tm : List AV} {hs : List AObj} {a : Act} {w : World} {d : Option Nat} {ty : TypeId} {pos : String} {af : Array Edge} {g : Option (Nat × Bool)} {op : AOp} {o : Oper}
variable (hK : Next P rs post E (fun tm hs => NodeOK P rs post (NK tm hs)) K) (hR : Next P rs post E (fun tm hs => AW P rs rest tm hs post) K) (C : Conc E gs Pr tm hs a w)
include hK C
/-- An operation with a value and nothing else. -/
theorem fin_ {v : Value} {z : AV} (hr : (execOp a.eval o).run P w = .ok (.value v) w) (hz : Cz gs (dom hs) Pr w z v) (hN : NodeOK P rs post (NK (putL tm o.dst z) hs)) : o.wp P a w K Q :=
  wp_val hr (hK _ _ hN _ _ _ _ (C.put _ hz))
omit hK in
include hR in
theorem finR_ {v : Value} {z : AV} (hr : (execOp a.eval o).run P w = .ok (.value v) w) (hz : Cz gs (dom hs) Pr w z v) (hN : AW P rs rest (putL tm o.dst z) hs post) : o.wp P a w K Q :=
  wp_val hr (hR _ _ hN _ _ _ _ (C.put _ hz))
theorem S_ixStr {t : TypeId} {x i : Operand} {x' i' : Opd} (hu : P.underlying t = some .string) (hx : cOpd x = some x') (hi : cOpd i = some i') (hN : NodeOK P rs post (opN NK d (.ixStr x' i') rest tm hs)) :
    Oper.wp P ⟨d, .index t x i, ty, pos, af, g⟩ a w K Q := by
  have h1 := C.opd hx
  have h2 := C.opd hi
  simp only [opN] at hN
  split at hN
  · rename_i s k n e1 e2
    rw [e1] at h1; rw [e2] at h2
    obtain ⟨⟨h3, h4⟩, hN⟩ := hN
    have hlt : n.toNat < s.size := by omega
    have hb : s[n.toNat]? = some s[n.toNat] := by
      rw [getElem?_pos]
    refine fin_ hK C (v := .int .u8 (bt s n.toNat)) ?_ (.lf (.int _ _)) hN
    have hbt : bt s n.toNat = (s[n.toNat]).toNat := by
      unfold bt
      rw [Array.getD_eq_getD_getElem?, Array.getElem?_eq_getElem hlt]; rfl
    simp only [execOp, Instr.index, h1.str, h2.int, asIntOf, Sem.run_bind, Sem.run_pure, Result.andThen_ok, run_un hu, h3, if_true, hb, hbt]
  · exact hN.elim
omit hK C in
/-- The bounds of a slice expression. -/
theorem run_bounds {isS : Bool} {len cap : Nat} {lo hi : Option Value} {l h : Nat} (hl : (lo = none ∧ l = 0) ∨ ∃ k, lo = some (.int k l)) (hh : (hi = none ∧ h = len) ∨ ∃ k, hi = some (.int k h)) (h1 : l ≤ h) (h2 : h ≤ cap) :
    (Instr.sliceBounds isS len cap lo hi none).run P w = .ok (l, h, cap) w := by
  have sb : ∀ (k : IntKind) (i y : Nat) (c : BoundsCode), i ≤ y → (Instr.sliceBound (.int k i) y c).run P w = .ok i w := by
    intro k i y c hi
    have : (0 : Int) ≤ i ∧ (i : Int) ≤ y := by omega
    simp only [Instr.sliceBound, asIntOf, Sem.run_bind, Sem.run_pure, Result.andThen_ok, this, and_self, if_true, Int.toNat_natCast]
  rcases hl with ⟨rfl, rfl⟩ | ⟨k, rfl⟩ <;> rcases hh with ⟨rfl, rfl⟩ | ⟨j, rfl⟩ <;> simp [Instr.sliceBounds, sb, h1, h2]
omit hK in
theorem lohi_ok {lo hi : Option Operand} {lo' hi' : Option Opd} {n : Nat} {k : Int → Int → Node} (h1 : cOpdO lo = some lo') (h2 : cOpdO hi = some hi') (hN : NodeOK P rs post (lohi tm lo' hi' n k)) :
    ∃ l h : Int, NodeOK P rs post (k l h) ∧ ((lo.map a.eval = none ∧ lo' = none ∧ l = 0) ∨ ∃ j, lo.map a.eval = some (.int j l)) ∧ ((hi.map a.eval = none ∧ h = n) ∨ ∃ j, hi.map a.eval = some (.int j h)) := by
  unfold lohi at hN
  split at hN
  · rename_i u l v h e1 e2
    refine ⟨l, h, hN, ?_, ?_⟩
    · cases lo with
      | none => simp only [cOpdO, Option.some.injEq] at h1; subst h1; simp only [bnd] at e1; injection e1 with _ e1; exact .inl ⟨rfl, rfl, e1.symm⟩
      | some x =>
        simp only [cOpdO, Option.map_eq_some_iff] at h1
        obtain ⟨y, hy, rfl⟩ := h1
        have := C.opd hy
        simp only [bnd] at e1
        rw [e1] at this
        exact .inr ⟨u, by simp [this.int]⟩
    · cases hi with
      | none => simp only [cOpdO, Option.some.injEq] at h2; subst h2; simp only [bnd] at e2; injection e2 with _ e2; exact .inl ⟨rfl, e2.symm⟩
      | some x =>
        simp only [cOpdO, Option.map_eq_some_iff] at h2
        obtain ⟨y, hy, rfl⟩ := h2
        have := C.opd hy
        simp only [bnd] at e2
        rw [e2] at this
        exact .inr ⟨v, by simp [this.int]⟩
  · exact hN.elim
omit hK C in
theorem bnds {lo hi : Option Value} {isS : Bool} {len cap : Nat} {l h : Int} (hl : (lo = none ∧ l = 0) ∨ ∃ k, lo = some (.int k l)) (hh : (hi = none ∧ h = len) ∨ ∃ k, hi = some (.int k h)) (h0 : 0 ≤ l) (h1 : l ≤ h) (h2 : h ≤ cap) :
    (Instr.sliceBounds isS len cap lo hi none).run P w = .ok (l.toNat, h.toNat, cap) w := by
  obtain ⟨l, rfl⟩ := Int.eq_ofNat_of_zero_le h0
  obtain ⟨h, rfl⟩ := Int.eq_ofNat_of_zero_le (show 0 ≤ h by omega)
  exact run_bounds (hl.imp (fun ⟨e, h⟩ => ⟨e, by omega⟩) (fun h => h)) (hh.imp (fun ⟨e, h⟩ => ⟨e, by omega⟩) (fun h => h)) (by omega) (by omega)
theorem S_slS {t : TypeId} {x : Operand} {lo hi : Option Operand} {x' : Opd} {lo' hi' : Option Opd} (hu : P.underlying t = some .string) (hx : cOpd x = some x') (h1 : cOpdO lo = some lo') (h2 : cOpdO hi = some hi')
    (hN : NodeOK P rs post (opN NK d (.slS x' lo' hi') rest tm hs)) : Oper.wp P ⟨d, .slice t x lo hi none, ty, pos, af, g⟩ a w K Q := by
  have hX := C.opd hx
  simp only [opN] at hN
  split at hN
  · rename_i s e
    rw [e] at hX
    obtain ⟨l, h, ⟨⟨h3, h4, h5⟩, hN⟩, hl, hh⟩ := lohi_ok C h1 h2 hN
    refine fin_ hK C (v := .string (s.extract l.toNat h.toNat)) ?_ (.lf (.str _)) hN
    have := bnds (P := P) (w := w) (isS := false) (len := s.size) (cap := s.size) (hl.imp (fun h => ⟨h.1, h.2.2⟩) id) hh h3 h4 h5
    simp only [execOp, Instr.sliceAt, Instr.slice, hX.str, Sem.run_bind, Sem.run_pure, Result.andThen_ok, run_un hu, Option.map_none, Option.isSome_none, Bool.false_eq_true, if_false, this]
  · exact hN.elim
omit hK C in
theorem drop_take_rows {xs : List (List AV)} {l n : Nat} {sz : Nat} {b o cap : Nat} (h : Lf Pr w (.ro sz xs) (.slice (some (at_ b o)) xs.length cap)) (hln : l + n ≤ xs.length) (hl : l < cap) : Lf Pr w (.ro sz ((xs.drop l).take n)) (.slice (some (at_ b (o + l * sz))) n (cap - l)) := by
  have hlen : ((xs.drop l).take n).length = n := by simp; omega
  by_cases h0 : n = 0
  · subst h0
    simp only [List.take_zero]
    exact .ro0 _ _ _ (fun h => by simp at h)
  · cases h with
    | ro0 => simp at hln; omega
    | ro sz xs b o cap f hp hc hn hv hm =>
      have := Lf.ro (Pr := Pr) (w := w) sz ((xs.drop l).take n) b (o + l * sz) (cap - l) (fun q => f (l * sz + q)) hp (by omega) (fun row hr => hn row (List.mem_of_mem_drop (List.mem_of_mem_take hr))) (fun i row j a e1 e2 => ?_) (fun q hq => ?_)
      · rw [hlen] at this; exact this
      · rw [List.getElem?_take, List.getElem?_drop] at e1
        split at e1
        · have := hv _ _ _ _ e1 e2
          rw [Nat.add_mul, Nat.add_assoc] at this; exact this
        · cases e1
      · rw [hlen] at hq
        have : (l + n) * sz ≤ xs.length * sz := Nat.mul_le_mul_right _ hln
        rw [Nat.add_mul] at this
        rw [Nat.add_assoc]; exact hm _ (by omega)
omit hK C in
/-- A piece of a row of values. -/
theorem ro_slice {sz : Nat} {xs : List (List AV)} {v : Value} (h : Lf Pr w (.ro sz xs) v) : ∃ A cap, v = .slice A xs.length cap ∧ xs.length ≤ cap ∧ ∀ l n : Nat, l + n ≤ xs.length → Lf Pr w (.ro sz ((xs.drop l).take n)) (.slice (if cap = l then A else A.map (·.add (l * sz))) n (cap - l)) := by
  cases h with
  | ro0 sz A cap hA =>
    refine ⟨A, cap, rfl, Nat.zero_le _, fun l n hln => ?_⟩
    simp only [List.length_nil, Nat.le_zero, Nat.add_eq_zero_iff] at hln
    obtain ⟨rfl, rfl⟩ := hln
    simp only [List.drop_nil, List.take_nil]
    refine .ro0 _ _ _ (fun h => ?_)
    split at h
    · omega
    · have := hA (by simpa using h); omega
  | ro sz xs b o cap f hp hc hn hv hm =>
    refine ⟨_, cap, rfl, hc, fun l n hln => ?_⟩
    by_cases hl : cap = l
    · have h0 : n = 0 := by omega
      subst h0
      rw [if_pos hl]
      simp only [List.take_zero]
      exact .ro0 _ _ _ (fun h => by simp at h)
    · rw [if_neg hl]
      simp only [Option.map_some, at_add]
      exact drop_take_rows (.ro sz xs b o cap f hp hc hn hv hm) hln (by omega)
theorem S_slAr {t e : TypeId} {n sz : Nat} {x : Operand} {lo hi : Option Operand} {x' : Opd} {lo' hi' : Option Opd} (hu : P.underlying t = some (.array n e)) (hsz : szT P e = some sz) (hx : cOpd x = some x') (h1 : cOpdO lo = some lo') (h2 : cOpdO hi = some hi')
    (hN : NodeOK P rs post (opN NK d (.slAr n sz x' lo' hi') rest tm hs)) : Oper.wp P ⟨d, .slice t x lo hi none, ty, pos, af, g⟩ a w K Q := by
  have hX := C.opd hx
  simp only [opN] at hN
  split at hN
  · rename_i k off e
    rw [e] at hX
    obtain ⟨e1, hk⟩ := hX.ptr_
    obtain ⟨l, h, ⟨⟨h3, h4, h5⟩, hN⟩, hl, hh⟩ := lohi_ok C h1 h2 hN
    have := bnds (P := P) (w := w) (isS := false) (len := n) (cap := n) (hl.imp (fun h => ⟨h.1, h.2.2⟩) id) hh h3 h4 h5
    refine fin_ hK C (v := .slice (some (if n = l.toNat then at_ (gs k).blk off else (at_ (gs k).blk off).add (l.toNat * sz))) (h.toNat - l.toNat) (n - l.toNat)) ?_ ?_ hN
    · simp only [execOp, Instr.sliceAt, Instr.sureAddr, e1, Sem.run_bind, Sem.run_pure, Result.andThen_ok, run_un hu, Option.map_none, this, run_sz hsz]
    · have hoff : (if n = l.toNat then at_ (gs k).blk off else (at_ (gs k).blk off).add (l.toNat * sz)) = at_ (gs k).blk (offAt lo' off l.toNat n sz) := by
        rcases hl with ⟨_, rfl, rfl⟩ | ⟨j, hj⟩
        · simp [offAt, at_add]
        · cases lo' with
          | none => cases lo with
            | none => simp at hj
            | some y => simp [cOpdO] at h1
          | some y =>
            simp only [offAt]
            split <;> simp [at_add]
      rw [hoff]
      exact .sl _ _ _ _ hk
  · exact hN.elim
include hR in
theorem S_ixA {t e : TypeId} {n sz : Nat} {x i : Operand} {x' i' : Opd} (hu : P.underlying t = some (.array n e)) (hsz : szT P e = some sz) (hx : cOpd x = some x') (hi : cOpd i = some i')
    (hN : NodeOK P rs post (opN NK d (.ixA n sz x' i') rest tm hs)) : Oper.wp P ⟨d, .indexAddr t x i, ty, pos, af, g⟩ a w K Q := by
  have hX := C.opd hx
  have hI := C.opd hi
  have run : ∀ (b o : Nat) (k : IntKind) (m : Int), a.eval x = .pointer (some (at_ b o)) → a.eval i = .int k m → 0 ≤ m → m < n →
      (execOp a.eval ⟨d, .indexAddr t x i, ty, pos, af, g⟩).run P w = .ok (.value (.pointer (some (at_ b (o + m.toNat * sz))))) w := by
    intro b o k m e1 e2 h1 h2
    simp only [execOp, Instr.indexAt, e2, asIntOf, Instr.sureAddr, e1, Sem.run_bind, Sem.run_pure, Result.andThen_ok, run_un hu, h1, h2, and_self, if_true, run_sz hsz, at_add]
  simp only [opN] at hN
  split at hN
  · rename_i k off j m e1 e2
    rw [e1] at hX; rw [e2] at hI
    obtain ⟨⟨h1, h2⟩, hN⟩ := hN
    exact fin_ hK C (run _ _ _ _ hX.ptr_.1 hI.int h1 h2) (.ptrS _ _ hX.ptr_.2) hN
  · rename_i k off j m e1 e2
    rw [e1] at hX; rw [e2] at hI
    obtain ⟨⟨h1, h2⟩, hN⟩ := hN
    exact fin_ hK C (run _ _ _ _ hX.ptrS_.1 hI.int h1 h2) (.ptrS _ _ hX.ptrS_.2) hN
  · rename_i c off j m e1 e2
    rw [e1] at hX; rw [e2] at hI
    split at hN
    case h_2 => exact hN.elim
    rename_i hz
    obtain rfl := Nat.eq_of_beq_eq_true hz
    obtain ⟨⟨h1, h2⟩, h3, c1, hc1, hM⟩ := hN
    obtain ⟨y, hy, rfl⟩ := rows1_get hc1
    rw [dropN_get] at hy
    generalize hv : a.eval x = v at hX
    cases hX with
    | lf h => cases h
    | rp c off b o hp h =>
      refine finR_ hR C (run b (o + off) _ m hv hI.int h1 h2) (z := .rp [y] 0) ?_ hM
      have := Cz.rp (gs := gs) (D := dom hs) (Pr := Pr) (w := w) [y] 0 b (o + off + m.toNat) hp (fun q a hq => by
        cases q with
        | zero =>
          simp at hq; subst hq
          obtain ⟨v, g1, g2⟩ := h (off + m.toNat) y hy
          exact ⟨v, by rw [Nat.add_zero, Nat.add_assoc]; exact g1, g2⟩
        | succ q => simp at hq)
      rw [Nat.mul_one]
      exact this
  · exact hN.elim
include hR in
theorem S_ixS {t e : TypeId} {sz : Nat} {x i : Operand} {x' i' : Opd} (hu : P.underlying t = some (.slice e)) (hsz : szT P e = some sz) (hx : cOpd x = some x') (hi : cOpd i = some i')
    (hN : NodeOK P rs post (opN NK d (.ixS sz x' i') rest tm hs)) : Oper.wp P ⟨d, .indexAddr t x i, ty, pos, af, g⟩ a w K Q := by
  have hX := C.opd hx
  have hI := C.opd hi
  have run : ∀ (b o len cap : Nat) (k : IntKind) (m : Int), a.eval x = .slice (some (at_ b o)) len cap → a.eval i = .int k m → 0 ≤ m → m < len →
      (execOp a.eval ⟨d, .indexAddr t x i, ty, pos, af, g⟩).run P w = .ok (.value (.pointer (some (at_ b (o + m.toNat * sz))))) w := by
    intro b o len cap k m e1 e2 h1 h2
    simp only [execOp, Instr.indexAt, e2, asIntOf, e1, Sem.run_bind, Sem.run_pure, Result.andThen_ok, run_un hu, h1, h2, and_self, if_true, run_sz hsz, at_add]
  have row : ∀ {z : Nat} {xs : List (List AV)} {k : IntKind} {m : Int}, Lf Pr w (.ro z xs) (a.eval x) → z = sz → a.eval i = .int k m → (0 ≤ m ∧ ∃ c, xs[m.toNat]? = some c ∧ AW P rs rest (putL tm d (.rp c 0)) hs post) → Oper.wp P ⟨d, .indexAddr t x i, ty, pos, af, g⟩ a w K Q := by
    intro z xs k m hL hz e2 hM
    obtain ⟨h1, c, hcm, hM⟩ := hM
    have hlt := (List.getElem?_eq_some_iff.1 hcm).1
    generalize hv : a.eval x = v at hL
    cases hL with
    | ro0 => simp at hcm
    | ro z xs b o cap f hp hc hn hvv hm =>
      subst hz
      refine finR_ hR C (run b o _ cap k m hv e2 h1 (by omega)) (z := .rp c 0) ?_ hM
      refine .rp c 0 b (o + m.toNat * z) hp (fun j q hj => ?_)
      have hjz : j < z := by rw [← hn c (List.mem_of_getElem? hcm)]; exact (List.getElem?_eq_some_iff.1 hj).1
      have hq : m.toNat * z + j < xs.length * z := by
        have : (m.toNat + 1) * z ≤ xs.length * z := Nat.mul_le_mul_right _ hlt
        rw [Nat.add_mul] at this; omega
      obtain ⟨h5, h6⟩ := hm _ hq
      exact ⟨_, by rw [Nat.add_assoc]; exact h5, h6, hvv _ _ _ _ hcm hj⟩
  simp only [opN] at hN
  split at hN
  · rename_i z xs j m e1 e2
    rw [e1] at hX; rw [e2] at hI
    split at hN
    · rename_i hz; exact row hX.ro_ (Nat.eq_of_beq_eq_true hz) hI.int hN
    · exact hN.elim
  · rename_i k j m e1 e2
    rw [e1] at hX; rw [e2] at hI
    obtain ⟨e3, hk⟩ := hX.own_
    split at hN
    · rename_i z xs ho
      have := C.objG hk ho
      split at hN
      · rename_i hz; exact row (by rw [e3]; exact this) (Nat.eq_of_beq_eq_true hz) hI.int hN
      · exact hN.elim
    · rename_i t' z xs ho
      split at hN
      case h_2 => exact hN.elim
      rename_i hz
      obtain rfl := Nat.eq_of_beq_eq_true hz
      obtain ⟨⟨h1, h2⟩, hN⟩ := hN
      obtain ⟨_, _, h3⟩ := C.objG hk ho
      rcases h3 with ⟨rfl, _⟩ | ⟨cap, hhd, hcap, _⟩
      · simp at h2; omega
      · refine fin_ hK C (run _ _ _ _ _ _ (e3.trans hhd) hI.int h1 h2) ?_ hN
        rw [Nat.zero_add]
        exact .gp k z m.toNat 0 hk
    · exact hN.elim
  · rename_i k off len cap j m e1 e2
    rw [e1] at hX; rw [e2] at hI
    obtain ⟨e3, hk⟩ := hX.sl_
    obtain ⟨⟨h1, h2⟩, hN⟩ := hN
    exact fin_ hK C (run _ _ _ _ _ _ e3 hI.int h1 h2) (.ptrS _ _ hk) hN
  · exact hN.elim
include hR in
theorem S_ixV {t e : TypeId} {n sz : Nat} {ag : Bool} {x i : Operand} {x' i' : Opd} {flat : Bool} (hu : P.underlying t = some (.array n e)) (hsz : szT P e = some sz) (hag : aggT P e = some ag) (hx : cOpd x = some x') (hi : cOpd i = some i')
    (hN : NodeOK P rs post (opN NK d (.ixV n sz ag flat x' i') rest tm hs)) : Oper.wp P ⟨d, .index t x i, ty, pos, af, g⟩ a w K Q := by
  have hX := C.opd hx
  have hI := C.opd hi
  simp only [opN] at hN
  split at hN
  case h_2 => exact hN.elim
  rename_i cs k m e1 e2
  rw [e1] at hX; rw [e2] at hI
  obtain ⟨vs, e3, e4, e5, e6⟩ := hX.arr_.arr_
  rw [← Array.toArray_toList (xs := vs)] at e3
  have hlen : vs.toList.length = cs.length := by simpa using e4
  have hpt : ∀ (j : Nat) a v, cs[j]? = some a → vs.toList[j]? = some v → Lf Pr w a v := fun j a v h1 h2 => e5 j a v h1 (by simpa using h2)
  have run : ∀ {r : Value}, 0 ≤ m → m < n → (ag = true ∧ r = .agg ((vs.toList.drop (m.toNat * sz)).take sz).toArray ∨ ag = false ∧ vs.toList[m.toNat * sz]? = some r) → (execOp a.eval ⟨d, .index t x i, ty, pos, af, g⟩).run P w = .ok (.value r) w := by
    intro r h1 h2 hr
    simp only [execOp, Instr.index, hI.int, asIntOf, e3, Sem.run_bind, Sem.run_pure, Result.andThen_ok, run_un hu, h1, h2, and_self, if_true, run_sz hsz, run_part hag hsz hr]
  cases ag with
  | true =>
    obtain ⟨⟨h1, h2, h3⟩, hN⟩ := hN
    have hA : NodeOK P rs post (partA cs (m.toNat * sz) sz true fun v => NK (putL tm d v) hs) := by
      refine ⟨h3, ?_⟩
      rw [segL_eq]; exact hN
    rcases partA_ok hlen hpt e6 hA with ⟨_, hle, z, hz, hM⟩ | ⟨hf, _⟩
    · exact fin_ hK C (run h1 h2 (.inl ⟨rfl, rfl⟩)) (.lf hz) hM
    · cases hf
  | false =>
    obtain ⟨⟨h1, h2⟩, z, hz, hN⟩ := hN
    have hlt : m.toNat * sz < vs.toList.length := by rw [hlen]; exact (List.getElem?_eq_some_iff.1 hz).1
    exact finR_ hR C (run h1 h2 (.inr ⟨rfl, List.getElem?_eq_getElem hlt⟩)) (.lf (hpt _ _ _ hz (List.getElem?_eq_getElem hlt))) hN
end
end Go.Proofs.YtlnafekmiidpkaaDoor.S
