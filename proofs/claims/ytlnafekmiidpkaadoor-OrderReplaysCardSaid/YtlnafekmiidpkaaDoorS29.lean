/- A row that grew becomes one whose elements may be written. -/
import Derived.Test.YtlnafekmiidpkaaDoorS28
namespace Go.Proofs.YtlnafekmiidpkaaDoor.S
set_option linter.all false
set_option linter.unusedVariables false
set_option linter.unusedSimpArgs false
section
variable {gs : Nat → Gh} {D Pr : Nat → Prop} {w : World} {k : Nat} {r : AV}
variable (hr : Cz gs D Pr w r (gs k).hd)
include hr
theorem slzV_ok {x : AV} {v : Value} (h : Cz gs D Pr w x v) : Cz gs D Pr w (frzV k r x) v := by
  cases x with
  | own j =>
    simp only [frzV, ifEq]
    split
    · rename_i e
      obtain rfl := Nat.eq_of_beq_eq_true e
      rw [h.own_.1]; exact hr
    · exact h
  | gp j s i o =>
    simp only [frzV, ifEq]
    split
    · exact .any v
    · exact h
  | agg cs => exact .any v
  | tup cs => exact .any v
  | fn f a b => exact .any v
  | _ => exact h
theorem slzL_ok {f : AV → AV} (hf : ∀ x v, Cz gs D Pr w x v → Cz gs D Pr w (f x) v) {cs : List AV} {vs : Array Value} (h : ∀ (j : Nat) a v, cs[j]? = some a → vs[j]? = some v → Cz gs D Pr w a v) : ∀ (j : Nat) a v, (mapA f cs)[j]? = some a → vs[j]? = some v → Cz gs D Pr w a v := by
  intro j a v e1 e2
  rw [mapA_get, Option.map_eq_some_iff] at e1
  obtain ⟨x, hx, rfl⟩ := e1
  exact hf x v (h j x v hx e2)
theorem slz1_ok {x : AV} {v : Value} (h : Cz gs D Pr w x v) : Cz gs D Pr w (frz1 k r x) v := by
  cases x <;> first | exact slzV_ok hr h | skip
  case agg cs =>
    obtain ⟨vs, rfl, h1, h2, h3⟩ := h.agg_
    exact .agg _ vs (by rw [mapA_len]; exact h1) (slzL_ok hr (fun x v h => slzV_ok hr h) h2) h3
  case fn f a b =>
    obtain ⟨va, vb, rfl, h1, h2⟩ := h.fn_
    exact .fn _ _ _ va vb (by rw [mapA_len]; exact h1.1) (by rw [mapA_len]; exact h2.1) (slzL_ok hr (fun x v h => slzV_ok hr h) h1.2) (slzL_ok hr (fun x v h => slzV_ok hr h) h2.2)
theorem slz_ok {x : AV} {v : Value} (h : Cz gs D Pr w x v) : Cz gs D Pr w (frz k r x) v := by
  cases x <;> first | exact slz1_ok hr h | skip
  case tup cs =>
    obtain ⟨vs, rfl, h1, h2⟩ := h.tup_
    exact .tup _ vs (by rw [mapA_len]; exact h1) (slzL_ok hr (fun x v h => slz1_ok hr h) h2)
theorem slzO_ok {g : Gh} {o : AObj} (h : ObjOK gs D Pr w g o) : ObjOK gs D Pr w g (frzO k r o) := by
  cases o with
  | cells t cs =>
    obtain ⟨c, fr, h1, h2, h3, h4, h5⟩ := h
    exact ⟨c, fr, h1, h2, h3, by rw [mapA_len]; exact h4, slzL_ok hr (fun x v h => slz1_ok hr h) h5⟩
  | iter x c seen =>
    obtain ⟨b, h1, h2⟩ := h
    exact ⟨b, h1, slz1_ok hr h2⟩
  | _ => exact h
end
theorem flat_atE {sz : Nat} : ∀ {xs : List (List AV)}, (∀ row ∈ xs, row.length = sz) → ∀ (q : Nat) a, xs.flatten[q]? = some a → ∃ i row j, xs[i]? = some row ∧ row[j]? = some a ∧ q = i * sz + j
  | [], _, q, a, h => by simp at h
  | x :: l, h1, q, a, h => by
    rw [List.flatten_cons] at h
    have hx := h1 x (by simp)
    by_cases hq : q < x.length
    · rw [List.getElem?_append_left hq] at h
      exact ⟨0, x, q, rfl, h, by omega⟩
    · rw [List.getElem?_append_right (by omega)] at h
      obtain ⟨i, row, j, e1, e2, e3⟩ := flat_atE (fun r hr => h1 r (by simp [hr])) _ a h
      exact ⟨i + 1, row, j, by simpa using e1, e2, by rw [Nat.add_mul]; omega⟩
/-- A slice that grew, and is not empty, is told as a row whose elements may be written; what lies behind its length is not told. -/
theorem conc_sl {E : Env} {gs : Nat → Gh} {Pr : Nat → Prop} {tm : List AV} {hs : List AObj} {a : Act} {w : World} (C : Conc E gs Pr tm hs a w) (k t sz : Nat) (xs : List (List AV)) (ho : getO hs k = .grow t sz xs) (h0 : 0 < xs.length) :
    ∃ cap, xs.length ≤ cap ∧ Conc E gs Pr (mapA (frz k (.sl k 0 xs.length cap)) tm) (setO (mapO (frzO k (.sl k 0 xs.length cap)) hs) k (.arr t (xs.flatten ++ List.replicate (cap * sz - xs.length * sz) .any))) a w ∧
      ∀ x v, Cz gs (dom hs) Pr w x v → Cz gs (dom (setO (mapO (frzO k (.sl k 0 xs.length cap)) hs) k (.arr t (xs.flatten ++ List.replicate (cap * sz - xs.length * sz) .any)))) Pr w (frz k (.sl k 0 xs.length cap) x) v := by
  have hk : dom hs k := getO_lt (by rw [ho]; simp)
  obtain ⟨hz, h1, h2⟩ := C.obj hk ho
  rcases h2 with ⟨rfl, h2⟩ | ⟨cap, h2, h3, c, fr, h4, h5, h6, h7, h8⟩
  · simp at h0
  have hle : xs.length * sz ≤ cap * sz := Nat.mul_le_mul_right _ h3
  have hfl := flatten_len h1
  refine ⟨cap, h3, ?_⟩
  have hr : Cz gs (dom hs) Pr w (.sl k 0 xs.length cap) (gs k).hd := by rw [h2]; exact .sl k 0 _ cap hk
  have hlive : live (gs k) (getO hs k) := by rw [ho]; show (gs k).hd ≠ _; rw [h2]; simp
  generalize hN : AObj.arr t (xs.flatten ++ List.replicate (cap * sz - xs.length * sz) .any) = N
  have hob : ObjOK gs (dom hs) Pr w (gs k) N := by
    rw [← hN]
    refine ⟨c, fr, h4, h5, h6, by rw [h7, List.length_append, List.length_replicate, hfl]; omega, fun j a v e1 e2 => ?_⟩
    by_cases hj : j < xs.flatten.length
    · rw [List.getElem?_append_left hj] at e1
      obtain ⟨i, row, q, f1, f2, rfl⟩ := flat_atE h1 j a e1
      exact h8 i row q a v f1 f2 e2
    · rw [List.getElem?_append_right (by omega)] at e1
      obtain rfl := List.eq_of_mem_replicate (List.mem_of_getElem? e1)
      exact .any v
  have hNl : live (gs k) N ∧ ¬ isGrow N := by rw [← hN]; exact ⟨trivial, fun h => h⟩
  generalize hR : AV.sl k 0 xs.length cap = R at *
  have hlen : lenO (setO (mapO (frzO k R) hs) k N) = lenO hs := by
    rw [lenO_eq, setO_eq, List.length_set, ← lenO_eq, mapO_len]
  have hdom : dom (setO (mapO (frzO k R) hs) k N) = dom hs := by unfold dom; rw [hlen]
  have hget : ∀ j, getO (setO (mapO (frzO k R) hs) k N) j = if j = k then N else frzO k R (getO hs j) := by
    intro j
    rw [getO_set (by rw [mapO_len]; exact hk)]
    unfold upd
    split
    · rfl
    · exact mapO_get _ rfl hs j
  have hlv : ∀ j, live (gs j) (getO (setO (mapO (frzO k R) hs) k N) j) → live (gs j) (getO hs j) := by
    intro j hl
    rw [hget] at hl
    split at hl
    · rename_i e; rw [e]; exact hlive
    · cases h : getO hs j <;> rw [h] at hl <;> exact hl
  refine ⟨⟨⟨fun j hj => ?_, fun i j hi hj li lj e => ?_, fun j hj lj => ?_, C.rep.pr, C.rep.gl⟩, by rw [mapA_len]; exact C.size, fun i => ?_, C.dfs, C.kp, C.p0, C.pm, C.agree, by rw [hlen]; exact C.len0, fun j hj hg => ?_⟩, fun x v h => by rw [hdom]; exact slz_ok hr h⟩
  · rw [hdom] at hj ⊢
    rw [hget]
    split
    · rename_i e; rw [e]; exact hob
    · exact slzO_ok hr (C.rep.obj j hj)
  · rw [hdom] at hi hj
    exact C.rep.inj i j hi hj (hlv i li) (hlv j lj) e
  · rw [hdom] at hj
    exact C.rep.mine j hj (hlv j lj)
  · rw [hdom]
    have := C.tms i
    rw [getL_eq, List.getD_eq_getElem?_getD] at this ⊢
    rw [mapA_get]
    cases h : tm[i]? with
    | none => exact .any _
    | some x => rw [h] at this; exact slz_ok hr this
  · rw [hget] at hg
    split at hg
    · exact absurd hg hNl.2
    · refine C.kind j hj ?_
      cases h : getO hs j <;> rw [h] at hg <;> first | exact hg | trivial
theorem aw_sl {P : Program} {rs : List ARes} {todo : List AItem} {tm : List AV} {hs : List AObj} {post : AV → List AObj → Prop} (k t sz : Nat) (xs : List (List AV)) (ho : getO hs k = .grow t sz xs) (h0 : 0 < xs.length)
    (h : ∀ cap, xs.length ≤ cap → AW P rs todo (mapA (frz k (.sl k 0 xs.length cap)) tm) (setO (mapO (frzO k (.sl k 0 xs.length cap)) hs) k (.arr t (xs.flatten ++ List.replicate (cap * sz - xs.length * sz) .any))) post) : AW P rs todo tm hs post := by
  intro fn hrs E mt hi gs Pr a w C
  obtain ⟨cap, h1, C2, _⟩ := conc_sl C k t sz xs ho h0
  exact h cap h1 fn hrs E mt hi gs Pr a w C2
end Go.Proofs.YtlnafekmiidpkaaDoor.S
