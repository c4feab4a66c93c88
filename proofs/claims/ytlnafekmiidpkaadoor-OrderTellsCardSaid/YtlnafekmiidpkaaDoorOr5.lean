/- Contracts of order: Add of tables of done requests, as abstract ones. -/
import Derived.Test.YtlnafekmiidpkaaDoorOr4
import Derived.Test.YtlnafekmiidpkaaDoorOd1
namespace Go.Proofs.YtlnafekmiidpkaaDoor.S
open Go.RowKit
set_option linter.all false
set_option maxRecDepth 100000
set_option maxHeartbeats 2000000
theorem acalls_of_pure {P : Program} {f : Nat} {args : List AV} {vs0 : Array Value} {r : AV} {rv : Value} (he : entersB P f = true) (hvs : ∀ gs D Pr w vs, Czs gs D Pr w args vs → vs = vs0) (hr : ∀ gs D Pr w, Cz gs D Pr w r rv) (h : ∀ w, Calls P f vs0 w fun e w' => e = .returned rv ∧ Below w.heap.size w w') : ACalls P f args [] (fun r' hs => r' = r ∧ hs = []) := by
  refine ⟨he, fun gs Pr w vs hrep hv => ?_⟩
  rw [hvs _ _ _ _ _ hv]
  refine (h w).mono fun e w' ⟨h1, h2⟩ => ?_
  subst h1
  refine ⟨rv, r, [], gs, Pr, rfl, ⟨rfl, rfl⟩, hr _ _ _ _, ?_, ?_, fun b hb => hb, fun b hb => .inl hb, fun k hk => absurd hk (Nat.not_lt_zero k), Nat.le_refl _, fun k hk => absurd hk (Nat.not_lt_zero k)⟩
  · exact ⟨fun k hk => absurd hk (Nat.not_lt_zero k), fun i j hi => absurd hi (Nat.not_lt_zero i), fun k hk => absurd hk (Nat.not_lt_zero k), fun b hb => Nat.lt_of_lt_of_le (hrep.pr b hb) h2.size, hrep.gl.mono (fun _ h => h) (fun b hb => h2.block b (hrep.pr b hb))⟩
  · exact ⟨h2.os, h2.tape, h2.output, h2.size, fun b hb _ => h2.block b hb⟩
theorem tcs_of {Pr : Nat → Prop} {w : World} : ∀ (t : List (Int × Int)) (l : List Value), l.length = (cellsT t).length → (∀ (j : Nat) a v, (cellsT t)[j]? = some a → l[j]? = some v → Lf Pr w a v) → l = tcs t
  | [], l, h, _ => by
    have : l = [] := by simpa [cellsT] using h
    rw [this]; rfl
  | x :: t, l, h, hv => by
    match l, h with
    | a :: b :: l, h =>
      have h1 := hv 0 _ a rfl rfl
      have h2 := hv 1 _ b rfl rfl
      cases h1; cases h2
      have := tcs_of t l (by rw [cellsT_cons] at h; simpa using h) (fun j a v e1 e2 => hv (j + 2) a v (by rw [cellsT_cons]; simpa using e1) (by simpa using e2))
      rw [this]; rfl
theorem tab_val {Pr : Nat → Prop} {w : World} {t : List (Int × Int)} {v : Value} (h : Lf Pr w (.arr (cellsT t)) v) : v = .agg (cells t) := by
  cases h with
  | arr cs vs hn h hc =>
    have := tcs_of t vs.toList (by simpa using hn) (fun j a v e1 e2 => h j a v e1 (by simpa using e2))
    unfold cells
    rw [← this]
theorem tcs_lf {Pr : Nat → Prop} {w : World} : ∀ (t : List (Int × Int)), (tcs t).length = (cellsT t).length ∧ (∀ (j : Nat) a v, (cellsT t)[j]? = some a → (tcs t)[j]? = some v → Lf Pr w a v) ∧ ∀ v ∈ tcs t, v.oneCell' = true
  | [] => ⟨rfl, fun j a v h => by simp [cellsT] at h, fun v h => by simp [tcs] at h⟩
  | x :: t => by
    obtain ⟨h1, h2, h3⟩ := tcs_lf (Pr := Pr) (w := w) t
    have e : tcs (x :: t) = .int .u64 x.1 :: .int .u16 x.2 :: tcs t := rfl
    refine ⟨by rw [e, cellsT_cons]; simp [h1], fun j a v e1 e2 => ?_, fun v hv => ?_⟩
    · rw [cellsT_cons] at e1
      rw [e] at e2
      match j with
      | 0 => simp at e1 e2; subst e1; subst e2; exact .int _ _
      | 1 => simp at e1 e2; subst e1; subst e2; exact .int _ _
      | j + 2 => exact h2 j a v (by simpa using e1) (by simpa using e2)
    · rw [e] at hv
      rcases List.mem_cons.1 hv with rfl | hv
      · rfl
      rcases List.mem_cons.1 hv with rfl | hv
      · rfl
      · exact h3 v hv
theorem tab_lf {Pr : Nat → Prop} {w : World} (t : List (Int × Int)) : Lf Pr w (.arr (cellsT t)) (.agg (cells t)) := by
  obtain ⟨h1, h2, h3⟩ := tcs_lf (Pr := Pr) (w := w) t
  exact .arr _ _ (by unfold cells; simpa using h1) (fun j a v e1 e2 => h2 j a v e1 (by unfold cells at e2; simpa using e2)) (fun v hv => h3 v (by unfold cells at hv; simpa using hv))
theorem args3 {gs : Nat → Gh} {D Pr : Nat → Prop} {w : World} {vs : Array Value} {t : List (Int × Int)} {c r : Int} (h : Czs gs D Pr w [tabA t, .int .u64 c, .int .u64 r] vs) : vs = #[.agg (cells t), .int .u64 c, .int .u64 r] := by
  obtain ⟨hn, hv⟩ := h
  obtain ⟨l⟩ := vs
  match l, hn with
  | [a, b, d], _ =>
    have h1 := tab_val (hv 0 _ a rfl rfl).arr_
    have h2 := (hv 1 _ b rfl rfl).int
    have h3 := (hv 2 _ d rfl rfl).int
    rw [h1, h2, h3]
theorem res2c {gs : Nat → Gh} {D Pr : Nat → Prop} {w : World} (t : List (Int × Int)) (b : Bool) : Cz gs D Pr w (.tup [tabA t, .bool b]) (.tuple #[.agg (cells t), .bool b]) := by
  refine .tup _ _ rfl fun j a v e1 e2 => ?_
  match j with
  | 0 => simp at e1 e2; subst e1; subst e2; exact .lf (tab_lf t)
  | 1 => simp at e1 e2; subst e1; subst e2; exact .lf (.bool b)
  | j + 2 => simp at e1
theorem add_c (t : List (Int × Int)) (ht : TOk t) (c r : Int) (hr : K.U64 r) : ACalls Tryd.prog 27 [tabA t, .int .u64 c, .int .u64 r] [] (fun r' hs => r' = .tup [tabA (addT t c r).1, .bool (addT t c r).2] ∧ hs = []) :=
  acalls_of_pure en_27 (fun _ _ _ _ _ h => args3 h) (fun _ _ _ _ => res2c _ _) (fun w => add_any t ht c r hr w)
theorem radd_c (t : List (Int × Int)) (ht : TOk t) (c r : Int) (hr : K.U64 r) : ACalls Tryd.prog 31 [tabA t, .int .u64 c, .int .u64 r] [] (fun r' hs => r' = .tup [tabA (addT t c r).1, .bool (addT t c r).2] ∧ hs = []) := by
  have h := fun w => radd_any t ht c r hr w
  rw [addT_eq ht hr] at h
  exact acalls_of_pure en_31 (fun _ _ _ _ _ h => args3 h) (fun _ _ _ _ => res2c _ _) h
theorem addT_len {t : List (Int × Int)} (ht : t.length = 8) (c r : Int) : (addT t c r).1.length = 8 := by
  unfold addT setC
  split
  · simpa using ht
  · exact ht
end Go.Proofs.YtlnafekmiidpkaaDoor.S
