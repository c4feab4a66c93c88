/- Contracts, picked of my other texts. -/
import Derived.Test.YtlnafekmiidpkaaDoorOs1
import Derived.Test.YtlnafekmiidpkaaDoorOd4
namespace Go.Proofs.YtlnafekmiidpkaaDoor.S
open Go.RowKit
set_option linter.all false
set_option maxRecDepth 100000
set_option maxHeartbeats 4000000
theorem acalls_of_pure {P : Program} {f : Nat} {args : List AV} {vs0 : Array Value} {r : AV} {rv : Value} (he : entersB P f = true) (hvs : ∀ gs D Pr w vs, Czs gs D Pr w args vs → vs = vs0) (hr : ∀ gs D Pr w, Cz gs D Pr w r rv) (h : ∀ w, Calls P f vs0 w fun e w' => e = .returned rv ∧ Below w.heap.size w w') : ACalls P f args [] (fun r' hs => r' = r ∧ hs = []) := by
  refine ⟨he, fun gs Pr w vs hrep hv => ?_⟩
  rw [hvs _ _ _ _ _ hv]
  refine (h w).mono fun e w' ⟨h1, h2⟩ => ?_
  subst h1
  refine ⟨rv, r, [], gs, Pr, rfl, ⟨rfl, rfl⟩, hr _ _ _ _, ?_, ?_, fun b hb => hb, fun b hb => .inl hb, fun k hk => absurd hk (Nat.not_lt_zero k), Nat.le_refl _, fun k hk => absurd hk (Nat.not_lt_zero k)⟩
  · exact ⟨fun k hk => absurd hk (Nat.not_lt_zero k), fun i j hi => absurd hi (Nat.not_lt_zero i), fun k hk => absurd hk (Nat.not_lt_zero k), fun b hb => Nat.lt_of_lt_of_le (hrep.pr b hb) h2.size, hrep.gl.mono (fun _ h => h) (fun b hb => h2.block b (hrep.pr b hb))⟩
  · exact ⟨h2.os, h2.tape, h2.output, h2.size, fun b hb _ => h2.block b hb⟩
theorem tcs_of {Pr : Nat → Prop} {w : World} : ∀ (t : List (Int × Int)) (l : List Value), l.length = (cellsT t).length → (∀ (j : Nat) a v, (cellsT t)[j]? = some a → l[j]? = some v → Lf Pr w a v) → l = tcs t
  | [], l, h, _ => by
    have : l = [] := by simpa [cellsT] using h
    rw [this]; rfl
  | x :: t, l, h, hv => by
    match l, h with
    | a :: b :: l, h =>
      have h1 := hv 0 _ a rfl rfl
      have h2 := hv 1 _ b rfl rfl
      cases h1; cases h2
      have := tcs_of t l (by rw [cellsT_cons] at h; simpa using h) (fun j a v e1 e2 => hv (j + 2) a v (by rw [cellsT_cons]; simpa using e1) (by simpa using e2))
      rw [this]; rfl
theorem tab_val {Pr : Nat → Prop} {w : World} {t : List (Int × Int)} {v : Value} (h : Lf Pr w (.arr (cellsT t)) v) : v = .agg (cells t) := by
  cases h with
  | arr cs vs hn h hc =>
    have := tcs_of t vs.toList (by simpa using hn) (fun j a v e1 e2 => h j a v e1 (by simpa using e2))
    unfold cells
    rw [← this]
theorem tcs_lf {Pr : Nat → Prop} {w : World} : ∀ (t : List (Int × Int)), (tcs t).length = (cellsT t).length ∧ (∀ (j : Nat) a v, (cellsT t)[j]? = some a → (tcs t)[j]? = some v → Lf Pr w a v) ∧ ∀ v ∈ tcs t, v.oneCell' = true
  | [] => ⟨rfl, fun j a v h => by simp [cellsT] at h, fun v h => by simp [tcs] at h⟩
  | x :: t => by
    obtain ⟨h1, h2, h3⟩ := tcs_lf (Pr := Pr) (w := w) t
    have e : tcs (x :: t) = .int .u64 x.1 :: .int .u16 x.2 :: tcs t := rfl
    refine ⟨by rw [e, cellsT_cons]; simp [h1], fun j a v e1 e2 => ?_, fun v hv => ?_⟩
    · rw [cellsT_cons] at e1
      rw [e] at e2
      match j with
      | 0 => simp at e1 e2; subst e1; subst e2; exact .int _ _
      | 1 => simp at e1 e2; subst e1; subst e2; exact .int _ _
      | j + 2 => exact h2 j a v (by simpa using e1) (by simpa using e2)
    · rw [e] at hv
      rcases List.mem_cons.1 hv with rfl | hv
      · rfl
      rcases List.mem_cons.1 hv with rfl | hv
      · rfl
      · exact h3 v hv
theorem tab_lf {Pr : Nat → Prop} {w : World} (t : List (Int × Int)) : Lf Pr w (.arr (cellsT t)) (.agg (cells t)) := by
  obtain ⟨h1, h2, h3⟩ := tcs_lf (Pr := Pr) (w := w) t
  exact .arr _ _ (by unfold cells; simpa using h1) (fun j a v e1 e2 => h2 j a v e1 (by unfold cells at e2; simpa using e2)) (fun v hv => h3 v (by unfold cells at hv; simpa using hv))
theorem args3 {gs : Nat → Gh} {D Pr : Nat → Prop} {w : World} {vs : Array Value} {t : List (Int × Int)} {c r : Int} (h : Czs gs D Pr w [tabA t, .int .u64 c, .int .u64 r] vs) : vs = #[.agg (cells t), .int .u64 c, .int .u64 r] := by
  obtain ⟨hn, hv⟩ := h
  obtain ⟨l⟩ := vs
  match l, hn with
  | [a, b, d], _ =>
    have h1 := tab_val (hv 0 _ a rfl rfl).arr_
    have h2 := (hv 1 _ b rfl rfl).int
    have h3 := (hv 2 _ d rfl rfl).int
    rw [h1, h2, h3]
theorem res2c {gs : Nat → Gh} {D Pr : Nat → Prop} {w : World} (t : List (Int × Int)) (b : Bool) : Cz gs D Pr w (.tup [tabA t, .bool b]) (.tuple #[.agg (cells t), .bool b]) := by
  refine .tup _ _ rfl fun j a v e1 e2 => ?_
  match j with
  | 0 => simp at e1 e2; subst e1; subst e2; exact .lf (tab_lf t)
  | 1 => simp at e1 e2; subst e1; subst e2; exact .lf (.bool b)
  | j + 2 => simp at e1
theorem add_c (t : List (Int × Int)) (ht : TOk t) (c r : Int) (hr : K.U64 r) : ACalls Tryd.prog 27 [tabA t, .int .u64 c, .int .u64 r] [] (fun r' hs => r' = .tup [tabA (addT t c r).1, .bool (addT t c r).2] ∧ hs = []) :=
  acalls_of_pure en_27 (fun _ _ _ _ _ h => args3 h) (fun _ _ _ _ => res2c _ _) (fun w => add_any t ht c r hr w)
theorem addT_len {t : List (Int × Int)} (ht : t.length = 8) (c r : Int) : (addT t c r).1.length = 8 := by
  unfold addT setC
  split
  · simpa using ht
  · exact ht
/-- What an entry does to an image: the image then, and the error. -/
def doI (m : Mk) (s : ByteArray) (t : List (Int × Int)) (e : En) : (Mk × ByteArray × List (Int × Int)) × Int :=
  if hasM m e.i.toNat = true then ((m, s, t), 41) else
  if (setM m e.i.toNat).2 ≠ 0 then ((m, s, t), (setM m e.i.toNat).2) else
  if e.k = 1 then (if putE s e.d e.l.f.toNat e.l.n.toNat ≠ 0 then ((m, s, t), putE s e.d e.l.f.toNat e.l.n.toNat) else (((setM m e.i.toNat).1, putB s e.d e.l.f.toNat e.l.n.toNat, (addT t e.l.c e.l.r).1), 0)) else (((setM m e.i.toNat).1, s, t), 0)
theorem do_c (m : Mk) (gm : Gd m) (s : ByteArray) (hs : s.size ≤ 3000) (t : List (Int × Int)) (hT : TOk t) (e : En) (he : EnOK e) (hd : e.d.size ≤ 20000) : ACalls Tryd.prog 9 [imA m s t, enA e] [] (fun r hs => r = .tup [imA (doI m s t e).1.1 (doI m s t e).1.2.1 (doI m s t e).1.2.2, .int .i64 (doI m s t e).2] ∧ hs = []) := by
  have hei := he.i
  obtain ⟨l1, l2, l3, l4⟩ := he.l
  have hlk := look_ e
  obtain ⟨i, tt, ss, k, ⟨c, r, F, C⟩, d, bb⟩ := e
  simp only [] at hei l1 l2 l3 l4 hd hlk ⊢
  unfold U64 at hei l1 l2
  unfold U32 at l3 l4
  obtain ⟨x, rfl⟩ : ∃ x : Nat, i = x := ⟨i.toNat, by omega⟩
  obtain ⟨F, rfl⟩ : ∃ x : Nat, F = x := ⟨F.toNat, by omega⟩
  obtain ⟨C, rfl⟩ : ∃ x : Nat, C = x := ⟨C.toNat, by omega⟩
  have c1 := has_c m x (gd_ok gm) (by omega)
  have c2 := set_c m x gm.b gm.l (by omega)
  have c3 := put_i m s hs t hT.len F C (by omega) (by omega) d hd
  have c4 := add_c t hT c r ⟨by omega, by omega⟩
  have hD : doI m s t ⟨(x : Int), tt, ss, k, ⟨c, r, (F : Int), (C : Int)⟩, d, bb⟩ = if hasM m x = true then ((m, s, t), 41) else if (setM m x).2 ≠ 0 then ((m, s, t), (setM m x).2) else if k = 1 then (if putE s d F C ≠ 0 then ((m, s, t), putE s d F C) else (((setM m x).1, putB s d F C, (addT t c r).1), 0)) else (((setM m x).1, s, t), 0) := rfl
  generalize doI m s t ⟨(x : Int), tt, ss, k, ⟨c, r, (F : Int), (C : Int)⟩, d, bb⟩ = D at *
  have hl2 := addT_len hT.len c r
  generalize addT t c r = U at *
  obtain ⟨u, ub⟩ := U
  simp only [] at hl2 c4 hD
  generalize putE s d F C = pe at *
  generalize putB s d F C = pb at *
  generalize setM m x = S at *
  obtain ⟨sm, se⟩ := S
  generalize hasM m x = hv at *
  have htl := hT.len
  clear hT
  obtain ⟨a0, a1, a2, a3, a4, a5, a6, a7, rfl⟩ := t8 htl
  obtain ⟨b0, b1, b2, b3, b4, b5, b6, b7, rfl⟩ := t8 hl2
  simp only [imA, imC, tabA, cellsT8, mkA, enA, lkA] at *
  refine acalls_weak (acalls_of (fn := Tryd.f9) (A := a9) Tryd.func9 ok_9 en_9 ?_)
  dsimp only [a9, cellsT8]
  (refine eval_sound 2000 _ _ _ ?_; simp (maxSteps := 1000000) only [ptrL, lenV, Bool.not_true, Bool.not_false, lookR, valOf, asGrow, jump, findA, restA, and, Nat.reduceAdd, Nat.reduceSub, Nat.reduceMul, Int.reduceToNat, eval, nf, nfO, opN, appTo, rowsV, getL, setL, getO, setO, snocO, lenO, putL, ev, evs, ifEq, killV, killL, kill1, kill1L, kill, kills, killO, killOs, bin, binI, binS, binB, eq1, eqB, lit, sameK, kn, unI, mxA, mnA, mkAgg, fits, partN, partA, resN, retV, allVal, isVal, allCell, isCell, okVal, okCell, cellsOf, fillN, rowsN, cellsN, bnd, lohi, offAt, overL, segL, leave, NodeOK, List.cons_append, List.nil_append, List.append_nil, catA, anys, lenA])
  ((repeat (with_reducible refine And.intro ?_ ?_; focus (simp; done))); refine aw_call (c1) [] rfl (by simp [upM, nthN, matchO, rens, ren, ren1, ren1L, renL, renV, renO, rl, lenO, getO, Nat.blt, mtc, mtcS, mtcSL, mtc0, mtc0L, cellsT8]) rfl (by simp [upM, nthN, matchO, rens, ren, ren1, ren1L, renL, renV, renO, rl, lenO, getO, Nat.blt, mtc, mtcS, mtcSL, mtc0, mtc0L, cellsT8]) rfl (fun r hs hp hl => ?_); obtain ⟨rfl, rfl⟩ := hp; simp only [snocO, upM, nthN, putAll, snocAll, killsA, killOsA, grows, putL, rl, renV, renL, ren1, ren1L, ren, rens, renO, Nat.blt, lenO, getO, setO, setL, anys, cellsT8]; (refine eval_sound 2000 _ _ _ ?_; simp (maxSteps := 1000000) only [ptrL, lenV, Bool.not_true, Bool.not_false, lookR, valOf, asGrow, jump, findA, restA, and, Nat.reduceAdd, Nat.reduceSub, Nat.reduceMul, Int.reduceToNat, eval, nf, nfO, opN, appTo, rowsV, getL, setL, getO, setO, snocO, lenO, putL, ev, evs, ifEq, killV, killL, kill1, kill1L, kill, kills, killO, killOs, bin, binI, binS, binB, eq1, eqB, lit, sameK, kn, unI, mxA, mnA, mkAgg, fits, partN, partA, resN, retV, allVal, isVal, allCell, isCell, okVal, okCell, cellsOf, fillN, rowsN, cellsN, bnd, lohi, offAt, overL, segL, leave, NodeOK, List.cons_append, List.nil_append, List.append_nil, catA, anys, lenA]))
  refine ⟨fun h1 => ?_, fun h1 => ?_⟩
  · rw [if_pos h1] at hD
    subst hD
    ((repeat (with_reducible refine And.intro ?_ ?_; focus (simp; done))); refine ⟨[], rfl, _, _, ?_, ?_, rfl, rfl⟩ <;> simp [Wk, mtc, mtcS, mtcSL, mtc0, mtc0L, mtcL, mtcO, mtcOs, cutM, takeE, stA, rl, renV, renL, ren1, ren1L, ren, rens, renO, Nat.blt, lenO, getO, setO, setL, anys, okS, endM, endH, idxN, takeE, pickE, catO, rl, renV, renL, ren1, ren1L, ren, rens, renO, Nat.blt, lenO, getO, setO, setL, anys, cellsT8])
  rw [if_neg (by rw [h1]; simp)] at hD
  (repeat (with_reducible refine And.intro ?_ ?_; focus (simp; done)))
  ((repeat (with_reducible refine And.intro ?_ ?_; focus (simp; done))); refine aw_call (c2) [] rfl (by simp [upM, nthN, matchO, rens, ren, ren1, ren1L, renL, renV, renO, rl, lenO, getO, Nat.blt, mtc, mtcS, mtcSL, mtc0, mtc0L, cellsT8]) rfl (by simp [upM, nthN, matchO, rens, ren, ren1, ren1L, renL, renV, renO, rl, lenO, getO, Nat.blt, mtc, mtcS, mtcSL, mtc0, mtc0L, cellsT8]) rfl (fun r hs hp hl => ?_); obtain ⟨rfl, rfl⟩ := hp; simp only [snocO, upM, nthN, putAll, snocAll, killsA, killOsA, grows, putL, rl, renV, renL, ren1, ren1L, ren, rens, renO, Nat.blt, lenO, getO, setO, setL, anys, cellsT8]; (refine eval_sound 2000 _ _ _ ?_; simp (maxSteps := 1000000) only [ptrL, lenV, Bool.not_true, Bool.not_false, lookR, valOf, asGrow, jump, findA, restA, and, Nat.reduceAdd, Nat.reduceSub, Nat.reduceMul, Int.reduceToNat, eval, nf, nfO, opN, appTo, rowsV, getL, setL, getO, setO, snocO, lenO, putL, ev, evs, ifEq, killV, killL, kill1, kill1L, kill, kills, killO, killOs, bin, binI, binS, binB, eq1, eqB, lit, sameK, kn, unI, mxA, mnA, mkAgg, fits, partN, partA, resN, retV, allVal, isVal, allCell, isCell, okVal, okCell, cellsOf, fillN, rowsN, cellsN, bnd, lohi, offAt, overL, segL, leave, NodeOK, List.cons_append, List.nil_append, List.append_nil, catA, anys, lenA]))
  (repeat (with_reducible refine And.intro ?_ ?_; focus (simp; done)))
  refine ⟨fun h2 => ?_, fun h2 => ?_⟩
  · rw [if_pos (by simpa using h2)] at hD
    subst hD
    ((repeat (with_reducible refine And.intro ?_ ?_; focus (simp; done))); refine ⟨[], rfl, _, _, ?_, ?_, rfl, rfl⟩ <;> simp [Wk, mtc, mtcS, mtcSL, mtc0, mtc0L, mtcL, mtcO, mtcOs, cutM, takeE, stA, rl, renV, renL, ren1, ren1L, ren, rens, renO, Nat.blt, lenO, getO, setO, setL, anys, okS, endM, endH, idxN, takeE, pickE, catO, rl, renV, renL, ren1, ren1L, ren, rens, renO, Nat.blt, lenO, getO, setO, setL, anys, cellsT8])
  rw [if_neg (by simpa using h2)] at hD
  (repeat (with_reducible refine And.intro ?_ ?_; focus (simp; done)))
  refine ⟨fun h3 => ?_, fun h3 => ?_⟩
  · rw [if_pos (by simpa using h3)] at hD
    (repeat (with_reducible refine And.intro ?_ ?_; focus (simp; done)))
    ((repeat (with_reducible refine And.intro ?_ ?_; focus (simp; done))); refine aw_call (c3) [] rfl (by simp [upM, nthN, matchO, rens, ren, ren1, ren1L, renL, renV, renO, rl, lenO, getO, Nat.blt, mtc, mtcS, mtcSL, mtc0, mtc0L, cellsT8]) rfl (by simp [upM, nthN, matchO, rens, ren, ren1, ren1L, renL, renV, renO, rl, lenO, getO, Nat.blt, mtc, mtcS, mtcSL, mtc0, mtc0L, cellsT8]) rfl (fun r hs hp hl => ?_); obtain ⟨rfl, rfl⟩ := hp; simp only [snocO, upM, nthN, putAll, snocAll, killsA, killOsA, grows, putL, rl, renV, renL, ren1, ren1L, ren, rens, renO, Nat.blt, lenO, getO, setO, setL, anys, cellsT8]; (refine eval_sound 2000 _ _ _ ?_; simp (maxSteps := 1000000) only [ptrL, lenV, Bool.not_true, Bool.not_false, lookR, valOf, asGrow, jump, findA, restA, and, Nat.reduceAdd, Nat.reduceSub, Nat.reduceMul, Int.reduceToNat, eval, nf, nfO, opN, appTo, rowsV, getL, setL, getO, setO, snocO, lenO, putL, ev, evs, ifEq, killV, killL, kill1, kill1L, kill, kills, killO, killOs, bin, binI, binS, binB, eq1, eqB, lit, sameK, kn, unI, mxA, mnA, mkAgg, fits, partN, partA, resN, retV, allVal, isVal, allCell, isCell, okVal, okCell, cellsOf, fillN, rowsN, cellsN, bnd, lohi, offAt, overL, segL, leave, NodeOK, List.cons_append, List.nil_append, List.append_nil, catA, anys, lenA]))
    (repeat (with_reducible refine And.intro ?_ ?_; focus (simp; done)))
    refine ⟨fun h4 => ?_, fun h4 => ?_⟩
    · rw [if_pos (by simpa using h4)] at hD
      subst hD
      ((repeat (with_reducible refine And.intro ?_ ?_; focus (simp; done))); refine ⟨[], rfl, _, _, ?_, ?_, rfl, rfl⟩ <;> simp [Wk, mtc, mtcS, mtcSL, mtc0, mtc0L, mtcL, mtcO, mtcOs, cutM, takeE, stA, rl, renV, renL, ren1, ren1L, ren, rens, renO, Nat.blt, lenO, getO, setO, setL, anys, okS, endM, endH, idxN, takeE, pickE, catO, rl, renV, renL, ren1, ren1L, ren, rens, renO, Nat.blt, lenO, getO, setO, setL, anys, cellsT8])
    rw [if_neg (by simpa using h4)] at hD
    subst hD
    (repeat (with_reducible refine And.intro ?_ ?_; focus (simp; done)))
    ((repeat (with_reducible refine And.intro ?_ ?_; focus (simp; done))); refine aw_call (hlk) [] rfl (by simp [upM, nthN, matchO, rens, ren, ren1, ren1L, renL, renV, renO, rl, lenO, getO, Nat.blt, mtc, mtcS, mtcSL, mtc0, mtc0L, cellsT8]) rfl (by simp [upM, nthN, matchO, rens, ren, ren1, ren1L, renL, renV, renO, rl, lenO, getO, Nat.blt, mtc, mtcS, mtcSL, mtc0, mtc0L, cellsT8]) rfl (fun r hs hp hl => ?_); obtain ⟨rfl, rfl⟩ := hp; simp only [snocO, upM, nthN, putAll, snocAll, killsA, killOsA, grows, putL, rl, renV, renL, ren1, ren1L, ren, rens, renO, Nat.blt, lenO, getO, setO, setL, anys, cellsT8]; (refine eval_sound 2000 _ _ _ ?_; simp (maxSteps := 1000000) only [ptrL, lenV, Bool.not_true, Bool.not_false, lookR, valOf, asGrow, jump, findA, restA, and, Nat.reduceAdd, Nat.reduceSub, Nat.reduceMul, Int.reduceToNat, eval, nf, nfO, opN, appTo, rowsV, getL, setL, getO, setO, snocO, lenO, putL, ev, evs, ifEq, killV, killL, kill1, kill1L, kill, kills, killO, killOs, bin, binI, binS, binB, eq1, eqB, lit, sameK, kn, unI, mxA, mnA, mkAgg, fits, partN, partA, resN, retV, allVal, isVal, allCell, isCell, okVal, okCell, cellsOf, fillN, rowsN, cellsN, bnd, lohi, offAt, overL, segL, leave, NodeOK, List.cons_append, List.nil_append, List.append_nil, catA, anys, lenA]))
    (repeat (with_reducible refine And.intro ?_ ?_; focus (simp; done)))
    ((repeat (with_reducible refine And.intro ?_ ?_; focus (simp; done))); refine aw_call (c4) [] rfl (by simp [upM, nthN, matchO, rens, ren, ren1, ren1L, renL, renV, renO, rl, lenO, getO, Nat.blt, mtc, mtcS, mtcSL, mtc0, mtc0L, cellsT8]) rfl (by simp [upM, nthN, matchO, rens, ren, ren1, ren1L, renL, renV, renO, rl, lenO, getO, Nat.blt, mtc, mtcS, mtcSL, mtc0, mtc0L, cellsT8]) rfl (fun r hs hp hl => ?_); obtain ⟨rfl, rfl⟩ := hp; simp only [snocO, upM, nthN, putAll, snocAll, killsA, killOsA, grows, putL, rl, renV, renL, ren1, ren1L, ren, rens, renO, Nat.blt, lenO, getO, setO, setL, anys, cellsT8]; (refine eval_sound 2000 _ _ _ ?_; simp (maxSteps := 1000000) only [ptrL, lenV, Bool.not_true, Bool.not_false, lookR, valOf, asGrow, jump, findA, restA, and, Nat.reduceAdd, Nat.reduceSub, Nat.reduceMul, Int.reduceToNat, eval, nf, nfO, opN, appTo, rowsV, getL, setL, getO, setO, snocO, lenO, putL, ev, evs, ifEq, killV, killL, kill1, kill1L, kill, kills, killO, killOs, bin, binI, binS, binB, eq1, eqB, lit, sameK, kn, unI, mxA, mnA, mkAgg, fits, partN, partA, resN, retV, allVal, isVal, allCell, isCell, okVal, okCell, cellsOf, fillN, rowsN, cellsN, bnd, lohi, offAt, overL, segL, leave, NodeOK, List.cons_append, List.nil_append, List.append_nil, catA, anys, lenA]))
    (repeat (with_reducible refine And.intro ?_ ?_; focus (simp; done)))
    ((repeat (with_reducible refine And.intro ?_ ?_; focus (simp; done))); refine ⟨[], rfl, _, _, ?_, ?_, rfl, rfl⟩ <;> simp [Wk, mtc, mtcS, mtcSL, mtc0, mtc0L, mtcL, mtcO, mtcOs, cutM, takeE, stA, rl, renV, renL, ren1, ren1L, ren, rens, renO, Nat.blt, lenO, getO, setO, setL, anys, okS, endM, endH, idxN, takeE, pickE, catO, rl, renV, renL, ren1, ren1L, ren, rens, renO, Nat.blt, lenO, getO, setO, setL, anys, cellsT8])
  · rw [if_neg (by simpa using h3)] at hD
    subst hD
    ((repeat (with_reducible refine And.intro ?_ ?_; focus (simp; done))); refine ⟨[], rfl, _, _, ?_, ?_, rfl, rfl⟩ <;> simp [Wk, mtc, mtcS, mtcSL, mtc0, mtc0L, mtcL, mtcO, mtcOs, cutM, takeE, stA, rl, renV, renL, ren1, ren1L, ren, rens, renO, Nat.blt, lenO, getO, setO, setL, anys, okS, endM, endH, idxN, takeE, pickE, catO, rl, renV, renL, ren1, ren1L, ren, rens, renO, Nat.blt, lenO, getO, setO, setL, anys, cellsT8])
theorem chain1_c (n : Int) (i : Int) : ACalls Tryd.prog 38 [.int .i64 i, .ptr 0 0] [.arr 23 [.int .u64 n]] (fun r hs => r = .int .u64 (IntKind.u64.wrap (n + IntKind.u64.wrap i)) ∧ hs = [.arr 23 [.int .u64 n]]) := by
  refine acalls_weak (acalls_of (fn := Tryd.f38) (A := a38) Tryd.func38 ok_38 en_38 ?_)
  dsimp only [a38, enA]
  (refine eval_sound 2000 _ _ _ ?_; simp (maxSteps := 1000000) only [ptrL, lenV, Bool.not_true, Bool.not_false, lookR, valOf, asGrow, jump, findA, restA, and, Nat.reduceAdd, Nat.reduceSub, Nat.reduceMul, Int.reduceToNat, eval, nf, nfO, opN, appTo, rowsV, getL, setL, getO, setO, snocO, lenO, putL, ev, evs, ifEq, killV, killL, kill1, kill1L, kill, kills, killO, killOs, bin, binI, binS, binB, eq1, eqB, lit, sameK, kn, unI, mxA, mnA, mkAgg, fits, partN, partA, resN, retV, allVal, isVal, allCell, isCell, okVal, okCell, cellsOf, fillN, rowsN, cellsN, bnd, lohi, offAt, overL, segL, leave, NodeOK, List.cons_append, List.nil_append, List.append_nil, catA, anys, lenA])
  ((repeat (with_reducible refine And.intro ?_ ?_; focus (simp; done))); refine ⟨[], rfl, _, _, ?_, ?_, rfl, rfl⟩ <;> simp [Wk, mtc, mtcS, mtcSL, mtc0, mtc0L, mtcL, mtcO, mtcOs, cutM, takeE, stA, rl, renV, renL, ren1, ren1L, ren, rens, renO, Nat.blt, lenO, getO, setO, setL, anys, okS, endM, endH, idxN, takeE, pickE, catO, rl, renV, renL, ren1, ren1L, ren, rens, renO, Nat.blt, lenO, getO, setO, setL, anys, enA])
theorem lives1_c (b : Nat) : ACalls Tryd.prog 24 [.int .u32 (b : Nat)] [] (fun r hs => r = enA ⟨0, 0, 0, 1, ⟨0, 0, (b : Int), 1⟩, ⟨#[97, 98, 99, 100, 101, 102, 103, 104]⟩, []⟩ ∧ hs = []) := by
  refine acalls_weak (acalls_of (fn := Tryd.f24) (A := a24) Tryd.func24 ok_24 en_24 ?_)
  dsimp only [a24, enA]
  (refine eval_sound 2000 _ _ _ ?_; simp (maxSteps := 1000000) only [ptrL, lenV, Bool.not_true, Bool.not_false, lookR, valOf, asGrow, jump, findA, restA, and, Nat.reduceAdd, Nat.reduceSub, Nat.reduceMul, Int.reduceToNat, eval, nf, nfO, opN, appTo, rowsV, getL, setL, getO, setO, snocO, lenO, putL, ev, evs, ifEq, killV, killL, kill1, kill1L, kill, kills, killO, killOs, bin, binI, binS, binB, eq1, eqB, lit, sameK, kn, unI, mxA, mnA, mkAgg, fits, partN, partA, resN, retV, allVal, isVal, allCell, isCell, okVal, okCell, cellsOf, fillN, rowsN, cellsN, bnd, lohi, offAt, overL, segL, leave, NodeOK, List.cons_append, List.nil_append, List.append_nil, catA, anys, lenA])
  ((repeat (with_reducible refine And.intro ?_ ?_; focus (simp; done))); refine ⟨[], rfl, _, _, ?_, ?_, rfl, rfl⟩ <;> simp [Wk, mtc, mtcS, mtcSL, mtc0, mtc0L, mtcL, mtcO, mtcOs, cutM, takeE, stA, rl, renV, renL, ren1, ren1L, ren, rens, renO, Nat.blt, lenO, getO, setO, setL, anys, okS, endM, endH, idxN, takeE, pickE, catO, rl, renV, renL, ren1, ren1L, ren, rens, renO, Nat.blt, lenO, getO, setO, setL, anys, enA])
theorem copy0 (e : En) (he : e.b.length ≤ 1000000) : ACalls Tryd.prog 39 [enA e] [] (fun r hs => r = .agg [.int .u64 e.i, .int .u64 e.t, .int .u64 e.s, .int .i64 e.k, .int .u64 e.l.c, .int .u64 e.l.r, .int .u32 e.l.f, .int .u32 e.l.n, .str e.d, .sl 0 0 (e.b.map lkR).length (e.b.map lkR).length] ∧ hs = [.arr 75 (e.b.map lkR).flatten]) := by
  have hr : ∀ row ∈ e.b.map lkR, row.length = 4 := fun row h => by obtain ⟨x, _, rfl⟩ := List.mem_map.1 h; rfl
  have hf := flatten_len hr
  have hrp : ∀ (n : Nat), (List.replicate n [AV.int .u64 0, AV.int .u64 0, AV.int .u32 0, AV.int .u32 0]).flatten.length = n * 4 := fun n => by
    rw [flatten_len (z := 4) (fun row h => by rw [List.eq_of_mem_replicate h]; rfl), List.length_replicate]
  have hl : (e.b.map lkR).length ≤ 1000000 := by rw [List.length_map]; exact he
  refine acalls_weak (acalls_of (fn := Tryd.f39) (A := a39) Tryd.func39 ok_39 en_39 ?_)
  dsimp only [a39, enA]
  (refine eval_sound 2000 _ _ _ ?_; simp (maxSteps := 1000000) only [ptrL, lenV, Bool.not_true, Bool.not_false, lookR, valOf, asGrow, jump, findA, restA, and, Nat.reduceAdd, Nat.reduceSub, Nat.reduceMul, Int.reduceToNat, eval, nf, nfO, opN, appTo, rowsV, getL, setL, getO, setO, snocO, lenO, putL, ev, evs, ifEq, killV, killL, kill1, kill1L, kill, kills, killO, killOs, bin, binI, binS, binB, eq1, eqB, lit, sameK, kn, unI, mxA, mnA, mkAgg, fits, partN, partA, resN, retV, allVal, isVal, allCell, isCell, okVal, okCell, cellsOf, fillN, rowsN, cellsN, bnd, lohi, offAt, overL, segL, leave, NodeOK, List.cons_append, List.nil_append, List.append_nil, catA, anys, lenA])
  generalize e.b.map lkR = R at *
  simp only [Int.toNat_natCast]
  rw [over_all (by rw [List.length_take, hf, hrp]; omega), List.take_of_length_le (by rw [hf]; omega)]
  refine ⟨⟨by omega, by omega, by omega, by omega⟩, by rw [hrp]; omega, rfl, ?_⟩
  refine ⟨[2], rfl, _, _, ?_, ?_, rfl, rfl⟩ <;> simp [Wk, mtc, mtcS, mtcSL, mtc0, mtc0L, mtcL, mtcO, mtcOs, cutM, takeE, stA, rl, renV, renL, ren1, ren1L, ren, rens, renO, Nat.blt, lenO, getO, setO, setL, anys, okS, endM, endH, idxN, takeE, pickE, catO, rl, renV, renL, ren1, ren1L, ren, rens, renO, Nat.blt, lenO, getO, setO, setL, anys]
theorem copy_c (e : En) (he : e.b.length ≤ 1000000) : ACalls Tryd.prog 39 [enA e] [] (fun r hs => r = enA e ∧ hs = []) := by
  have hr : ∀ row ∈ e.b.map lkR, row.length = 4 := fun row h => by obtain ⟨x, _, rfl⟩ := List.mem_map.1 h; rfl
  refine acalls_tr (copy0 e he) fun r hs h => ?_
  obtain ⟨rfl, rfl⟩ := h
  exact ⟨_, _, _, _, _, trans_frA0 0 _ (e.b.map lkR) rfl (Nat.le_refl _) hr, by simp [snocO, mapA, frA, frA1, frAV, mapO, frAO, ifEq, setO, getO, getL, setL, Nat.beq_refl, List.length_map, Wk, mtc, mtcS, mtcSL, mtc0, mtc0L, mtcL, mtcO, mtcOs, cutM, takeE, stA, rl, renV, renL, ren1, ren1L, ren, rens, renO, Nat.blt, lenO, getO, setO, setL, anys, enA], rfl, rfl⟩
def chE (first n : Int) (out : List En) (k : Nat) (y : En) : En := ⟨IntKind.u64.wrap (first + IntKind.u64.wrap (k : Nat)), y.t, y.s, y.k, y.l, y.d, rowL out n⟩
def chN (l : List En) (first n : Int) : Nat → List En
  | 0 => []
  | k + 1 => match l[k]? with
    | none => chN l first n k
    | some y => chN l first n k ++ [chE first n (chN l first n k) k y]
theorem chN_len (l : List En) (first n : Int) : ∀ k, k ≤ l.length → (chN l first n k).length = k
  | 0, _ => rfl
  | k + 1, h => by
    obtain ⟨y, hy⟩ : ∃ y, l[k]? = some y := ⟨_, List.getElem?_eq_getElem (by omega)⟩
    simp only [chN, hy]
    rw [List.length_append, chN_len l first n k (by omega)]; rfl
theorem chain0 (l : List En) (first n : Int) (hl : l.length ≤ 200) (hb : ∀ e ∈ l, e.b.length ≤ 1000000) : ACalls Tryd.prog 18 [.ro 10 (l.map enR), .int .u64 first, .int .i64 n] [] (fun r hs => r = .own 0 ∧ hs = [.grow 43 10 ((chN l first n l.length).map enR)]) := by
  refine acalls_weak (acalls_of (fn := Tryd.f18) (A := a18) Tryd.func18 ok_18 en_18 ?_)
  dsimp only [a18]
  (refine eval_sound 5 _ _ _ ?_; simp only [ptrL, lenV, Bool.not_true, Bool.not_false, lookR, valOf, asGrow, jump, findA, restA, and, Nat.reduceAdd, Nat.reduceSub, Nat.reduceMul, Int.reduceToNat, eval, nf, nfO, opN, appTo, rowsV, getL, setL, getO, setO, snocO, lenO, putL, ev, evs, ifEq, killV, killL, kill1, kill1L, kill, kills, killO, killOs, bin, binI, binS, binB, eq1, eqB, lit, sameK, kn, unI, mxA, mnA, mkAgg, fits, partN, partA, resN, retV, allVal, isVal, allCell, isCell, okVal, okCell, cellsOf, fillN, rowsN, cellsN, bnd, lohi, offAt, overL, segL, leave, NodeOK, List.cons_append, List.nil_append, List.append_nil, catA, anys, lenA])
  refine aw_trans (trans_nil 6 43 10 (by simp) rfl) ?_
  simp only [lenO, snocO, setL]
  (refine eval_sound 2000 _ _ _ ?_; simp (maxSteps := 1000000) only [ptrL, lenV, Bool.not_true, Bool.not_false, lookR, valOf, asGrow, jump, findA, restA, and, Nat.reduceAdd, Nat.reduceSub, Nat.reduceMul, Int.reduceToNat, eval, nf, nfO, opN, appTo, rowsV, getL, setL, getO, setO, snocO, lenO, putL, ev, evs, ifEq, killV, killL, kill1, kill1L, kill, kills, killO, killOs, bin, binI, binS, binB, eq1, eqB, lit, sameK, kn, unI, mxA, mnA, mkAgg, fits, partN, partA, resN, retV, allVal, isVal, allCell, isCell, okVal, okCell, cellsOf, fillN, rowsN, cellsN, bnd, lohi, offAt, overL, segL, leave, NodeOK, List.cons_append, List.nil_append, List.append_nil, catA, anys, lenA])
  simp only [List.length_map]
  refine aw_loopU (α := Nat) (fun k => k ≤ l.length) (fun k => [(6, .own 1), (13, .int .i64 (k : Nat))]) (fun k => [(1, .grow 43 10 ((chN l first n k).map enR))]) (fun k => l.length - k) (0) (Nat.zero_le _) ?_ fun k hk => ?_
  · (simp only [wrC, wrOs, keepT, memN, setsL, setsO, setL, setO, snocO, List.cons_append, List.nil_append, List.append_nil, Nat.reduceAdd, Nat.zero_add, Wk, mtc, mtcS, mtcSL, mtc0, mtc0L, mtcL, mtcO, mtcOs, cutM, takeE, stA, rl, renV, renL, ren1, ren1L, ren, rens, renO, Nat.blt, lenO, getO, setO, setL, anys, enA, chN]; simp [enA, chN])
  (simp only [wrC, wrOs, keepT, memN, setsL, setsO, setL, setO, snocO, List.cons_append, List.nil_append, List.append_nil, Nat.reduceAdd, Nat.zero_add, enA]; (refine eval_sound 2000 _ _ _ ?_; simp (maxSteps := 1000000) only [ptrL, lenV, Bool.not_true, Bool.not_false, lookR, valOf, asGrow, jump, findA, restA, and, Nat.reduceAdd, Nat.reduceSub, Nat.reduceMul, Int.reduceToNat, eval, nf, nfO, opN, appTo, rowsV, getL, setL, getO, setO, snocO, lenO, putL, ev, evs, ifEq, killV, killL, kill1, kill1L, kill, kills, killO, killOs, bin, binI, binS, binB, eq1, eqB, lit, sameK, kn, unI, mxA, mnA, mkAgg, fits, partN, partA, resN, retV, allVal, isVal, allCell, isCell, okVal, okCell, cellsOf, fillN, rowsN, cellsN, bnd, lohi, offAt, overL, segL, leave, NodeOK, List.cons_append, List.nil_append, List.append_nil, catA, anys, lenA]))
  simp only [decide_eq_true_eq, decide_eq_false_iff_not]
  refine ⟨fun h1 => ?_, fun h1 => ?_⟩
  · obtain ⟨y, hy⟩ : ∃ y, l[k]? = some y := ⟨_, List.getElem?_eq_getElem (by omega)⟩
    have wi : IntKind.i64.wrap ((k : Int) + 1) = ((k + 1 : Nat) : Int) := by rw [wr64 (by omega) (by omega)]; rfl
    have hlen := chN_len l first n k hk
    have hcp := copy_c y (hb y (List.mem_of_getElem? hy))
    have hmk := make_c (chN l first n k) n (by omega)
    have hE : chN l first n (k + 1) = chN l first n k ++ [chE first n (chN l first n k) k y] := by simp only [chN, hy]
    unfold chE at hE
    generalize chN l first n k = out at *
    refine ⟨by omega, enR y, by rw [Int.toNat_natCast, List.getElem?_map, hy]; rfl, ?_⟩
    rw [enR_eq y]
    (refine eval_sound 2000 _ _ _ ?_; simp (maxSteps := 1000000) only [ptrL, lenV, Bool.not_true, Bool.not_false, lookR, valOf, asGrow, jump, findA, restA, and, Nat.reduceAdd, Nat.reduceSub, Nat.reduceMul, Int.reduceToNat, eval, nf, nfO, opN, appTo, rowsV, getL, setL, getO, setO, snocO, lenO, putL, ev, evs, ifEq, killV, killL, kill1, kill1L, kill, kills, killO, killOs, bin, binI, binS, binB, eq1, eqB, lit, sameK, kn, unI, mxA, mnA, mkAgg, fits, partN, partA, resN, retV, allVal, isVal, allCell, isCell, okVal, okCell, cellsOf, fillN, rowsN, cellsN, bnd, lohi, offAt, overL, segL, leave, NodeOK, List.cons_append, List.nil_append, List.append_nil, catA, anys, lenA])
    ((repeat (with_reducible refine And.intro ?_ ?_; focus (simp; done))); refine aw_call (hcp) [] rfl (by simp [upM, nthN, matchO, rens, ren, ren1, ren1L, renL, renV, renO, rl, lenO, getO, Nat.blt, mtc, mtcS, mtcSL, mtc0, mtc0L, enA]) rfl (by simp [upM, nthN, matchO, rens, ren, ren1, ren1L, renL, renV, renO, rl, lenO, getO, Nat.blt, mtc, mtcS, mtcSL, mtc0, mtc0L, enA]) rfl (fun r hs hp hl => ?_); obtain ⟨rfl, rfl⟩ := hp; simp only [snocO, upM, nthN, putAll, snocAll, killsA, killOsA, grows, putL, rl, renV, renL, ren1, ren1L, ren, rens, renO, Nat.blt, lenO, getO, setO, setL, anys, enA]; (refine eval_sound 2000 _ _ _ ?_; simp (maxSteps := 1000000) only [ptrL, lenV, Bool.not_true, Bool.not_false, lookR, valOf, asGrow, jump, findA, restA, and, Nat.reduceAdd, Nat.reduceSub, Nat.reduceMul, Int.reduceToNat, eval, nf, nfO, opN, appTo, rowsV, getL, setL, getO, setO, snocO, lenO, putL, ev, evs, ifEq, killV, killL, kill1, kill1L, kill, kills, killO, killOs, bin, binI, binS, binB, eq1, eqB, lit, sameK, kn, unI, mxA, mnA, mkAgg, fits, partN, partA, resN, retV, allVal, isVal, allCell, isCell, okVal, okCell, cellsOf, fillN, rowsN, cellsN, bnd, lohi, offAt, overL, segL, leave, NodeOK, List.cons_append, List.nil_append, List.append_nil, catA, anys, lenA]))
    (repeat (with_reducible refine And.intro ?_ ?_; focus (simp; done)))
    ((repeat (with_reducible refine And.intro ?_ ?_; focus (simp; done))); refine aw_call (chain1_c first (k : Int)) [0] rfl (by simp [upM, nthN, matchO, rens, ren, ren1, ren1L, renL, renV, renO, rl, lenO, getO, Nat.blt, mtc, mtcS, mtcSL, mtc0, mtc0L, enA]) rfl (by simp [upM, nthN, matchO, rens, ren, ren1, ren1L, renL, renV, renO, rl, lenO, getO, Nat.blt, mtc, mtcS, mtcSL, mtc0, mtc0L, enA]) rfl (fun r hs hp hl => ?_); obtain ⟨rfl, rfl⟩ := hp; simp only [snocO, upM, nthN, putAll, snocAll, killsA, killOsA, grows, putL, rl, renV, renL, ren1, ren1L, ren, rens, renO, Nat.blt, lenO, getO, setO, setL, anys, enA]; (refine eval_sound 2000 _ _ _ ?_; simp (maxSteps := 1000000) only [ptrL, lenV, Bool.not_true, Bool.not_false, lookR, valOf, asGrow, jump, findA, restA, and, Nat.reduceAdd, Nat.reduceSub, Nat.reduceMul, Int.reduceToNat, eval, nf, nfO, opN, appTo, rowsV, getL, setL, getO, setO, snocO, lenO, putL, ev, evs, ifEq, killV, killL, kill1, kill1L, kill, kills, killO, killOs, bin, binI, binS, binB, eq1, eqB, lit, sameK, kn, unI, mxA, mnA, mkAgg, fits, partN, partA, resN, retV, allVal, isVal, allCell, isCell, okVal, okCell, cellsOf, fillN, rowsN, cellsN, bnd, lohi, offAt, overL, segL, leave, NodeOK, List.cons_append, List.nil_append, List.append_nil, catA, anys, lenA]))
    (repeat (with_reducible refine And.intro ?_ ?_; focus (simp; done)))
    refine acall_lend 1 _ _ _ rfl hmk rfl (by simp [mtcL, mtc, mtc0, mapA, frz, frz1, frzV, ifEq]) (fun r hs' h => ?_)
    obtain ⟨rfl, rfl⟩ := h
    refine ⟨rfl, fun j hj => ?_, ?_⟩
    · have : j = 0 := by simp [lenO] at hj; exact hj
      subst this
      intro row hrow a ha'
      obtain ⟨x, _, rfl⟩ := List.mem_map.1 hrow
      simp [lkR] at ha'
      rcases ha' with rfl | rfl | rfl | rfl <;> rfl
    simp only [catO, mapO, renO, putL, ren, ren1, renV, rl, lenO, Nat.reduceAdd]
    (refine aw_trans (trans_frz 3 _ _ _ rfl) ?_; simp only [snocO, mapA, frz, frz1, frzV, mapO, frzO, ifEq, setO, getO, getL, setL])
    (refine eval_sound 2000 _ _ _ ?_; simp (maxSteps := 1000000) only [ptrL, lenV, Bool.not_true, Bool.not_false, lookR, valOf, asGrow, jump, findA, restA, and, Nat.reduceAdd, Nat.reduceSub, Nat.reduceMul, Int.reduceToNat, eval, nf, nfO, opN, appTo, rowsV, getL, setL, getO, setO, snocO, lenO, putL, ev, evs, ifEq, killV, killL, kill1, kill1L, kill, kills, killO, killOs, bin, binI, binS, binB, eq1, eqB, lit, sameK, kn, unI, mxA, mnA, mkAgg, fits, partN, partA, resN, retV, allVal, isVal, allCell, isCell, okVal, okCell, cellsOf, fillN, rowsN, cellsN, bnd, lohi, offAt, overL, segL, leave, NodeOK, List.cons_append, List.nil_append, List.append_nil, catA, anys, lenA])
    rw [wi]
    (repeat (with_reducible refine And.intro ?_ ?_; focus (simp; done)))
    refine ⟨by simp; omega, k + 1, by omega, by omega, ?_⟩
    rw [hE]
    (simp only [wrC, wrOs, keepT, memN, setsL, setsO, setL, setO, snocO, List.cons_append, List.nil_append, List.append_nil, Nat.reduceAdd, Nat.zero_add, Wk, mtc, mtcS, mtcSL, mtc0, mtc0L, mtcL, mtcO, mtcOs, cutM, takeE, stA, rl, renV, renL, ren1, ren1L, ren, rens, renO, Nat.blt, lenO, getO, setO, setL, anys, enA, enR, lk0, List.map_append]; simp [enA, enR, lk0, List.map_append])
  · obtain rfl : k = l.length := by omega
    refine ⟨[1], rfl, _, _, ?_, ?_, rfl, rfl⟩ <;> simp [Wk, mtc, mtcS, mtcSL, mtc0, mtc0L, mtcL, mtcO, mtcOs, cutM, takeE, stA, rl, renV, renL, ren1, ren1L, ren, rens, renO, Nat.blt, lenO, getO, setO, setL, anys, okS, endM, endH, idxN, takeE, pickE, catO, rl, renV, renL, ren1, ren1L, ren, rens, renO, Nat.blt, lenO, getO, setO, setL, anys]
theorem chain_c (l : List En) (first n : Int) (hl : l.length ≤ 200) (hb : ∀ e ∈ l, e.b.length ≤ 1000000) : ACalls Tryd.prog 18 [.ro 10 (l.map enR), .int .u64 first, .int .i64 n] [] (fun r hs => r = .ro 10 ((chN l first n l.length).map enR) ∧ hs = []) := by
  (refine acalls_tr (chain0 l first n hl hb) fun r hs h => ?_; obtain ⟨rfl, rfl⟩ := h; exact ⟨_, _, _, _, _, trans_frz 0 _ _ _ rfl, by simp [snocO, mapA, frz, frz1, frzV, mapO, frzO, ifEq, setO, getO, getL, setL, Wk, mtc, mtcS, mtcSL, mtc0, mtc0L, mtcL, mtcO, mtcOs, cutM, takeE, stA, rl, renV, renL, ren1, ren1L, ren, rens, renO, Nat.blt, lenO, getO, setO, setL, anys, frz, frz1, frzV, frzO, enA], rfl, rfl⟩)
def wE (b : Nat) : En := ⟨0, 0, 0, 1, ⟨0, 0, (b : Int), 1⟩, ⟨#[97, 98, 99, 100, 101, 102, 103, 104]⟩, []⟩
def liveC : List En := chN [wE 0, wE 0, wE 1] 1 5 3
theorem liveC_eq : liveC = [⟨1, 0, 0, 1, ⟨0, 0, 0, 1⟩, ⟨#[97, 98, 99, 100, 101, 102, 103, 104]⟩, []⟩, ⟨2, 0, 0, 1, ⟨0, 0, 0, 1⟩, ⟨#[97, 98, 99, 100, 101, 102, 103, 104]⟩, [⟨0, 0, 0, 1⟩]⟩, ⟨3, 0, 0, 1, ⟨0, 0, 1, 1⟩, ⟨#[97, 98, 99, 100, 101, 102, 103, 104]⟩, [⟨0, 0, 0, 1⟩, ⟨0, 0, 0, 1⟩]⟩] := by rfl
theorem live_ready : readyN (liveC.drop 1) ⟨3, 0⟩ 3 ⟨0, 0⟩ = [3] := by rw [liveC_eq]; decide +kernel
theorem lives22 : ACalls Tryd.prog 8 [] [] (fun r hs => r = .bool true ∧ hs = []) := by
  have c0 := lives1_c 0
  have c1 := lives1_c 1
  have hch := chain_c [wE 0, wE 0, wE 1] 1 5 (by decide) (fun e he => by simp at he; rcases he with rfl | rfl <;> simp [wE])
  rw [show chN [wE 0, wE 0, wE 1] 1 5 [wE 0, wE 0, wE 1].length = liveC from rfl] at hch
  have hrd := ready_c (liveC.drop 1) ⟨3, 0⟩ ⟨0, 0⟩ (by rw [liveC_eq]; decide) (fun e he => by
    rw [liveC_eq] at he
    simp at he
    rcases he with rfl | rfl
    · exact ⟨by unfold U64; decide, by unfold LkOK U64 U32; decide, fun x hx => by simp at hx; subst hx; unfold LkOK U64 U32; decide, by decide⟩
    · exact ⟨by unfold U64; decide, by unfold LkOK U64 U32; decide, fun x hx => by simp at hx; subst hx; unfold LkOK U64 U32; decide, by decide⟩) ⟨by decide, by decide⟩ (gd_of ⟨by decide, by decide⟩ (by decide))
  rw [show (liveC.drop 1).length + 1 = 3 by rw [liveC_eq]; rfl, live_ready] at hrd
  refine acalls_weak (acalls_of (fn := Tryd.f8) (A := a8) Tryd.func8 ok_8 en_8 ?_)
  dsimp only [a8, enA]
  (refine eval_sound 2000 _ _ _ ?_; simp (maxSteps := 1000000) only [ptrL, lenV, Bool.not_true, Bool.not_false, lookR, valOf, asGrow, jump, findA, restA, and, Nat.reduceAdd, Nat.reduceSub, Nat.reduceMul, Int.reduceToNat, eval, nf, nfO, opN, appTo, rowsV, getL, setL, getO, setO, snocO, lenO, putL, ev, evs, ifEq, killV, killL, kill1, kill1L, kill, kills, killO, killOs, bin, binI, binS, binB, eq1, eqB, lit, sameK, kn, unI, mxA, mnA, mkAgg, fits, partN, partA, resN, retV, allVal, isVal, allCell, isCell, okVal, okCell, cellsOf, fillN, rowsN, cellsN, bnd, lohi, offAt, overL, segL, leave, NodeOK, List.cons_append, List.nil_append, List.append_nil, catA, anys, lenA])
  ((repeat (with_reducible refine And.intro ?_ ?_; focus (simp; done))); refine aw_call (c0) [] rfl (by simp [upM, nthN, matchO, rens, ren, ren1, ren1L, renL, renV, renO, rl, lenO, getO, Nat.blt, mtc, mtcS, mtcSL, mtc0, mtc0L, enA]) rfl (by simp [upM, nthN, matchO, rens, ren, ren1, ren1L, renL, renV, renO, rl, lenO, getO, Nat.blt, mtc, mtcS, mtcSL, mtc0, mtc0L, enA]) rfl (fun r hs hp hl => ?_); obtain ⟨rfl, rfl⟩ := hp; simp only [snocO, upM, nthN, putAll, snocAll, killsA, killOsA, grows, putL, rl, renV, renL, ren1, ren1L, ren, rens, renO, Nat.blt, lenO, getO, setO, setL, anys, enA]; (refine eval_sound 2000 _ _ _ ?_; simp (maxSteps := 1000000) only [ptrL, lenV, Bool.not_true, Bool.not_false, lookR, valOf, asGrow, jump, findA, restA, and, Nat.reduceAdd, Nat.reduceSub, Nat.reduceMul, Int.reduceToNat, eval, nf, nfO, opN, appTo, rowsV, getL, setL, getO, setO, snocO, lenO, putL, ev, evs, ifEq, killV, killL, kill1, kill1L, kill, kills, killO, killOs, bin, binI, binS, binB, eq1, eqB, lit, sameK, kn, unI, mxA, mnA, mkAgg, fits, partN, partA, resN, retV, allVal, isVal, allCell, isCell, okVal, okCell, cellsOf, fillN, rowsN, cellsN, bnd, lohi, offAt, overL, segL, leave, NodeOK, List.cons_append, List.nil_append, List.append_nil, catA, anys, lenA]))
  ((repeat (with_reducible refine And.intro ?_ ?_; focus (simp; done))); refine aw_call (c0) [] rfl (by simp [upM, nthN, matchO, rens, ren, ren1, ren1L, renL, renV, renO, rl, lenO, getO, Nat.blt, mtc, mtcS, mtcSL, mtc0, mtc0L, enA]) rfl (by simp [upM, nthN, matchO, rens, ren, ren1, ren1L, renL, renV, renO, rl, lenO, getO, Nat.blt, mtc, mtcS, mtcSL, mtc0, mtc0L, enA]) rfl (fun r hs hp hl => ?_); obtain ⟨rfl, rfl⟩ := hp; simp only [snocO, upM, nthN, putAll, snocAll, killsA, killOsA, grows, putL, rl, renV, renL, ren1, ren1L, ren, rens, renO, Nat.blt, lenO, getO, setO, setL, anys, enA]; (refine eval_sound 2000 _ _ _ ?_; simp (maxSteps := 1000000) only [ptrL, lenV, Bool.not_true, Bool.not_false, lookR, valOf, asGrow, jump, findA, restA, and, Nat.reduceAdd, Nat.reduceSub, Nat.reduceMul, Int.reduceToNat, eval, nf, nfO, opN, appTo, rowsV, getL, setL, getO, setO, snocO, lenO, putL, ev, evs, ifEq, killV, killL, kill1, kill1L, kill, kills, killO, killOs, bin, binI, binS, binB, eq1, eqB, lit, sameK, kn, unI, mxA, mnA, mkAgg, fits, partN, partA, resN, retV, allVal, isVal, allCell, isCell, okVal, okCell, cellsOf, fillN, rowsN, cellsN, bnd, lohi, offAt, overL, segL, leave, NodeOK, List.cons_append, List.nil_append, List.append_nil, catA, anys, lenA]))
  ((repeat (with_reducible refine And.intro ?_ ?_; focus (simp; done))); refine aw_call (c1) [] rfl (by simp [upM, nthN, matchO, rens, ren, ren1, ren1L, renL, renV, renO, rl, lenO, getO, Nat.blt, mtc, mtcS, mtcSL, mtc0, mtc0L, enA]) rfl (by simp [upM, nthN, matchO, rens, ren, ren1, ren1L, renL, renV, renO, rl, lenO, getO, Nat.blt, mtc, mtcS, mtcSL, mtc0, mtc0L, enA]) rfl (fun r hs hp hl => ?_); obtain ⟨rfl, rfl⟩ := hp; simp only [snocO, upM, nthN, putAll, snocAll, killsA, killOsA, grows, putL, rl, renV, renL, ren1, ren1L, ren, rens, renO, Nat.blt, lenO, getO, setO, setL, anys, enA]; (refine eval_sound 2000 _ _ _ ?_; simp (maxSteps := 1000000) only [ptrL, lenV, Bool.not_true, Bool.not_false, lookR, valOf, asGrow, jump, findA, restA, and, Nat.reduceAdd, Nat.reduceSub, Nat.reduceMul, Int.reduceToNat, eval, nf, nfO, opN, appTo, rowsV, getL, setL, getO, setO, snocO, lenO, putL, ev, evs, ifEq, killV, killL, kill1, kill1L, kill, kills, killO, killOs, bin, binI, binS, binB, eq1, eqB, lit, sameK, kn, unI, mxA, mnA, mkAgg, fits, partN, partA, resN, retV, allVal, isVal, allCell, isCell, okVal, okCell, cellsOf, fillN, rowsN, cellsN, bnd, lohi, offAt, overL, segL, leave, NodeOK, List.cons_append, List.nil_append, List.append_nil, catA, anys, lenA]))
  (repeat (with_reducible refine And.intro ?_ ?_; focus (simp; done)))
  (refine acall_trans (trans_frz 0 _ _ _ rfl) ?_; simp only [snocO, mapA, frz, frz1, frzV, mapO, frzO, ifEq, setO, getO, getL, setL])
  refine acall_args [.ro 10 ([wE 0, wE 0, wE 1].map enR), .int .u64 1, .int .i64 5] (by simp [mtcL, mtc, mtc0, wE, enR]) ?_
  ((repeat (with_reducible refine And.intro ?_ ?_; focus (simp; done))); refine aw_call (hch) [] rfl (by simp [upM, nthN, matchO, rens, ren, ren1, ren1L, renL, renV, renO, rl, lenO, getO, Nat.blt, mtc, mtcS, mtcSL, mtc0, mtc0L, enA]) rfl (by simp [upM, nthN, matchO, rens, ren, ren1, ren1L, renL, renV, renO, rl, lenO, getO, Nat.blt, mtc, mtcS, mtcSL, mtc0, mtc0L, enA]) rfl (fun r hs hp hl => ?_); obtain ⟨rfl, rfl⟩ := hp; simp only [snocO, upM, nthN, putAll, snocAll, killsA, killOsA, grows, putL, rl, renV, renL, ren1, ren1L, ren, rens, renO, Nat.blt, lenO, getO, setO, setL, anys, enA]; (refine eval_sound 2000 _ _ _ ?_; simp (maxSteps := 1000000) only [ptrL, lenV, Bool.not_true, Bool.not_false, lookR, valOf, asGrow, jump, findA, restA, and, Nat.reduceAdd, Nat.reduceSub, Nat.reduceMul, Int.reduceToNat, eval, nf, nfO, opN, appTo, rowsV, getL, setL, getO, setO, snocO, lenO, putL, ev, evs, ifEq, killV, killL, kill1, kill1L, kill, kills, killO, killOs, bin, binI, binS, binB, eq1, eqB, lit, sameK, kn, unI, mxA, mnA, mkAgg, fits, partN, partA, resN, retV, allVal, isVal, allCell, isCell, okVal, okCell, cellsOf, fillN, rowsN, cellsN, bnd, lohi, offAt, overL, segL, leave, NodeOK, List.cons_append, List.nil_append, List.append_nil, catA, anys, lenA]))
  have hlen : (liveC.map enR).length = 3 := by rw [liveC_eq]; rfl
  have hdr : List.take (3 - 1) (List.drop 1 (liveC.map enR)) = (liveC.drop 1).map enR := by rw [liveC_eq]; rfl
  generalize hLL : liveC.map enR = LL at *
  simp only [hlen]
  refine ⟨fun h => by simp at h, fun _ => ⟨by omega, ?_⟩⟩
  rw [show List.take (((3 : Nat) : Int).toNat - 1) (List.drop 1 LL) = (liveC.drop 1).map enR from hdr]
  generalize (liveC.drop 1).map enR = LD at *
  ((repeat (with_reducible refine And.intro ?_ ?_; focus (simp; done))); refine aw_call (hrd) [] rfl (by simp [upM, nthN, matchO, rens, ren, ren1, ren1L, renL, renV, renO, rl, lenO, getO, Nat.blt, mtc, mtcS, mtcSL, mtc0, mtc0L, mkA, u64n]) rfl (by simp [upM, nthN, matchO, rens, ren, ren1, ren1L, renL, renV, renO, rl, lenO, getO, Nat.blt, mtc, mtcS, mtcSL, mtc0, mtc0L, mkA, u64n]) rfl (fun r hs hp hl => ?_); obtain ⟨rfl, rfl⟩ := hp; simp only [snocO, upM, nthN, putAll, snocAll, killsA, killOsA, grows, putL, rl, renV, renL, ren1, ren1L, ren, rens, renO, Nat.blt, lenO, getO, setO, setL, anys, mkA, u64n]; (refine eval_sound 2000 _ _ _ ?_; simp (maxSteps := 1000000) only [ptrL, lenV, Bool.not_true, Bool.not_false, lookR, valOf, asGrow, jump, findA, restA, and, Nat.reduceAdd, Nat.reduceSub, Nat.reduceMul, Int.reduceToNat, eval, nf, nfO, opN, appTo, rowsV, getL, setL, getO, setO, snocO, lenO, putL, ev, evs, ifEq, killV, killL, kill1, kill1L, kill, kills, killO, killOs, bin, binI, binS, binB, eq1, eqB, lit, sameK, kn, unI, mxA, mnA, mkAgg, fits, partN, partA, resN, retV, allVal, isVal, allCell, isCell, okVal, okCell, cellsOf, fillN, rowsN, cellsN, bnd, lohi, offAt, overL, segL, leave, NodeOK, List.cons_append, List.nil_append, List.append_nil, catA, anys, lenA]))
  refine ⟨fun _ => ⟨by omega, [.int .u64 3], rfl, ?_⟩, fun h => by simp at h⟩
  (refine eval_sound 2000 _ _ _ ?_; simp (maxSteps := 1000000) only [ptrL, lenV, Bool.not_true, Bool.not_false, lookR, valOf, asGrow, jump, findA, restA, and, Nat.reduceAdd, Nat.reduceSub, Nat.reduceMul, Int.reduceToNat, eval, nf, nfO, opN, appTo, rowsV, getL, setL, getO, setO, snocO, lenO, putL, ev, evs, ifEq, killV, killL, kill1, kill1L, kill, kills, killO, killOs, bin, binI, binS, binB, eq1, eqB, lit, sameK, kn, unI, mxA, mnA, mkAgg, fits, partN, partA, resN, retV, allVal, isVal, allCell, isCell, okVal, okCell, cellsOf, fillN, rowsN, cellsN, bnd, lohi, offAt, overL, segL, leave, NodeOK, List.cons_append, List.nil_append, List.append_nil, catA, anys, lenA])
  ((repeat (with_reducible refine And.intro ?_ ?_; focus (simp; done))); refine ⟨[], rfl, _, _, ?_, ?_, rfl, rfl⟩ <;> simp [Wk, mtc, mtcS, mtcSL, mtc0, mtc0L, mtcL, mtcO, mtcOs, cutM, takeE, stA, rl, renV, renL, ren1, ren1L, ren, rens, renO, Nat.blt, lenO, getO, setO, setL, anys, okS, endM, endH, idxN, takeE, pickE, catO, rl, renV, renL, ren1, ren1L, ren, rens, renO, Nat.blt, lenO, getO, setO, setL, anys, enA])
end Go.Proofs.YtlnafekmiidpkaaDoor.S
