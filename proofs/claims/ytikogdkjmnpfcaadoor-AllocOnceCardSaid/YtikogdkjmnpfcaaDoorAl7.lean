/- AllocOnce returns true. -/
import Derived.Test.YtikogdkjmnpfcaaDoorAl6
namespace Go.Proofs.YtikogdkjmnpfcaaDoor.S
set_option linter.all false
set_option maxRecDepth 100000
set_option maxHeartbeats 2000000
structure Op13 where
  k : Int
  n : Int
def op13 (o : Op13) : List AV := [.int .i64 o.k, .int .i64 o.n]
theorem nd_sub {α : Type} [DecidableEq α] : ∀ (s l : List α), s.Nodup → (∀ x ∈ s, x ∈ l) → s.length ≤ l.length
  | [], _, _, _ => Nat.zero_le _
  | a :: s, l, h, hs => by
    obtain ⟨h1, h2⟩ := List.nodup_cons.1 h
    have h3 := nd_sub s (l.erase a) h2 fun x hx => (List.mem_erase_of_ne (fun e => h1 (by rw [← e]; exact hx))).2 (hs x (by simp [hx]))
    have h4 : a ∈ l := hs a (by simp)
    have h5 := List.length_pos_of_mem h4
    rw [List.length_erase_of_mem h4] at h3
    rw [List.length_cons]
    omega
theorem len_filt {n : Int} : ∀ (l : List (Nat × Int × AV)), (l.map (·.2.1)).Nodup → n ∈ l.map (·.2.1) → (l.filter fun e => !(e.2.1 == n)).length + 1 = l.length
  | [], _, h => by simp at h
  | e :: l, hn, h => by
    obtain ⟨h1, h2⟩ := List.nodup_cons.1 (by simpa using hn : (e.2.1 :: l.map (·.2.1)).Nodup)
    by_cases he : e.2.1 = n
    · have : ∀ x ∈ l, (!(x.2.1 == n)) = true := fun x hx => by
        have : x.2.1 ≠ n := fun q => h1 (by rw [he, ← q]; exact List.mem_map_of_mem hx)
        simpa using this
      rw [List.filter_cons_of_neg (by simpa using he), List.filter_eq_self.2 this, List.length_cons]
    · rw [List.filter_cons_of_pos (by simpa using he), List.length_cons, List.length_cons, len_filt l h2 (by rw [List.map_cons] at h; rcases List.mem_cons.1 h with h | h; exact absurd h.symm he; exact h)]
structure Once (n M : Nat) (W : List Nat) (T : Mp) : Prop where
  ok : WOKs M W
  out : ∀ p, n ≤ p → p < M * 256 → hasW W p = true
  key : ∀ i : Int, T.look i = if atH n W i = true then some .tt else none
theorem atH_iff {n : Nat} {W : List Nat} {i : Int} : atH n W i = true ↔ ∃ p : Nat, i = p ∧ p < n ∧ hasW W p = true := by
  unfold atH
  rw [Bool.and_eq_true, Bool.and_eq_true, decide_eq_true_eq, decide_eq_true_eq]
  constructor
  · rintro ⟨⟨h1, h2⟩, h3⟩
    exact ⟨i.toNat, by omega, by omega, h3⟩
  · rintro ⟨p, rfl, h1, h2⟩
    exact ⟨⟨by omega, by omega⟩, by rw [Int.toNat_natCast]; exact h2⟩
theorem Once.keys {n M : Nat} {W : List Nat} {T : Mp} (h : Once n M W T) (i : Int) : i ∈ T.es.map (·.2.1) ↔ atH n W i = true := by
  rw [Mp.mem_keys, h.key i]
  constructor
  · rintro ⟨v, hv⟩
    split at hv
    · assumption
    · cases hv
  · intro h1
    exact ⟨_, if_pos h1⟩
theorem Once.le {n M : Nat} {W : List Nat} {T : Mp} (h : Once n M W T) : T.es.length ≤ n := by
  have := nd_sub (T.es.map (·.2.1)) (List.map (fun j : Nat => (j : Int)) (List.range n)) T.kd fun x hx => by
    obtain ⟨p, rfl, hp, _⟩ := atH_iff.1 ((h.keys x).1 hx)
    exact List.mem_map.2 ⟨p, List.mem_range.2 hp, rfl⟩
  simpa using this
theorem Once.free {n M : Nat} {W : List Nat} {T : Mp} (h : Once n M W T) (hl : T.es.length < n) : ∃ p, p < n ∧ hasW W p = false := by
  apply Decidable.byContradiction
  intro hno
  have := nd_sub (List.map (fun j : Nat => (j : Int)) (List.range n)) (T.es.map (·.2.1)) (List.pairwise_map.2 (List.nodup_range.imp fun h e => h (by omega))) fun x hx => by
    obtain ⟨p, hp, rfl⟩ := List.mem_map.1 hx
    refine (h.keys _).2 (atH_iff.2 ⟨p, rfl, List.mem_range.1 hp, ?_⟩)
    cases hh : hasW W p with
    | true => rfl
    | false => exact absurd ⟨p, List.mem_range.1 hp, hh⟩ hno
  rw [List.length_map, List.length_map, List.length_range] at this
  omega
theorem Once.give {n M : Nat} {W : List Nat} {T : Mp} (h : Once n M W T) (hn : n ≤ M * 256) {p : Nat} (hp : p < n) (hh : hasW W p = true) : Once n M (xorW W p) (T.del p) ∧ (T.del p).es.length + 1 = T.es.length := by
  have hl := h.ok.len
  have hx : ∀ q, hasW (xorW W p) q = (if q = p then !hasW W q else hasW W q) := fun q => xorW_has (by omega)
  refine ⟨⟨xorW_ok h.ok, fun q h1 h2 => by rw [hx, if_neg (by omega)]; exact h.out q h1 h2, fun i => ?_⟩, len_filt T.es T.kd ((h.keys _).2 (atH_iff.2 ⟨p, rfl, hp, hh⟩))⟩
  rw [Mp.look_del]
  by_cases hi : i = p
  · subst hi
    rw [if_pos rfl, if_neg]
    intro hc
    obtain ⟨q, e, _, hq⟩ := atH_iff.1 hc
    obtain rfl : p = q := by omega
    rw [hx, if_pos rfl, hh] at hq
    cases hq
  · rw [if_neg hi, h.key i]
    have : atH n (xorW W p) i = true ↔ atH n W i = true := by
      rw [atH_iff, atH_iff]
      constructor
      · rintro ⟨q, rfl, h1, h2⟩; exact ⟨q, rfl, h1, by rw [hx, if_neg (by omega)] at h2; exact h2⟩
      · rintro ⟨q, rfl, h1, h2⟩; exact ⟨q, rfl, h1, by rw [hx, if_neg (by omega)]; exact h2⟩
    by_cases hc : atH n W i = true
    · rw [if_pos hc, if_pos (this.2 hc)]
    · rw [if_neg hc, if_neg fun c => hc (this.1 c)]
theorem Once.take {n M : Nat} {W : List Nat} {T : Mp} (h : Once n M W T) (hn : n ≤ M * 256) {p : Nat} (hp : p < n) (hh : hasW W p = false) : Once n M (xorW W p) (T.put p .tt) ∧ (T.put p .tt).es.length = T.es.length + 1 ∧ T.look p = none ∧ atH n (xorW W p) p = true := by
  have hl := h.ok.len
  have hx : ∀ q, hasW (xorW W p) q = (if q = p then !hasW W q else hasW W q) := fun q => xorW_has (by omega)
  have hk : T.look p = none := by
    rw [h.key, if_neg]
    intro hc
    obtain ⟨q, e, _, hq⟩ := atH_iff.1 hc
    obtain rfl : p = q := by omega
    rw [hh] at hq
    cases hq
  have hin : atH n (xorW W p) p = true := atH_iff.2 ⟨p, rfl, hp, by rw [hx, if_pos rfl, hh]; rfl⟩
  refine ⟨⟨xorW_ok h.ok, fun q h1 h2 => by rw [hx, if_neg (by omega)]; exact h.out q h1 h2, fun i => ?_⟩, by rw [Mp.len_put, hk]; rfl, hk, hin⟩
  rw [Mp.look_put]
  by_cases hi : i = p
  · subst hi
    rw [if_pos rfl, if_pos hin]
  · rw [if_neg hi, h.key i]
    have : atH n (xorW W p) i = true ↔ atH n W i = true := by
      rw [atH_iff, atH_iff]
      constructor
      · rintro ⟨q, rfl, h1, h2⟩; exact ⟨q, rfl, h1, by rw [hx, if_neg (by omega)] at h2; exact h2⟩
      · rintro ⟨q, rfl, h1, h2⟩; exact ⟨q, rfl, h1, by rw [hx, if_neg (by omega)]; exact h2⟩
    by_cases hc : atH n W i = true
    · rw [if_pos hc, if_pos (this.2 hc)]
    · rw [if_neg hc, if_neg fun c => hc (this.1 c)]
theorem Mp.del_none {M : Mp} {n : Int} (h : M.look n = none) : M.del n = M := by
  have h1 : (M.es.filter fun e => !(e.2.1 == n)) = M.es := List.filter_eq_self.2 fun e he => by simpa using Mp.look_none.1 h e he
  obtain ⟨es, c, a, b, d⟩ := M
  unfold Mp.del
  congr 1
theorem give_err {n : Nat} {f : Int} {W : List Nat} {i : Int} : turnW n f W i false 40 = if atH n W i = true then (xorW W i.toNat, f + 1, 0) else (W, f, if i < 0 ∨ (n : Int) ≤ i then 30 else 40) := by
  unfold turnW
  by_cases h : i < 0 ∨ (n : Int) ≤ i
  · rw [if_pos h, if_pos h, if_neg]
    intro hc
    obtain ⟨p, rfl, h1, _⟩ := atH_iff.1 hc
    omega
  · rw [if_neg h, if_neg h]
    cases atH n W i <;> rfl
theorem once_ (n : Int) (l : List Op13) (hl : l.length ≤ 9223372036854775807) : ACalls Tryd.prog 3 [.int .i64 n, .ro 2 (l.map op13)] [] (fun r hs => r = .bool true ∧ hs = []) := by
  have hlive := lives_c
  refine acalls_weak (acalls_of (fn := Tryd.f3) (A := a3) Tryd.func3 ok_3 en_3 ?_)
  dsimp only [a3, alC]
  (refine eval_sound 2000 _ _ _ ?_; simp (maxSteps := 1000000) only [Bool.not_true, Bool.not_false, lookR, valOf, asGrow, jump, findA, restA, and, Nat.reduceAdd, Nat.reduceSub, Nat.reduceMul, Int.reduceToNat, eval, nf, nfO, opN, appTo, rowsV, getL, setL, getO, setO, snocO, lenO, putL, ev, evs, ifEq, killV, killL, kill1, kill1L, kill, kills, killO, killOs, bin, binI, binS, binB, eq1, eqB, lit, sameK, kn, unI, mxA, mnA, mkAgg, fits, partN, partA, resN, retV, allVal, isVal, allCell, isCell, okVal, okCell, cellsOf, fillN, rowsN, cellsN, bnd, lohi, offAt, overL, segL, leave, NodeOK, List.cons_append, List.nil_append, List.append_nil, catA, anys, lenA])
  refine ⟨fun h1 => ?_, fun h1 => ⟨fun h2 => ?_, fun h2 => ⟨fun h3 => ?_, fun h3 => ?_⟩⟩⟩
  · ((repeat (with_reducible refine And.intro ?_ ?_; focus (simp; done))); refine aw_call (hlive) [] rfl (by simp [upM, nthN, matchO, rens, ren, ren1, ren1L, renL, renV, renO, rl, lenO, getO, Nat.blt, mtc, mtcS, mtcSL, mtc0, mtc0L]) rfl (by simp [upM, nthN, matchO, rens, ren, ren1, ren1L, renL, renV, renO, rl, lenO, getO, Nat.blt, mtc, mtcS, mtcSL, mtc0, mtc0L]) rfl (fun r hs hp hl => ?_); obtain ⟨rfl, rfl⟩ := hp; simp only [snocO, upM, nthN, putAll, snocAll, killsA, killOsA, grows, putL, rl, renV, renL, ren1, ren1L, ren, rens, renO, Nat.blt, lenO, getO, setO, setL, anys]; (refine eval_sound 2000 _ _ _ ?_; simp (maxSteps := 1000000) only [Bool.not_true, Bool.not_false, lookR, valOf, asGrow, jump, findA, restA, and, Nat.reduceAdd, Nat.reduceSub, Nat.reduceMul, Int.reduceToNat, eval, nf, nfO, opN, appTo, rowsV, getL, setL, getO, setO, snocO, lenO, putL, ev, evs, ifEq, killV, killL, kill1, kill1L, kill, kills, killO, killOs, bin, binI, binS, binB, eq1, eqB, lit, sameK, kn, unI, mxA, mnA, mkAgg, fits, partN, partA, resN, retV, allVal, isVal, allCell, isCell, okVal, okCell, cellsOf, fillN, rowsN, cellsN, bnd, lohi, offAt, overL, segL, leave, NodeOK, List.cons_append, List.nil_append, List.append_nil, catA, anys, lenA]))
    ((repeat (with_reducible refine And.intro ?_ ?_; focus (simp; done))); refine ⟨[], rfl, _, _, ?_, ?_, rfl, rfl⟩ <;> simp [Wk, mtc, mtcS, mtcSL, mtc0, mtc0L, mtcL, mtcO, mtcOs, cutM, takeE, stA, rl, renV, renL, ren1, ren1L, ren, rens, renO, Nat.blt, lenO, getO, setO, setL, anys, okS, endM, endH, idxN, takeE, pickE, catO, rl, renV, renL, ren1, ren1L, ren, rens, renO, Nat.blt, lenO, getO, setO, setL, anys, alC])
  · ((repeat (with_reducible refine And.intro ?_ ?_; focus (simp; done))); refine aw_call (hlive) [] rfl (by simp [upM, nthN, matchO, rens, ren, ren1, ren1L, renL, renV, renO, rl, lenO, getO, Nat.blt, mtc, mtcS, mtcSL, mtc0, mtc0L]) rfl (by simp [upM, nthN, matchO, rens, ren, ren1, ren1L, renL, renV, renO, rl, lenO, getO, Nat.blt, mtc, mtcS, mtcSL, mtc0, mtc0L]) rfl (fun r hs hp hl => ?_); obtain ⟨rfl, rfl⟩ := hp; simp only [snocO, upM, nthN, putAll, snocAll, killsA, killOsA, grows, putL, rl, renV, renL, ren1, ren1L, ren, rens, renO, Nat.blt, lenO, getO, setO, setL, anys]; (refine eval_sound 2000 _ _ _ ?_; simp (maxSteps := 1000000) only [Bool.not_true, Bool.not_false, lookR, valOf, asGrow, jump, findA, restA, and, Nat.reduceAdd, Nat.reduceSub, Nat.reduceMul, Int.reduceToNat, eval, nf, nfO, opN, appTo, rowsV, getL, setL, getO, setO, snocO, lenO, putL, ev, evs, ifEq, killV, killL, kill1, kill1L, kill, kills, killO, killOs, bin, binI, binS, binB, eq1, eqB, lit, sameK, kn, unI, mxA, mnA, mkAgg, fits, partN, partA, resN, retV, allVal, isVal, allCell, isCell, okVal, okCell, cellsOf, fillN, rowsN, cellsN, bnd, lohi, offAt, overL, segL, leave, NodeOK, List.cons_append, List.nil_append, List.append_nil, catA, anys, lenA]))
    ((repeat (with_reducible refine And.intro ?_ ?_; focus (simp; done))); refine ⟨[], rfl, _, _, ?_, ?_, rfl, rfl⟩ <;> simp [Wk, mtc, mtcS, mtcSL, mtc0, mtc0L, mtcL, mtcO, mtcOs, cutM, takeE, stA, rl, renV, renL, ren1, ren1L, ren, rens, renO, Nat.blt, lenO, getO, setO, setL, anys, okS, endM, endH, idxN, takeE, pickE, catO, rl, renV, renL, ren1, ren1L, ren, rens, renO, Nat.blt, lenO, getO, setO, setL, anys, alC])
  · ((repeat (with_reducible refine And.intro ?_ ?_; focus (simp; done))); refine aw_call (hlive) [] rfl (by simp [upM, nthN, matchO, rens, ren, ren1, ren1L, renL, renV, renO, rl, lenO, getO, Nat.blt, mtc, mtcS, mtcSL, mtc0, mtc0L]) rfl (by simp [upM, nthN, matchO, rens, ren, ren1, ren1L, renL, renV, renO, rl, lenO, getO, Nat.blt, mtc, mtcS, mtcSL, mtc0, mtc0L]) rfl (fun r hs hp hl => ?_); obtain ⟨rfl, rfl⟩ := hp; simp only [snocO, upM, nthN, putAll, snocAll, killsA, killOsA, grows, putL, rl, renV, renL, ren1, ren1L, ren, rens, renO, Nat.blt, lenO, getO, setO, setL, anys]; (refine eval_sound 2000 _ _ _ ?_; simp (maxSteps := 1000000) only [Bool.not_true, Bool.not_false, lookR, valOf, asGrow, jump, findA, restA, and, Nat.reduceAdd, Nat.reduceSub, Nat.reduceMul, Int.reduceToNat, eval, nf, nfO, opN, appTo, rowsV, getL, setL, getO, setO, snocO, lenO, putL, ev, evs, ifEq, killV, killL, kill1, kill1L, kill, kills, killO, killOs, bin, binI, binS, binB, eq1, eqB, lit, sameK, kn, unI, mxA, mnA, mkAgg, fits, partN, partA, resN, retV, allVal, isVal, allCell, isCell, okVal, okCell, cellsOf, fillN, rowsN, cellsN, bnd, lohi, offAt, overL, segL, leave, NodeOK, List.cons_append, List.nil_append, List.append_nil, catA, anys, lenA]))
    ((repeat (with_reducible refine And.intro ?_ ?_; focus (simp; done))); refine ⟨[], rfl, _, _, ?_, ?_, rfl, rfl⟩ <;> simp [Wk, mtc, mtcS, mtcSL, mtc0, mtc0L, mtcL, mtcO, mtcOs, cutM, takeE, stA, rl, renV, renL, ren1, ren1L, ren, rens, renO, Nat.blt, lenO, getO, setO, setL, anys, okS, endM, endH, idxN, takeE, pickE, catO, rl, renV, renL, ren1, ren1L, ren, rens, renO, Nat.blt, lenO, getO, setO, setL, anys, alC])
  simp only [decide_eq_true_eq, decide_eq_false_iff_not, List.length_map] at h1 h2 h3
  obtain ⟨N, rfl⟩ : ∃ N : Nat, n = N := ⟨n.toNat, by omega⟩
  ((repeat (with_reducible refine And.intro ?_ ?_; focus (simp; done))); refine aw_call (new_c N (by omega) (by omega)) [] rfl (by simp [upM, nthN, matchO, rens, ren, ren1, ren1L, renL, renV, renO, rl, lenO, getO, Nat.blt, mtc, mtcS, mtcSL, mtc0, mtc0L, alC, alW, alN]) rfl (by simp [upM, nthN, matchO, rens, ren, ren1, ren1L, renL, renV, renO, rl, lenO, getO, Nat.blt, mtc, mtcS, mtcSL, mtc0, mtc0L, alC, alW, alN]) rfl (fun r hs hp hl => ?_); obtain ⟨W, w1, w2, rfl, rfl⟩ := hp; simp only [snocO, upM, nthN, putAll, snocAll, killsA, killOsA, grows, putL, rl, renV, renL, ren1, ren1L, ren, rens, renO, Nat.blt, lenO, getO, setO, setL, anys, alC, alW, alN]; (refine eval_sound 2000 _ _ _ ?_; simp (maxSteps := 1000000) only [Bool.not_true, Bool.not_false, lookR, valOf, asGrow, jump, findA, restA, and, Nat.reduceAdd, Nat.reduceSub, Nat.reduceMul, Int.reduceToNat, eval, nf, nfO, opN, appTo, rowsV, getL, setL, getO, setO, snocO, lenO, putL, ev, evs, ifEq, killV, killL, kill1, kill1L, kill, kills, killO, killOs, bin, binI, binS, binB, eq1, eqB, lit, sameK, kn, unI, mxA, mnA, mkAgg, fits, partN, partA, resN, retV, allVal, isVal, allCell, isCell, okVal, okCell, cellsOf, fillN, rowsN, cellsN, bnd, lohi, offAt, overL, segL, leave, NodeOK, List.cons_append, List.nil_append, List.append_nil, catA, anys, lenA]))
  generalize hM : (N + 255) / 256 = M at *
  have hM2 : N ≤ M * 256 := by omega
  have hM3 : M ≤ 1000 := by omega
  have hO0 : Once N M W Mp.emp := ⟨w1, fun p h1 h2 => by rw [w2 p h2]; simpa using h1, fun i => by
    rw [Mp.look_emp, if_neg]
    intro hc
    obtain ⟨p, rfl, h1, h2⟩ := atH_iff.1 hc
    rw [w2 p (by omega)] at h2
    simp at h2
    omega⟩
  (repeat (with_reducible refine And.intro ?_ ?_; focus (simp; done)))
  refine aw_loopU (α := Nat × List Nat × Mp) (fun s => s.1 ≤ l.length ∧ Once N M s.2.1 s.2.2) (fun s => [(30, .int .i64 s.1)]) (fun s => [(0, .arr 63 (wA s.2.1)), (1, .cells 52 [.sl 0 0 M M, .int .i64 N, .int .i64 ((N : Int) - (s.2.2.es.length : Nat))]), (2, .map .i64 s.2.2)]) (fun s => l.length - s.1) ((0, W, Mp.emp)) (⟨Nat.zero_le _, hO0⟩) ?_ fun x hx => ?_
  · (simp only [wrC, wrOs, keepT, memN, setsL, setsO, setL, setO, snocO, List.cons_append, List.nil_append, List.append_nil, Nat.reduceAdd, Nat.zero_add, Wk, mtc, mtcS, mtcSL, mtc0, mtc0L, mtcL, mtcO, mtcOs, cutM, takeE, stA, rl, renV, renL, ren1, ren1L, ren, rens, renO, Nat.blt, lenO, getO, setO, setL, anys, alC, Mp.es_emp]; simp [alC, Mp.es_emp])
  obtain ⟨k, V, T⟩ := x
  obtain ⟨hk0, hO⟩ := hx
  simp only [] at hk0 hO
  have hTle := hO.le
  (simp only [wrC, wrOs, keepT, memN, setsL, setsO, setL, setO, snocO, List.cons_append, List.nil_append, List.append_nil, Nat.reduceAdd, Nat.zero_add, alC]; (refine eval_sound 2000 _ _ _ ?_; simp (maxSteps := 1000000) only [Bool.not_true, Bool.not_false, lookR, valOf, asGrow, jump, findA, restA, and, Nat.reduceAdd, Nat.reduceSub, Nat.reduceMul, Int.reduceToNat, eval, nf, nfO, opN, appTo, rowsV, getL, setL, getO, setO, snocO, lenO, putL, ev, evs, ifEq, killV, killL, kill1, kill1L, kill, kills, killO, killOs, bin, binI, binS, binB, eq1, eqB, lit, sameK, kn, unI, mxA, mnA, mkAgg, fits, partN, partA, resN, retV, allVal, isVal, allCell, isCell, okVal, okCell, cellsOf, fillN, rowsN, cellsN, bnd, lohi, offAt, overL, segL, leave, NodeOK, List.cons_append, List.nil_append, List.append_nil, catA, anys, lenA]))
  simp only [decide_eq_true_eq, decide_eq_false_iff_not, List.length_map]
  refine ⟨fun h4 => ?_, fun h4 => ?_⟩
  · have hk : k < l.length := by omega
    obtain ⟨y, hy⟩ : ∃ y, l[k]? = some y := ⟨_, List.getElem?_eq_getElem hk⟩
    have wk : IntKind.i64.wrap ((k : Int) + 1) = ((k + 1 : Nat) : Int) := by rw [wr64 (by omega) (by omega)]; rfl
    refine ⟨by omega, op13 y, by rw [List.getElem?_map, Int.toNat_natCast, hy]; rfl, ?_⟩
    simp only [op13]
    (refine eval_sound 2000 _ _ _ ?_; simp (maxSteps := 1000000) only [Bool.not_true, Bool.not_false, lookR, valOf, asGrow, jump, findA, restA, and, Nat.reduceAdd, Nat.reduceSub, Nat.reduceMul, Int.reduceToNat, eval, nf, nfO, opN, appTo, rowsV, getL, setL, getO, setO, snocO, lenO, putL, ev, evs, ifEq, killV, killL, kill1, kill1L, kill, kills, killO, killOs, bin, binI, binS, binB, eq1, eqB, lit, sameK, kn, unI, mxA, mnA, mkAgg, fits, partN, partA, resN, retV, allVal, isVal, allCell, isCell, okVal, okCell, cellsOf, fillN, rowsN, cellsN, bnd, lohi, offAt, overL, segL, leave, NodeOK, List.cons_append, List.nil_append, List.append_nil, catA, anys, lenA])
    refine ⟨by simp, ?_⟩
    refine ⟨fun h5 => ?_, fun h5 => ?_⟩
    · have hg := give_c M N ((N : Int) - (T.es.length : Nat)) V y.n hM3 (by omega) (by omega) hO.ok
      rw [give_err] at hg
      have hkey := hO.key y.n
      by_cases hc : atH N V y.n = true
      · obtain ⟨p, hp, h6, h7⟩ := atH_iff.1 hc
        rw [hp] at hg hkey hc
        rw [if_pos hc] at hg hkey
        rw [Int.toNat_natCast] at hg
        obtain ⟨g1, g2⟩ := hO.give hM2 h6 h7
        rw [hp]
        refine aw_dregA (show Tryd.prog.follows .mixedOrders = true by kernel_rfl) 4 [(3, ⟨.int .i64 0, [(0, .arr 63 (wA (xorW V p))), (1, .cells 52 [.sl 0 0 M M, .int .i64 N, .int .i64 ((N : Int) - (T.es.length : Nat) + 1)])], [], []⟩), (8, ⟨.tt, [], [], [2]⟩)] ?_ ?_ ?_
        · kernel_rfl
        · (simp only [tkO, dpO, tkN, AllOps, OpOK, mkR, autoV, autoR, labV, lkD, vOf, preT, preO, setTs, preV, wrt, memN, usesO, usesT, opT, optT, opsT, ptsT, setHs, objF, updD, newO, lkO, lkF, keysO, keysF, visN, deads, getL, setL, getO, setO, lenO, lenA, anys, setDs, setWr, setFr, endO, catD, List.getD_cons_zero, List.getD_cons_succ, List.getElem?_cons_zero, List.getElem?_cons_succ, List.cons_append, List.nil_append, List.append_nil, Nat.reduceAdd, Nat.reduceSub, Bool.not_true, Bool.not_false, lookR, valOf, asGrow, jump, findA, restA, and, Nat.reduceAdd, Nat.reduceSub, Nat.reduceMul, Int.reduceToNat, eval, nf, nfO, opN, appTo, rowsV, getL, setL, getO, setO, snocO, lenO, putL, ev, evs, ifEq, killV, killL, kill1, kill1L, kill, kills, killO, killOs, bin, binI, binS, binB, eq1, eqB, lit, sameK, kn, unI, mxA, mnA, mkAgg, fits, partN, partA, resN, retV, allVal, isVal, allCell, isCell, okVal, okCell, cellsOf, fillN, rowsN, cellsN, bnd, lohi, offAt, overL, segL, leave, NodeOK, List.cons_append, List.nil_append, List.append_nil, catA, anys, lenA]; and_intros) <;> (first | exact trivial | ((refine eval_sound 2000 _ _ _ ?_; simp (maxSteps := 1000000) only [Bool.not_true, Bool.not_false, lookR, valOf, asGrow, jump, findA, restA, and, Nat.reduceAdd, Nat.reduceSub, Nat.reduceMul, Int.reduceToNat, eval, nf, nfO, opN, appTo, rowsV, getL, setL, getO, setO, snocO, lenO, putL, ev, evs, ifEq, killV, killL, kill1, kill1L, kill, kills, killO, killOs, bin, binI, binS, binB, eq1, eqB, lit, sameK, kn, unI, mxA, mnA, mkAgg, fits, partN, partA, resN, retV, allVal, isVal, allCell, isCell, okVal, okCell, cellsOf, fillN, rowsN, cellsN, bnd, lohi, offAt, overL, segL, leave, NodeOK, List.cons_append, List.nil_append, List.append_nil, catA, anys, lenA]); try simp only [JR, dstOK, wrOK, frOK, rdOK, getL, getO]; try simp only [JR, dstOK, wrOK, frOK, rdOK, sig, sigF, isGrowB, mtc, mtcS, mtcSL, mtc0, mtc0L, mtcO, mtcL, memN, Nat.blt, rl, renV, renL, ren1, ren1L, ren, rens, renO, Nat.blt, lenO, getO, setO, setL, anys]; try simp))
          · (refine aw_call (hg) [1, 0] rfl (by simp [upM, nthN, matchO, rens, ren, ren1, ren1L, renL, renV, renO, rl, lenO, getO, Nat.blt, mtc, mtcS, mtcSL, mtc0, mtc0L, alC, alW]) rfl (by simp [upM, nthN, matchO, rens, ren, ren1, ren1L, renL, renV, renO, rl, lenO, getO, Nat.blt, mtc, mtcS, mtcSL, mtc0, mtc0L, alC, alW]) rfl (fun r hs hp hl => ?_); obtain ⟨rfl, rfl⟩ := hp; simp only [snocO, upM, nthN, putAll, snocAll, killsA, killOsA, grows, putL, rl, renV, renL, ren1, ren1L, ren, rens, renO, Nat.blt, lenO, getO, setO, setL, anys, alC, alW]; (refine eval_sound 2000 _ _ _ ?_; simp (maxSteps := 1000000) only [Bool.not_true, Bool.not_false, lookR, valOf, asGrow, jump, findA, restA, and, Nat.reduceAdd, Nat.reduceSub, Nat.reduceMul, Int.reduceToNat, eval, nf, nfO, opN, appTo, rowsV, getL, setL, getO, setO, snocO, lenO, putL, ev, evs, ifEq, killV, killL, kill1, kill1L, kill, kills, killO, killOs, bin, binI, binS, binB, eq1, eqB, lit, sameK, kn, unI, mxA, mnA, mkAgg, fits, partN, partA, resN, retV, allVal, isVal, allCell, isCell, okVal, okCell, cellsOf, fillN, rowsN, cellsN, bnd, lohi, offAt, overL, segL, leave, NodeOK, List.cons_append, List.nil_append, List.append_nil, catA, anys, lenA]); (try simp only [JR, dstOK, wrOK, frOK, rdOK, getL, getO]); (try simp only [JR, dstOK, wrOK, frOK, rdOK, sig, sigF, isGrowB, mtc, mtcS, mtcSL, mtc0, mtc0L, mtcO, mtcL, memN, Nat.blt, rl, renV, renL, ren1, ren1L, ren, rens, renO, Nat.blt, lenO, getO, setO, setL, anys, alC, alW]); try simp)
          · rw [hkey]
            refine ⟨fun v hv => ?_, fun h => by simp at h⟩
            obtain rfl := Option.some.inj hv
            (refine eval_sound 2000 _ _ _ ?_; simp (maxSteps := 1000000) only [Bool.not_true, Bool.not_false, lookR, valOf, asGrow, jump, findA, restA, and, Nat.reduceAdd, Nat.reduceSub, Nat.reduceMul, Int.reduceToNat, eval, nf, nfO, opN, appTo, rowsV, getL, setL, getO, setO, snocO, lenO, putL, ev, evs, ifEq, killV, killL, kill1, kill1L, kill, kills, killO, killOs, bin, binI, binS, binB, eq1, eqB, lit, sameK, kn, unI, mxA, mnA, mkAgg, fits, partN, partA, resN, retV, allVal, isVal, allCell, isCell, okVal, okCell, cellsOf, fillN, rowsN, cellsN, bnd, lohi, offAt, overL, segL, leave, NodeOK, List.cons_append, List.nil_append, List.append_nil, catA, anys, lenA])
            ((try simp only [JR, dstOK, wrOK, frOK, rdOK, getL, getO]); (try simp only [JR, dstOK, wrOK, frOK, rdOK, sig, sigF, isGrowB, mtc, mtcS, mtcSL, mtc0, mtc0L, mtcO, mtcL, memN, Nat.blt, rl, renV, renL, ren1, ren1L, ren, rens, renO, Nat.blt, lenO, getO, setO, setL, anys, alC]); try simp)
        · (simp only [tkO, dpO, tkN, AllOps, OpOK, mkR, autoV, autoR, labV, lkD, vOf, preT, preO, setTs, preV, wrt, memN, usesO, usesT, opT, optT, opsT, ptsT, setHs, objF, updD, newO, lkO, lkF, keysO, keysF, visN, deads, getL, setL, getO, setO, lenO, lenA, anys, setDs, setWr, setFr, endO, catD, List.getD_cons_zero, List.getD_cons_succ, List.getElem?_cons_zero, List.getElem?_cons_succ, List.cons_append, List.nil_append, List.append_nil, Nat.reduceAdd, Nat.reduceSub, Bool.not_true, Bool.not_false, lookR, valOf, asGrow, jump, findA, restA, and, Nat.reduceAdd, Nat.reduceSub, Nat.reduceMul, Int.reduceToNat, eval, nf, nfO, opN, appTo, rowsV, getL, setL, getO, setO, snocO, lenO, putL, ev, evs, ifEq, killV, killL, kill1, kill1L, kill, kills, killO, killOs, bin, binI, binS, binB, eq1, eqB, lit, sameK, kn, unI, mxA, mnA, mkAgg, fits, partN, partA, resN, retV, allVal, isVal, allCell, isCell, okVal, okCell, cellsOf, fillN, rowsN, cellsN, bnd, lohi, offAt, overL, segL, leave, NodeOK, List.cons_append, List.nil_append, List.append_nil, catA, anys, lenA]; (refine eval_sound 2000 _ _ _ ?_; simp (maxSteps := 1000000) only [Bool.not_true, Bool.not_false, lookR, valOf, asGrow, jump, findA, restA, and, Nat.reduceAdd, Nat.reduceSub, Nat.reduceMul, Int.reduceToNat, eval, nf, nfO, opN, appTo, rowsV, getL, setL, getO, setO, snocO, lenO, putL, ev, evs, ifEq, killV, killL, kill1, kill1L, kill, kills, killO, killOs, bin, binI, binS, binB, eq1, eqB, lit, sameK, kn, unI, mxA, mnA, mkAgg, fits, partN, partA, resN, retV, allVal, isVal, allCell, isCell, okVal, okCell, cellsOf, fillN, rowsN, cellsN, bnd, lohi, offAt, overL, segL, leave, NodeOK, List.cons_append, List.nil_append, List.append_nil, catA, anys, lenA]))
          (repeat (with_reducible refine And.intro ?_ ?_; focus (simp; done)))
          intro _
          rw [wk]
          refine ⟨(k + 1, xorW V p, T.del p), ⟨by simp only []; omega, g1⟩, by simp only []; omega, ?_⟩
          rw [show (N : Int) - (T.es.length : Nat) + 1 = (N : Int) - ((T.del p).es.length : Nat) by omega]
          (simp only [wrC, wrOs, keepT, memN, setsL, setsO, setL, setO, snocO, List.cons_append, List.nil_append, List.append_nil, Nat.reduceAdd, Nat.zero_add, Wk, mtc, mtcS, mtcSL, mtc0, mtc0L, mtcL, mtcO, mtcOs, cutM, takeE, stA, rl, renV, renL, ren1, ren1L, ren, rens, renO, Nat.blt, lenO, getO, setO, setL, anys, alC]; simp [alC])
      · rw [if_neg hc] at hg hkey
        rw [show atH N V y.n = false by simpa using hc] at hc
        have he : (if y.n < 0 ∨ (N : Int) ≤ y.n then (30 : Int) else 40) ≠ 0 := by split <;> omega
        generalize (if y.n < 0 ∨ (N : Int) ≤ y.n then (30 : Int) else 40) = er at *
        refine aw_dregA (show Tryd.prog.follows .mixedOrders = true by kernel_rfl) 4 [(3, ⟨.int .i64 er, [], [], [0, 1]⟩), (8, ⟨.ff, [], [], [2]⟩)] ?_ ?_ ?_
        · kernel_rfl
        · (simp only [tkO, dpO, tkN, AllOps, OpOK, mkR, autoV, autoR, labV, lkD, vOf, preT, preO, setTs, preV, wrt, memN, usesO, usesT, opT, optT, opsT, ptsT, setHs, objF, updD, newO, lkO, lkF, keysO, keysF, visN, deads, getL, setL, getO, setO, lenO, lenA, anys, setDs, setWr, setFr, endO, catD, List.getD_cons_zero, List.getD_cons_succ, List.getElem?_cons_zero, List.getElem?_cons_succ, List.cons_append, List.nil_append, List.append_nil, Nat.reduceAdd, Nat.reduceSub, Bool.not_true, Bool.not_false, lookR, valOf, asGrow, jump, findA, restA, and, Nat.reduceAdd, Nat.reduceSub, Nat.reduceMul, Int.reduceToNat, eval, nf, nfO, opN, appTo, rowsV, getL, setL, getO, setO, snocO, lenO, putL, ev, evs, ifEq, killV, killL, kill1, kill1L, kill, kills, killO, killOs, bin, binI, binS, binB, eq1, eqB, lit, sameK, kn, unI, mxA, mnA, mkAgg, fits, partN, partA, resN, retV, allVal, isVal, allCell, isCell, okVal, okCell, cellsOf, fillN, rowsN, cellsN, bnd, lohi, offAt, overL, segL, leave, NodeOK, List.cons_append, List.nil_append, List.append_nil, catA, anys, lenA]; and_intros) <;> (first | exact trivial | ((refine eval_sound 2000 _ _ _ ?_; simp (maxSteps := 1000000) only [Bool.not_true, Bool.not_false, lookR, valOf, asGrow, jump, findA, restA, and, Nat.reduceAdd, Nat.reduceSub, Nat.reduceMul, Int.reduceToNat, eval, nf, nfO, opN, appTo, rowsV, getL, setL, getO, setO, snocO, lenO, putL, ev, evs, ifEq, killV, killL, kill1, kill1L, kill, kills, killO, killOs, bin, binI, binS, binB, eq1, eqB, lit, sameK, kn, unI, mxA, mnA, mkAgg, fits, partN, partA, resN, retV, allVal, isVal, allCell, isCell, okVal, okCell, cellsOf, fillN, rowsN, cellsN, bnd, lohi, offAt, overL, segL, leave, NodeOK, List.cons_append, List.nil_append, List.append_nil, catA, anys, lenA]); try simp only [JR, dstOK, wrOK, frOK, rdOK, getL, getO]; try simp only [JR, dstOK, wrOK, frOK, rdOK, sig, sigF, isGrowB, mtc, mtcS, mtcSL, mtc0, mtc0L, mtcO, mtcL, memN, Nat.blt, rl, renV, renL, ren1, ren1L, ren, rens, renO, Nat.blt, lenO, getO, setO, setL, anys]; try simp))
          · (refine aw_call (hg) [1, 0] rfl (by simp [upM, nthN, matchO, rens, ren, ren1, ren1L, renL, renV, renO, rl, lenO, getO, Nat.blt, mtc, mtcS, mtcSL, mtc0, mtc0L, alC, alW]) rfl (by simp [upM, nthN, matchO, rens, ren, ren1, ren1L, renL, renV, renO, rl, lenO, getO, Nat.blt, mtc, mtcS, mtcSL, mtc0, mtc0L, alC, alW]) rfl (fun r hs hp hl => ?_); obtain ⟨rfl, rfl⟩ := hp; simp only [snocO, upM, nthN, putAll, snocAll, killsA, killOsA, grows, putL, rl, renV, renL, ren1, ren1L, ren, rens, renO, Nat.blt, lenO, getO, setO, setL, anys, alC, alW]; (refine eval_sound 2000 _ _ _ ?_; simp (maxSteps := 1000000) only [Bool.not_true, Bool.not_false, lookR, valOf, asGrow, jump, findA, restA, and, Nat.reduceAdd, Nat.reduceSub, Nat.reduceMul, Int.reduceToNat, eval, nf, nfO, opN, appTo, rowsV, getL, setL, getO, setO, snocO, lenO, putL, ev, evs, ifEq, killV, killL, kill1, kill1L, kill, kills, killO, killOs, bin, binI, binS, binB, eq1, eqB, lit, sameK, kn, unI, mxA, mnA, mkAgg, fits, partN, partA, resN, retV, allVal, isVal, allCell, isCell, okVal, okCell, cellsOf, fillN, rowsN, cellsN, bnd, lohi, offAt, overL, segL, leave, NodeOK, List.cons_append, List.nil_append, List.append_nil, catA, anys, lenA]); (try simp only [JR, dstOK, wrOK, frOK, rdOK, getL, getO]); (try simp only [JR, dstOK, wrOK, frOK, rdOK, sig, sigF, isGrowB, mtc, mtcS, mtcSL, mtc0, mtc0L, mtcO, mtcL, memN, Nat.blt, rl, renV, renL, ren1, ren1L, ren, rens, renO, Nat.blt, lenO, getO, setO, setL, anys, alC, alW]); try simp)
          · rw [hkey]
            refine ⟨fun v hv => by simp at hv, fun _ => ?_⟩
            (refine eval_sound 2000 _ _ _ ?_; simp (maxSteps := 1000000) only [Bool.not_true, Bool.not_false, lookR, valOf, asGrow, jump, findA, restA, and, Nat.reduceAdd, Nat.reduceSub, Nat.reduceMul, Int.reduceToNat, eval, nf, nfO, opN, appTo, rowsV, getL, setL, getO, setO, snocO, lenO, putL, ev, evs, ifEq, killV, killL, kill1, kill1L, kill, kills, killO, killOs, bin, binI, binS, binB, eq1, eqB, lit, sameK, kn, unI, mxA, mnA, mkAgg, fits, partN, partA, resN, retV, allVal, isVal, allCell, isCell, okVal, okCell, cellsOf, fillN, rowsN, cellsN, bnd, lohi, offAt, overL, segL, leave, NodeOK, List.cons_append, List.nil_append, List.append_nil, catA, anys, lenA])
            ((try simp only [JR, dstOK, wrOK, frOK, rdOK, getL, getO]); (try simp only [JR, dstOK, wrOK, frOK, rdOK, sig, sigF, isGrowB, mtc, mtcS, mtcSL, mtc0, mtc0L, mtcO, mtcL, memN, Nat.blt, rl, renV, renL, ren1, ren1L, ren, rens, renO, Nat.blt, lenO, getO, setO, setL, anys, alC]); try simp)
        · (simp only [tkO, dpO, tkN, AllOps, OpOK, mkR, autoV, autoR, labV, lkD, vOf, preT, preO, setTs, preV, wrt, memN, usesO, usesT, opT, optT, opsT, ptsT, setHs, objF, updD, newO, lkO, lkF, keysO, keysF, visN, deads, getL, setL, getO, setO, lenO, lenA, anys, setDs, setWr, setFr, endO, catD, List.getD_cons_zero, List.getD_cons_succ, List.getElem?_cons_zero, List.getElem?_cons_succ, List.cons_append, List.nil_append, List.append_nil, Nat.reduceAdd, Nat.reduceSub, Bool.not_true, Bool.not_false, lookR, valOf, asGrow, jump, findA, restA, and, Nat.reduceAdd, Nat.reduceSub, Nat.reduceMul, Int.reduceToNat, eval, nf, nfO, opN, appTo, rowsV, getL, setL, getO, setO, snocO, lenO, putL, ev, evs, ifEq, killV, killL, kill1, kill1L, kill, kills, killO, killOs, bin, binI, binS, binB, eq1, eqB, lit, sameK, kn, unI, mxA, mnA, mkAgg, fits, partN, partA, resN, retV, allVal, isVal, allCell, isCell, okVal, okCell, cellsOf, fillN, rowsN, cellsN, bnd, lohi, offAt, overL, segL, leave, NodeOK, List.cons_append, List.nil_append, List.append_nil, catA, anys, lenA]; (refine eval_sound 2000 _ _ _ ?_; simp (maxSteps := 1000000) only [Bool.not_true, Bool.not_false, lookR, valOf, asGrow, jump, findA, restA, and, Nat.reduceAdd, Nat.reduceSub, Nat.reduceMul, Int.reduceToNat, eval, nf, nfO, opN, appTo, rowsV, getL, setL, getO, setO, snocO, lenO, putL, ev, evs, ifEq, killV, killL, kill1, kill1L, kill, kills, killO, killOs, bin, binI, binS, binB, eq1, eqB, lit, sameK, kn, unI, mxA, mnA, mkAgg, fits, partN, partA, resN, retV, allVal, isVal, allCell, isCell, okVal, okCell, cellsOf, fillN, rowsN, cellsN, bnd, lohi, offAt, overL, segL, leave, NodeOK, List.cons_append, List.nil_append, List.append_nil, catA, anys, lenA]))
          refine ⟨fun h => by simp at h; exact absurd h he, fun _ => ?_⟩
          rw [wk, Mp.del_none hkey]
          refine ⟨(k + 1, V, T), ⟨by simp only []; omega, hO⟩, by simp only []; omega, ?_⟩
          (simp only [wrC, wrOs, keepT, memN, setsL, setsO, setL, setO, snocO, List.cons_append, List.nil_append, List.append_nil, Nat.reduceAdd, Nat.zero_add, Wk, mtc, mtcS, mtcSL, mtc0, mtc0L, mtcL, mtcO, mtcOs, cutM, takeE, stA, rl, renV, renL, ren1, ren1L, ren, rens, renO, Nat.blt, lenO, getO, setO, setL, anys, alC]; simp [alC])
    · by_cases hT : T.es.length < N
      · obtain ⟨p0, q0, q1⟩ := hO.free hT
        ((repeat (with_reducible refine And.intro ?_ ?_; focus (simp; done))); refine aw_call (take_c M N ((N : Int) - (T.es.length : Nat)) V hM3 hM2 (by omega) hO.ok hO.out ⟨p0, by omega, q1⟩) [1, 0] rfl (by simp [upM, nthN, matchO, rens, ren, ren1, ren1L, renL, renV, renO, rl, lenO, getO, Nat.blt, mtc, mtcS, mtcSL, mtc0, mtc0L, alC, alW]) rfl (by simp [upM, nthN, matchO, rens, ren, ren1, ren1L, renL, renV, renO, rl, lenO, getO, Nat.blt, mtc, mtcS, mtcSL, mtc0, mtc0L, alC, alW]) rfl (fun r hs hp hl => ?_); obtain ⟨p, p1, p2, p3, rfl, rfl⟩ := hp; simp only [snocO, upM, nthN, putAll, snocAll, killsA, killOsA, grows, putL, rl, renV, renL, ren1, ren1L, ren, rens, renO, Nat.blt, lenO, getO, setO, setL, anys, alC, alW]; (refine eval_sound 2000 _ _ _ ?_; simp (maxSteps := 1000000) only [Bool.not_true, Bool.not_false, lookR, valOf, asGrow, jump, findA, restA, and, Nat.reduceAdd, Nat.reduceSub, Nat.reduceMul, Int.reduceToNat, eval, nf, nfO, opN, appTo, rowsV, getL, setL, getO, setO, snocO, lenO, putL, ev, evs, ifEq, killV, killL, kill1, kill1L, kill, kills, killO, killOs, bin, binI, binS, binB, eq1, eqB, lit, sameK, kn, unI, mxA, mnA, mkAgg, fits, partN, partA, resN, retV, allVal, isVal, allCell, isCell, okVal, okCell, cellsOf, fillN, rowsN, cellsN, bnd, lohi, offAt, overL, segL, leave, NodeOK, List.cons_append, List.nil_append, List.append_nil, catA, anys, lenA]))
        obtain ⟨t1, t2, t3, t4⟩ := hO.take hM2 p1 p2
        (repeat (with_reducible refine And.intro ?_ ?_; focus (simp; done)))
        rw [t3]
        intro _
        refine ⟨fun v hv => by simp at hv, fun _ => ?_⟩
        (refine eval_sound 2000 _ _ _ ?_; simp (maxSteps := 1000000) only [Bool.not_true, Bool.not_false, lookR, valOf, asGrow, jump, findA, restA, and, Nat.reduceAdd, Nat.reduceSub, Nat.reduceMul, Int.reduceToNat, eval, nf, nfO, opN, appTo, rowsV, getL, setL, getO, setO, snocO, lenO, putL, ev, evs, ifEq, killV, killL, kill1, kill1L, kill, kills, killO, killOs, bin, binI, binS, binB, eq1, eqB, lit, sameK, kn, unI, mxA, mnA, mkAgg, fits, partN, partA, resN, retV, allVal, isVal, allCell, isCell, okVal, okCell, cellsOf, fillN, rowsN, cellsN, bnd, lohi, offAt, overL, segL, leave, NodeOK, List.cons_append, List.nil_append, List.append_nil, catA, anys, lenA])
        (repeat (with_reducible refine And.intro ?_ ?_; focus (simp; done)))
        refine ⟨fun h => by simp at h; omega, fun _ => ⟨fun h => by simp at h; omega, fun _ => ?_⟩⟩
        have hh := has_c M N ((N : Int) - (T.es.length : Nat) - 1) (xorW V p) (p : Int) hM3 (by omega) t1.ok
        rw [t4] at hh
        ((repeat (with_reducible refine And.intro ?_ ?_; focus (simp; done))); refine aw_call (hh) [1, 0] rfl (by simp [upM, nthN, matchO, rens, ren, ren1, ren1L, renL, renV, renO, rl, lenO, getO, Nat.blt, mtc, mtcS, mtcSL, mtc0, mtc0L, alC, alW]) rfl (by simp [upM, nthN, matchO, rens, ren, ren1, ren1L, renL, renV, renO, rl, lenO, getO, Nat.blt, mtc, mtcS, mtcSL, mtc0, mtc0L, alC, alW]) rfl (fun r hs hp hl => ?_); obtain ⟨rfl, rfl⟩ := hp; simp only [snocO, upM, nthN, putAll, snocAll, killsA, killOsA, grows, putL, rl, renV, renL, ren1, ren1L, ren, rens, renO, Nat.blt, lenO, getO, setO, setL, anys, alC, alW]; (refine eval_sound 2000 _ _ _ ?_; simp (maxSteps := 1000000) only [Bool.not_true, Bool.not_false, lookR, valOf, asGrow, jump, findA, restA, and, Nat.reduceAdd, Nat.reduceSub, Nat.reduceMul, Int.reduceToNat, eval, nf, nfO, opN, appTo, rowsV, getL, setL, getO, setO, snocO, lenO, putL, ev, evs, ifEq, killV, killL, kill1, kill1L, kill, kills, killO, killOs, bin, binI, binS, binB, eq1, eqB, lit, sameK, kn, unI, mxA, mnA, mkAgg, fits, partN, partA, resN, retV, allVal, isVal, allCell, isCell, okVal, okCell, cellsOf, fillN, rowsN, cellsN, bnd, lohi, offAt, overL, segL, leave, NodeOK, List.cons_append, List.nil_append, List.append_nil, catA, anys, lenA]))
        (repeat (with_reducible refine And.intro ?_ ?_; focus (simp; done)))
        intro _
        ((repeat (with_reducible refine And.intro ?_ ?_; focus (simp; done))); refine aw_call (free_c M N ((N : Int) - (T.es.length : Nat) - 1) (xorW V p)) [1, 0] rfl (by simp [upM, nthN, matchO, rens, ren, ren1, ren1L, renL, renV, renO, rl, lenO, getO, Nat.blt, mtc, mtcS, mtcSL, mtc0, mtc0L, alC, alW]) rfl (by simp [upM, nthN, matchO, rens, ren, ren1, ren1L, renL, renV, renO, rl, lenO, getO, Nat.blt, mtc, mtcS, mtcSL, mtc0, mtc0L, alC, alW]) rfl (fun r hs hp hl => ?_); obtain ⟨rfl, rfl⟩ := hp; simp only [snocO, upM, nthN, putAll, snocAll, killsA, killOsA, grows, putL, rl, renV, renL, ren1, ren1L, ren, rens, renO, Nat.blt, lenO, getO, setO, setL, anys, alC, alW]; (refine eval_sound 2000 _ _ _ ?_; simp (maxSteps := 1000000) only [Bool.not_true, Bool.not_false, lookR, valOf, asGrow, jump, findA, restA, and, Nat.reduceAdd, Nat.reduceSub, Nat.reduceMul, Int.reduceToNat, eval, nf, nfO, opN, appTo, rowsV, getL, setL, getO, setO, snocO, lenO, putL, ev, evs, ifEq, killV, killL, kill1, kill1L, kill, kills, killO, killOs, bin, binI, binS, binB, eq1, eqB, lit, sameK, kn, unI, mxA, mnA, mkAgg, fits, partN, partA, resN, retV, allVal, isVal, allCell, isCell, okVal, okCell, cellsOf, fillN, rowsN, cellsN, bnd, lohi, offAt, overL, segL, leave, NodeOK, List.cons_append, List.nil_append, List.append_nil, catA, anys, lenA]))
        rw [t2, wr64 (n := (N : Int) - ((T.es.length + 1 : Nat) : Int)) (by omega) (by omega), wk, show (N : Int) - (T.es.length : Nat) - 1 = (N : Int) - ((T.put p .tt).es.length : Nat) by omega]
        refine ⟨fun h => by simp at h; omega, fun _ => ?_⟩
        refine ⟨(k + 1, xorW V p, T.put p .tt), ⟨by simp only []; omega, t1⟩, by simp only []; omega, ?_⟩
        (simp only [wrC, wrOs, keepT, memN, setsL, setsO, setL, setO, snocO, List.cons_append, List.nil_append, List.append_nil, Nat.reduceAdd, Nat.zero_add, Wk, mtc, mtcS, mtcSL, mtc0, mtc0L, mtcL, mtcO, mtcOs, cutM, takeE, stA, rl, renV, renL, ren1, ren1L, ren, rens, renO, Nat.blt, lenO, getO, setO, setL, anys, alC]; simp [alC])
      · have e0 : (N : Int) - (T.es.length : Nat) = 0 := by omega
        rw [e0]
        ((repeat (with_reducible refine And.intro ?_ ?_; focus (simp; done))); refine aw_call (take0_c M N V) [1, 0] rfl (by simp [upM, nthN, matchO, rens, ren, ren1, ren1L, renL, renV, renO, rl, lenO, getO, Nat.blt, mtc, mtcS, mtcSL, mtc0, mtc0L, alC, alW]) rfl (by simp [upM, nthN, matchO, rens, ren, ren1, ren1L, renL, renV, renO, rl, lenO, getO, Nat.blt, mtc, mtcS, mtcSL, mtc0, mtc0L, alC, alW]) rfl (fun r hs hp hl => ?_); obtain ⟨rfl, rfl⟩ := hp; simp only [snocO, upM, nthN, putAll, snocAll, killsA, killOsA, grows, putL, rl, renV, renL, ren1, ren1L, ren, rens, renO, Nat.blt, lenO, getO, setO, setL, anys, alC, alW]; (refine eval_sound 2000 _ _ _ ?_; simp (maxSteps := 1000000) only [Bool.not_true, Bool.not_false, lookR, valOf, asGrow, jump, findA, restA, and, Nat.reduceAdd, Nat.reduceSub, Nat.reduceMul, Int.reduceToNat, eval, nf, nfO, opN, appTo, rowsV, getL, setL, getO, setO, snocO, lenO, putL, ev, evs, ifEq, killV, killL, kill1, kill1L, kill, kills, killO, killOs, bin, binI, binS, binB, eq1, eqB, lit, sameK, kn, unI, mxA, mnA, mkAgg, fits, partN, partA, resN, retV, allVal, isVal, allCell, isCell, okVal, okCell, cellsOf, fillN, rowsN, cellsN, bnd, lohi, offAt, overL, segL, leave, NodeOK, List.cons_append, List.nil_append, List.append_nil, catA, anys, lenA]))
        (repeat (with_reducible refine And.intro ?_ ?_; focus (simp; done)))
        refine ⟨fun _ => ?_, fun h => by simp at h⟩
        rw [show (T.es.length : Int) = N by omega]
        (repeat (with_reducible refine And.intro ?_ ?_; focus (simp; done)))
        refine ⟨fun _ => ?_, fun h => by simp at h⟩
        ((repeat (with_reducible refine And.intro ?_ ?_; focus (simp; done))); refine aw_call (free_c M N 0 V) [1, 0] rfl (by simp [upM, nthN, matchO, rens, ren, ren1, ren1L, renL, renV, renO, rl, lenO, getO, Nat.blt, mtc, mtcS, mtcSL, mtc0, mtc0L, alC, alW]) rfl (by simp [upM, nthN, matchO, rens, ren, ren1, ren1L, renL, renV, renO, rl, lenO, getO, Nat.blt, mtc, mtcS, mtcSL, mtc0, mtc0L, alC, alW]) rfl (fun r hs hp hl => ?_); obtain ⟨rfl, rfl⟩ := hp; simp only [snocO, upM, nthN, putAll, snocAll, killsA, killOsA, grows, putL, rl, renV, renL, ren1, ren1L, ren, rens, renO, Nat.blt, lenO, getO, setO, setL, anys, alC, alW]; (refine eval_sound 2000 _ _ _ ?_; simp (maxSteps := 1000000) only [Bool.not_true, Bool.not_false, lookR, valOf, asGrow, jump, findA, restA, and, Nat.reduceAdd, Nat.reduceSub, Nat.reduceMul, Int.reduceToNat, eval, nf, nfO, opN, appTo, rowsV, getL, setL, getO, setO, snocO, lenO, putL, ev, evs, ifEq, killV, killL, kill1, kill1L, kill, kills, killO, killOs, bin, binI, binS, binB, eq1, eqB, lit, sameK, kn, unI, mxA, mnA, mkAgg, fits, partN, partA, resN, retV, allVal, isVal, allCell, isCell, okVal, okCell, cellsOf, fillN, rowsN, cellsN, bnd, lohi, offAt, overL, segL, leave, NodeOK, List.cons_append, List.nil_append, List.append_nil, catA, anys, lenA]))
        (repeat (with_reducible refine And.intro ?_ ?_; focus (simp; done)))
        refine ⟨fun _ => ?_, fun h => by simp at h⟩
        ((repeat (with_reducible refine And.intro ?_ ?_; focus (simp; done))); refine aw_call (hlive) [] rfl (by simp [upM, nthN, matchO, rens, ren, ren1, ren1L, renL, renV, renO, rl, lenO, getO, Nat.blt, mtc, mtcS, mtcSL, mtc0, mtc0L]) rfl (by simp [upM, nthN, matchO, rens, ren, ren1, ren1L, renL, renV, renO, rl, lenO, getO, Nat.blt, mtc, mtcS, mtcSL, mtc0, mtc0L]) rfl (fun r hs hp hl => ?_); obtain ⟨rfl, rfl⟩ := hp; simp only [snocO, upM, nthN, putAll, snocAll, killsA, killOsA, grows, putL, rl, renV, renL, ren1, ren1L, ren, rens, renO, Nat.blt, lenO, getO, setO, setL, anys]; (refine eval_sound 2000 _ _ _ ?_; simp (maxSteps := 1000000) only [Bool.not_true, Bool.not_false, lookR, valOf, asGrow, jump, findA, restA, and, Nat.reduceAdd, Nat.reduceSub, Nat.reduceMul, Int.reduceToNat, eval, nf, nfO, opN, appTo, rowsV, getL, setL, getO, setO, snocO, lenO, putL, ev, evs, ifEq, killV, killL, kill1, kill1L, kill, kills, killO, killOs, bin, binI, binS, binB, eq1, eqB, lit, sameK, kn, unI, mxA, mnA, mkAgg, fits, partN, partA, resN, retV, allVal, isVal, allCell, isCell, okVal, okCell, cellsOf, fillN, rowsN, cellsN, bnd, lohi, offAt, overL, segL, leave, NodeOK, List.cons_append, List.nil_append, List.append_nil, catA, anys, lenA]))
        ((repeat (with_reducible refine And.intro ?_ ?_; focus (simp; done))); refine ⟨[], rfl, _, _, ?_, ?_, rfl, rfl⟩ <;> simp [Wk, mtc, mtcS, mtcSL, mtc0, mtc0L, mtcL, mtcO, mtcOs, cutM, takeE, stA, rl, renV, renL, ren1, ren1L, ren, rens, renO, Nat.blt, lenO, getO, setO, setL, anys, okS, endM, endH, idxN, takeE, pickE, catO, rl, renV, renL, ren1, ren1L, ren, rens, renO, Nat.blt, lenO, getO, setO, setL, anys, alC])
  · ((repeat (with_reducible refine And.intro ?_ ?_; focus (simp; done))); refine aw_call (hlive) [] rfl (by simp [upM, nthN, matchO, rens, ren, ren1, ren1L, renL, renV, renO, rl, lenO, getO, Nat.blt, mtc, mtcS, mtcSL, mtc0, mtc0L]) rfl (by simp [upM, nthN, matchO, rens, ren, ren1, ren1L, renL, renV, renO, rl, lenO, getO, Nat.blt, mtc, mtcS, mtcSL, mtc0, mtc0L]) rfl (fun r hs hp hl => ?_); obtain ⟨rfl, rfl⟩ := hp; simp only [snocO, upM, nthN, putAll, snocAll, killsA, killOsA, grows, putL, rl, renV, renL, ren1, ren1L, ren, rens, renO, Nat.blt, lenO, getO, setO, setL, anys]; (refine eval_sound 2000 _ _ _ ?_; simp (maxSteps := 1000000) only [Bool.not_true, Bool.not_false, lookR, valOf, asGrow, jump, findA, restA, and, Nat.reduceAdd, Nat.reduceSub, Nat.reduceMul, Int.reduceToNat, eval, nf, nfO, opN, appTo, rowsV, getL, setL, getO, setO, snocO, lenO, putL, ev, evs, ifEq, killV, killL, kill1, kill1L, kill, kills, killO, killOs, bin, binI, binS, binB, eq1, eqB, lit, sameK, kn, unI, mxA, mnA, mkAgg, fits, partN, partA, resN, retV, allVal, isVal, allCell, isCell, okVal, okCell, cellsOf, fillN, rowsN, cellsN, bnd, lohi, offAt, overL, segL, leave, NodeOK, List.cons_append, List.nil_append, List.append_nil, catA, anys, lenA]))
    ((repeat (with_reducible refine And.intro ?_ ?_; focus (simp; done))); refine ⟨[], rfl, _, _, ?_, ?_, rfl, rfl⟩ <;> simp [Wk, mtc, mtcS, mtcSL, mtc0, mtc0L, mtcL, mtcO, mtcOs, cutM, takeE, stA, rl, renV, renL, ren1, ren1L, ren, rens, renO, Nat.blt, lenO, getO, setO, setL, anys, okS, endM, endH, idxN, takeE, pickE, catO, rl, renV, renL, ren1, ren1L, ren, rens, renO, Nat.blt, lenO, getO, setO, setL, anys, alC])
end Go.Proofs.YtikogdkjmnpfcaaDoor.S
