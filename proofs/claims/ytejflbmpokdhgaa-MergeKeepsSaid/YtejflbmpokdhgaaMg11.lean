/- MergeKeeps, MergeOrder: plain laws. -/
import Derived.Test.YtejflbmpokdhgaaMg9
namespace Go.Proofs.Ytejflbmpokdhgaa.S
set_option linter.all false
set_option maxRecDepth 100000
theorem keeps_pure {L : List En} {x : En} {base term n : Int} (hx : x ∈ L) (h : ∀ e ∈ L, (e.i = x.i → ¬ x.t < e.t ∧ (e.t = x.t → alikeL e x = true)) ∧ voidsL e x = false) (h1 : base < x.i) (h2 : x.i ≤ base + 192) :
    (x.i - base - 1).toNat < many L base ∧ ∃ y, (mrgL L base term n)[(x.i - base - 1).toNat]? = some y ∧ alikeL y x = true := by
  have hv : voidB x L = false := by unfold voidB; rw [List.any_eq_false]; exact fun e he => by rw [(h e he).2]; simp
  obtain ⟨o, ho, ha⟩ : ∃ o, best L x.i = some o ∧ alikeL o x = true := by
    cases hb : best L x.i with
    | none => have := best_none hb x hx rfl; rw [hv] at this; cases this
    | some o =>
      obtain ⟨g1, g2, g3, g4⟩ := best_some hb
      have q1 := g4 x hx rfl hv
      have q2 := ((h o g1).1 g2).1
      exact ⟨o, rfl, ((h o g1).1 g2).2 (by omega)⟩
  obtain ⟨j, hj⟩ : ∃ j : Nat, x.i = base + 1 + j := ⟨(x.i - base - 1).toNat, by omega⟩
  have hk : (x.i - base - 1).toNat = j := by omega
  rw [hk]
  have hm : j + 1 ≤ many L base := by
    refine (manyT_spec L base 192).1 (j + 1) (by omega) (by omega) ?_
    rw [show base + ((j + 1 : Nat) : Int) = x.i by omega, ho]; rfl
  refine ⟨by omega, _, mrgT_get (by omega), ?_⟩
  rw [hj] at ho
  exact alike_trans (alike_symm (mrgE_best ho)) ha
theorem void_mem {L K : List En} (h : ∀ e, e ∈ L ↔ e ∈ K) (x : En) : voidB x L = voidB x K := by
  unfold voidB
  rw [Bool.eq_iff_iff, List.any_eq_true, List.any_eq_true]
  exact ⟨fun ⟨e, h1, h2⟩ => ⟨e, (h e).1 h1, h2⟩, fun ⟨e, h1, h2⟩ => ⟨e, (h e).2 h1, h2⟩⟩
theorem best_mem2 {L K : List En} (h : ∀ e, e ∈ L ↔ e ∈ K) (hal : ∀ e ∈ L, ∀ x ∈ L, e.i = x.i → e.t = x.t → alikeL e x = true) (ix : Int) :
    (best L ix = none ∧ best K ix = none) ∨ ∃ o p, best L ix = some o ∧ best K ix = some p ∧ alikeL o p = true := by
  cases hL : best L ix with
  | none =>
    left
    refine ⟨rfl, ?_⟩
    cases hK : best K ix with
    | none => rfl
    | some p =>
      obtain ⟨g1, g2, g3, _⟩ := best_some hK
      have := best_none hL p ((h p).2 g1) g2
      rw [void_mem h, g3] at this
      cases this
  | some o =>
    obtain ⟨g1, g2, g3, g4⟩ := best_some hL
    right
    cases hK : best K ix with
    | none =>
      have := best_none hK o ((h o).1 g1) g2
      rw [← void_mem h, g3] at this
      cases this
    | some p =>
      obtain ⟨q1, q2, q3, q4⟩ := best_some hK
      have e1 := g4 p ((h p).2 q1) q2 (by rw [void_mem h]; exact q3)
      have e2 := q4 o ((h o).1 g1) g2 (by rw [← void_mem h]; exact g3)
      exact ⟨o, p, rfl, rfl, hal o g1 p ((h p).2 q1) (by rw [g2, q2]) (by omega)⟩
theorem many_mem {L K : List En} (h : ∀ e, e ∈ L ↔ e ∈ K) (hal : ∀ e ∈ L, ∀ x ∈ L, e.i = x.i → e.t = x.t → alikeL e x = true) (base : Int) : many L base = many K base := by
  have hk : ∀ k, manyT L base k = manyT K base k := by
    intro k
    induction k with
    | zero => rfl
    | succ k ih =>
      have he : (best L (base + ((k + 1 : Nat) : Int))).isSome = (best K (base + ((k + 1 : Nat) : Int))).isSome := by
        rcases best_mem2 h hal (base + ((k + 1 : Nat) : Int)) with ⟨a, b⟩ | ⟨o, p, a, b, _⟩ <;> rw [a, b] <;> rfl
      unfold manyT
      rw [he, ih]
  exact hk 192
theorem order_pure {L K : List En} {base term n : Int} (h : ∀ e, e ∈ L ↔ e ∈ K) (hal : ∀ e ∈ L, ∀ x ∈ L, e.i = x.i → e.t = x.t → alikeL e x = true) :
    (mrgL K base term n).length = (mrgL L base term n).length ∧ ∀ i, i < (mrgL L base term n).length → ∃ a b, (mrgL L base term n)[i]? = some a ∧ (mrgL K base term n)[i]? = some b ∧ alikeL a b = true := by
  have hm := many_mem h hal base
  unfold mrgL
  rw [← hm, mrgT_len, mrgT_len]
  refine ⟨rfl, fun i hi => ⟨_, _, mrgT_get hi, mrgT_get hi, ?_⟩⟩
  unfold mrgE
  rcases best_mem2 h hal (base + 1 + i) with ⟨a, b⟩ | ⟨o, p, a, b, q⟩ <;> rw [a, b]
  · simp [alikeL]
  · exact q
theorem mem_rev (all : List (List En)) (e : En) : e ∈ all.flatten ↔ e ∈ all.reverse.flatten := by
  simp [List.mem_flatten]
theorem few_rev {all : List (List En)} (h : Few all) : Few all.reverse :=
  ⟨by rw [List.length_reverse]; exact h.n, fun l hl => h.m l (List.mem_reverse.1 hl), fun e he => h.ok e ((mem_rev all e).2 he), fun e he => h.bl e ((mem_rev all e).2 he)⟩
end Go.Proofs.Ytejflbmpokdhgaa.S
