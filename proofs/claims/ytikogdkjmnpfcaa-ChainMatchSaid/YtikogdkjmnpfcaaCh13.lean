/- ChainMatch: pieces of one sender's. -/
import Derived.Test.YtikogdkjmnpfcaaCh12
namespace Go.Proofs.Ytikogdkjmnpfcaa.S
set_option linter.all false
set_option maxRecDepth 100000
set_option maxHeartbeats 4000000
def preC (l : List It) (p : Nat) : Ch := ⟨0, 0, l.take p⟩
theorem falls_right : ∀ (a b : List It) (o : Int), fallsL o (a ++ b) = false → fallsL (lastT o a) b = false
  | [], b, o, h => h
  | [x], b, o, h => by
    simp only [fallsL, Bool.or_eq_false_iff, List.cons_append, List.nil_append] at h
    exact h.2
  | x :: y :: a, b, o, h => by
    simp only [fallsL, Bool.or_eq_false_iff, List.cons_append] at h
    have := falls_right (y :: a) b x.t (by simp only [fallsL, Bool.or_eq_false_iff, List.cons_append]; exact h.2)
    rwa [show lastT x.t (y :: a) = lastT o (x :: y :: a) by unfold lastT; simp [List.getLast?_cons_cons, List.getLast?_cons]] at this
theorem get_pre {l : List It} {p : Nat} (hp : p ≤ l.length) (i : Nat) (h1 : 1 ≤ i) (h2 : i ≤ p) : getC (preC l p) (i : Int) = l[i - 1]? := by
  unfold getC lastC preC
  rw [if_neg (by simp; omega), show ((i : Int) - 0 - 1).toNat = i - 1 by omega]
  exact List.getElem?_take_of_lt (by omega)
theorem get_pre0 {l : List It} {p : Nat} (hp : p ≤ l.length) (i : Nat) (h : p < i) : getC (preC l p) (i : Int) = none := by
  unfold getC lastC preC
  rw [if_pos (by simp; omega)]
theorem fork_pre {l : List It} {p prev : Nat} (hp : p ≤ l.length) : ∀ (q : List It) (k : Nat), (∀ j, j < q.length → q[j]? = l[prev + k + j]?) → prev + k ≤ p → forkN (preC l p) (prev : Int) q k = min (k + q.length) (p - prev)
  | [], k, _, h => by simp [forkN]; omega
  | x :: q, k, hq, h => by
    rw [forkN_cons, show ((prev : Int) + 1 + k) = ((prev + 1 + k : Nat) : Int) by omega]
    by_cases hk : prev + k < p
    · have h0 := hq 0 (by simp)
      simp at h0
      rw [get_pre hp _ (by omega) (by omega), show prev + 1 + k - 1 = prev + k by omega, ← h0]
      rw [if_pos (.inr (by simp))]
      rw [fork_pre hp q (k + 1) (fun j hj => by
        have := hq (j + 1) (by simp; omega)
        simp only [List.getElem?_cons_succ] at this
        rw [this]; congr 1; omega) (by omega)]
      simp; omega
    · rw [get_pre0 hp _ (by omega), if_neg (by simp [preC]; omega)]
      simp; omega
theorem take_pre {l : List It} {p prev m : Nat} {t : Int} (hp : p ≤ l.length) (hl : l.length ≤ 50) (hs : fallsL 0 l = false) (ht : prev ≤ p → (termC (preC l p) prev) = (t, true)) (hm : prev + m ≤ l.length) :
    takeC (preC l p) prev t ((l.drop prev).take m) = if p < prev then ⟨0, false, preC l p⟩ else ⟨((prev + m : Nat) : Int), true, preC l (max p (prev + m))⟩ := by
  have hlen : ((l.drop prev).take m).length = m := by simp; omega
  have hlast : lastC (preC l p) = p := by unfold lastC preC; simp; omega
  unfold takeC
  rw [hlast]
  by_cases h : p < prev
  · rw [if_pos (by omega), if_pos h]
  · rw [if_neg (by omega), if_neg h]
    have htt := ht (by omega)
    rw [if_neg (by rw [htt]; simp)]
    have hf := fork_pre (prev := prev) hp ((l.drop prev).take m) 0 (fun j hj => by
      rw [hlen] at hj
      rw [List.getElem?_take_of_lt hj, List.getElem?_drop]; congr 1) (by omega)
    rw [hlen, Nat.zero_add] at hf
    rw [hf, hlen]
    by_cases hk : p - prev < m
    · rw [Nat.min_eq_right (by omega), if_pos hk]
      have e1 : ((prev : Int) + ((p - prev : Nat) : Int) - (preC l p).b).toNat = p := by unfold preC; simp; omega
      have e2 : (preC l p).l.take p = l.take p := by unfold preC; simp only []; rw [List.take_take, Nat.min_self]
      have e3 : ((l.drop prev).take m).drop (p - prev) = (l.drop p).take (prev + m - p) := by
        rw [List.drop_take, List.drop_drop, show prev + (p - prev) = p by omega, show m - (p - prev) = prev + m - p by omega]
      have e4 : l.take p ++ (l.drop p).take (prev + m - p) = l.take (prev + m) := by
        rw [← List.take_add, show p + (prev + m - p) = prev + m by omega]
      have hj : joinE (preC l p).o (l.take p) ((l.drop p).take (prev + m - p)) = 0 := by
        unfold joinE
        rw [if_neg (by simp; omega), if_neg]
        have := falls_right (l.take p) ((l.drop p).take (prev + m - p)) 0 (by rw [e4]; exact falls_take _ _ _ hs)
        rw [show (preC l p).o = 0 from rfl, this]
        simp
      rw [e1, e2, e3, if_pos hj, e4, Nat.max_eq_right (by omega)]
      simp only [preC]
      rw [show max ((prev : Int) + m) 0 = ((prev + m : Nat) : Int) by omega]
    · rw [Nat.min_eq_left (by omega), if_neg (by omega), Nat.max_eq_left (by omega)]
      rw [show max ((prev : Int) + m) (preC l p).b = ((prev + m : Nat) : Int) by unfold preC; simp; omega]
theorem term_pre {l : List It} {p prev : Nat} (hp : p ≤ l.length) (h : prev ≤ p) : termC (preC l p) (prev : Int) = termC (preC l l.length) (prev : Int) := by
  unfold termC
  have e1 : (preC l p).b = 0 := rfl
  have e2 : (preC l l.length).b = 0 := rfl
  rw [e1, e2]
  split
  · rfl
  · rename_i h0
    rw [get_pre hp prev (by omega) h, get_pre (Nat.le_refl _) prev (by omega) (by omega)]
theorem term_ok {l : List It} {prev : Nat} (h : prev ≤ l.length) : (termC (preC l l.length) (prev : Int)).2 = true := by
  unfold termC
  split
  · rfl
  · rename_i h0
    have h0 : prev ≠ 0 := fun e => h0 (by rw [e]; rfl)
    rw [get_pre (Nat.le_refl _) prev (by omega) h]
    simp only [List.getElem?_eq_getElem (show prev - 1 < l.length by omega), Option.isSome_some]
structure P2 where
  x : Nat
  y : Nat
def p2R (q : P2) : List AV := [.int .u8 (q.x : Int), .int .u8 (q.y : Int)]
def P2OK (q : P2) : Prop := q.x < 256 ∧ q.y < 256
end Go.Proofs.Ytikogdkjmnpfcaa.S
