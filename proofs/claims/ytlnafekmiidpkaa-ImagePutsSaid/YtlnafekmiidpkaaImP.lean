/- Contracts, picked of my other texts. -/
import Derived.Test.YtlnafekmiidpkaaImO
namespace Go.Proofs.Ytlnafekmiidpkaa.S
set_option linter.all false
set_option maxRecDepth 100000
set_option maxHeartbeats 1000000
theorem rd_rf (b : List Int) (hb : ByteL b) : ∀ k, (rdN (b, false) k).1 = (rfN b (0, false) k).1 ∧ (rdN (b, false) k).2.2 = (rfN b (0, false) k).2.2 ∧ Rl b (rdN (b, false) k).2.1 (rdN (b, false) k).2.2 (rfN b (0, false) k).2.1
  | 0 => ⟨rfl, rfl, by simp [rdN, rfN, Rl]⟩
  | k + 1 => by
    obtain ⟨h1, h2, h3⟩ := rd_rf b hb k
    obtain ⟨g1, g2, g3⟩ := rl_num 8 hb h3
    rw [show (numF b (rfN b (0, false) k).2.1 (rdN (b, false) k).2.2 8) = numF b (rfN b (0, false) k).2.1 (rfN b (0, false) k).2.2 8 by rw [h2]] at g1 g2 g3
    obtain ⟨e1, e2, e3⟩ := rl_num 2 hb g3
    rw [g2] at e1 e2 e3
    simp only [rdN, rfN, rd2, rf2, g2]
    refine ⟨by rw [h1, g1, e1], e2, e3⟩
theorem numI_s (n : Int) (k : Nat) : numS n k = u8s (numI n k) := by simp [numS, numI, u8s]
def bytesI (l : List (Int × Int)) : List Int := l.flatMap fun c => numI c.1 8 ++ numI c.2 2
theorem bytesI_s (l : List (Int × Int)) : bytesT l = u8s (bytesI l) := by
  induction l with
  | nil => rfl
  | cons x l ih => simp [bytesT, bytesI, numI_s, u8s] at ih ⊢; rw [ih]
def TOK (l : List (Int × Int)) : Prop := ∀ c ∈ l, (0 ≤ c.1 ∧ c.1 < 18446744073709551616) ∧ 0 ≤ c.2 ∧ c.2 < 65536
theorem rd_bytes (p l : List (Int × Int)) (hl : TOK l) (b : List Int) : ∀ k, k ≤ l.length → rdN (bytesI l ++ b, false) k = (l.take k, bytesI (l.drop k) ++ b, false)
  | 0, _ => by simp [rdN]
  | k + 1, hk => by
    have ih := rd_bytes p l hl b k (by omega)
    have hk' : k < l.length := by omega
    have hd : l.drop k = l[k] :: l.drop (k + 1) := List.drop_eq_getElem_cons hk'
    obtain ⟨⟨h1, h2⟩, h3, h4⟩ := hl l[k] (List.getElem_mem hk')
    have e : bytesI (l.drop k) ++ b = numI l[k].1 8 ++ (numI l[k].2 2 ++ (bytesI (l.drop (k + 1)) ++ b)) := by
      rw [hd]; show (l[k] :: l.drop (k + 1)).flatMap _ ++ b = _; rw [List.flatMap_cons]; simp only [bytesI, List.append_assoc]
    have n1 := numV_num l[k].1 8 (by omega) h1 (by omega) (numI l[k].2 2 ++ (bytesI (l.drop (k + 1)) ++ b))
    have n2 := numV_num l[k].2 2 (by omega) h3 (by omega) (bytesI (l.drop (k + 1)) ++ b)
    have n1 : numV (numI l[k].1 8 ++ (numI l[k].2 2 ++ (bytesI (l.drop (k + 1)) ++ b))) false 8 = _ := n1
    have n2 : numV (numI l[k].2 2 ++ (bytesI (l.drop (k + 1)) ++ b)) false 2 = _ := n2
    simp only [rdN, rd2, ih, e, n1, n2]
    rw [IntWalk.u16_in _ ⟨h3, by omega⟩, List.take_succ_eq_append_getElem hk']
theorem numV_len (l : List Int) (bad : Bool) (n : Int) : (numV l bad n).2.1.length ≤ l.length := by
  unfold numV; split
  · simp
  · exact cutR_len _ _ _
theorem bytesOf_I (s : ByteArray) : bytesOf s = u8s (nmI s) := by simp [bytesOf, u8s, nmI]
end Go.Proofs.Ytlnafekmiidpkaa.S
