/- Regions of open order: few words of my own. -/
import Derived.WalkKit
import Derived.WalkSpells
import Derived.Laws.CopyRow
import Derived.Laws.Rows
import Derived.Deep.Draws
import Derived.Orders
import Derived.Laws.StructEq
namespace Go.Proofs.YtlnafekmiidpkaaDoor.K
open Go.RowKit
set_option linter.all false
def needs (o : Oper) : List Nat := (o.after.toList.filter (fun e => Region.binds .any e)).map (·.on)
section
variable {P : Program} {ops : Array Oper} {Q : Exit → Act → World → Prop}
theorem exists_least {p : Nat → Prop} (h : ∃ n, p n) : ∃ n, p n ∧ ∀ m, p m → n ≤ m := by
  obtain ⟨n, hn⟩ := h
  induction n using Nat.strongRecOn with
  | _ n ih =>
    by_cases hm : ∃ m, m < n ∧ p m
    · obtain ⟨m, hlt, hp⟩ := hm
      exact ih m hlt hp
    · exact ⟨n, hn, fun m hp => Nat.le_of_not_lt fun hlt => hm ⟨m, hlt, hp⟩⟩
theorem needs_mem {o : Oper} {j : Nat} (h : (needs o).contains j = true) {listed : Array Bool} (hr : ∀ e ∈ o.after, Region.binds .any e = true → listed.getD e.on false = true) : listed.getD j false = true := by
  simp only [needs, List.contains_iff_mem, List.mem_map, List.mem_filter] at h
  obtain ⟨e, ⟨he, hb⟩, rfl⟩ := h
  exact hr e (by simpa using he) hb
def up (f : Nat → Bool) (i : Nat) : Nat → Bool := fun j => if j = i then true else f j
def Shut (ops : Array Oper) (f : Nat → Bool) : Prop := ∀ s o, ops[s]? = some o → f s = true → ∀ j ∈ needs o, f j = true
structure Turn (ops : Array Oper) (f : Nat → Bool) (i : Nat) : Prop where
  self : f i = false
  late : ∀ s o, ops[s]? = some o → (needs o).contains i = true → f s = false
  early : ∀ o, ops[i]? = some o → ∀ j, (needs o).contains j = true → f j = true
  shut : Shut ops f
def fOf (listed : Array Bool) : Nat → Bool := fun j => listed.getD j false
theorem fOf_set {listed : Array Bool} {i : Nat} (h : i < listed.size) : fOf (listed.setIfInBounds i true) = up (fOf listed) i := by
  funext j
  unfold fOf up
  by_cases e : j = i
  · subst e; simp [Array.getD, h]
  · rw [getD_set_ne false (Ne.symm e), if_neg e]
theorem LetsOut_then {K : Act → World → Prop} (h : LetsOut (Exit.then K Q)) : LetsOut Q := by
  obtain ⟨a, w, h⟩ := h
  exact ⟨a, w, h⟩
theorem op_of_list {i : Nat} {o : Oper} {K : Act → World → Prop} {a : Act} {w : World} (ho : ops[i]? = some o) (h : wpList P ops (Exit.then K Q) [o] a w) : wpOp P ops Q i K a w := by
  unfold wpOp
  simp only [ho]
  unfold wpList at h
  split at h
  · rename_i hw
    simp only [hw, if_true]
    rcases h with h | ⟨h1, h2⟩
    · refine .inl ?_
      unfold Oper.wp at *
      generalize (execOp a.eval o).run P w = r at *
      cases r with
      | ok n w' =>
        cases n <;> simp only [Oper.upon] at h ⊢
        case value u => exact h
        case skip => exact h
        case defer d => exact h
        case enter f args =>
          refine Calls.mono h fun e w'' he => ?_
          cases e with
          | returned u => exact he
          | panicked c => exact he
          | outgrown => exact LetsOut_then he
        case row row args => exact Rows.mono h fun u w'' he => he
      | halt x w' =>
        cases x <;> simp only [Oper.upon] at h ⊢
        case panic u => exact h
    · exact .inr ⟨h1, LetsOut_then h2⟩
  · rename_i hw
    simp only [hw]
    exact h
end
end Go.Proofs.YtlnafekmiidpkaaDoor.K
