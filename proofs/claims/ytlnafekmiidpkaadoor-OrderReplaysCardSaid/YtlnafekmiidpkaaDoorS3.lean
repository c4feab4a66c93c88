/- What abstract states stand for: values, blocks, worlds; what keeps that. -/
import Derived.Test.YtlnafekmiidpkaaDoorS2
import Derived.Laws.Cells
import Derived.Laws.Entries
import Derived.Laws.Rows
import Derived.Laws.Append
import Derived.ChangeKeysEq
import Derived.Lib.FrozenHead
namespace Go.Proofs.YtlnafekmiidpkaaDoor.S
set_option linter.all false
set_option linter.unusedVariables false
/-- What a label stands for: a block, or the slice that grows in it. -/
structure Gh where
  blk : Nat
  hd : Value
def at_ (b o : Nat) : Addr := ⟨b, o, none⟩
inductive Lf (Pr : Nat → Prop) (w : World) : AV → Value → Prop
  | any (v) : Lf Pr w .any v
  | int (k n) : Lf Pr w (.int k n) (.int k n)
  | bool (b) : Lf Pr w (.bool b) (.bool b)
  | tt : Lf Pr w .tt (.bool true)
  | ff : Lf Pr w .ff (.bool false)
  | str (s) : Lf Pr w (.str s) (.string s)
  | nilp : Lf Pr w .nilp (.pointer none)
  | nils : Lf Pr w .nils (.slice none 0 0)
  | nilm : Lf Pr w .nilm (.map none)
  | nilf : Lf Pr w .nilf .nilFunc
  | ro0 (sz : Nat) (A : Option Addr) (cap : Nat) (hA : A = none → cap = 0) : Lf Pr w (.ro sz []) (.slice A 0 cap)
  | ro (sz : Nat) (xs : List (List AV)) (b o cap : Nat) (f : Nat → Value) (hp : Pr b) (hc : xs.length ≤ cap) (hn : ∀ row ∈ xs, row.length = sz)
      (hv : ∀ (i : Nat) row (j : Nat) a, xs[i]? = some row → row[j]? = some a → Lf Pr w a (f (i * sz + j)))
      (hm : ∀ q, q < xs.length * sz → w.cell? (at_ b (o + q)) = some (f q) ∧ (f q).oneCell' = true) : Lf Pr w (.ro sz xs) (.slice (some (at_ b o)) xs.length cap)
  | arr (cs : List AV) (vs : Array Value) (hn : vs.size = cs.length) (h : ∀ (j : Nat) a v, cs[j]? = some a → vs[j]? = some v → Lf Pr w a v) (hc : ∀ v ∈ vs.toList, v.oneCell' = true) : Lf Pr w (.arr cs) (.agg vs)
inductive Cz (gs : Nat → Gh) (D : Nat → Prop) (Pr : Nat → Prop) (w : World) : AV → Value → Prop
  | any (v) : Cz gs D Pr w .any v
  | lf {a v} (h : Lf Pr w a v) : Cz gs D Pr w a v
  | rp (c : List AV) (off b o : Nat) (hp : Pr b) (h : ∀ (j : Nat) a, c[j]? = some a → ∃ v, w.cell? (at_ b (o + j)) = some v ∧ v.oneCell' = true ∧ Lf Pr w a v) : Cz gs D Pr w (.rp c off) (.pointer (some (at_ b (o + off))))
  | ptr (k off) (hk : D k) : Cz gs D Pr w (.ptr k off) (.pointer (some (at_ (gs k).blk off)))
  | ptrS (k off) (hk : D k) : Cz gs D Pr w (.ptrS k off) (.pointer (some (at_ (gs k).blk off)))
  | sl (k off len cap) (hk : D k) : Cz gs D Pr w (.sl k off len cap) (.slice (some (at_ (gs k).blk off)) len cap)
  | own (k) (hk : D k) (hh : ∃ A n c, (gs k).hd = .slice A n c) : Cz gs D Pr w (.own k) (gs k).hd
  | mp (k) (hk : D k) : Cz gs D Pr w (.mp k) (.map (some (gs k).blk))
  | gp (k sz i off) (hk : D k) : Cz gs D Pr w (.gp k sz i off) (.pointer (some (at_ (gs k).blk (i * sz + off))))
  | fn (f : Nat) (a b : List AV) (va vb : Array Value) (ha : va.size = a.length) (hb : vb.size = b.length) (h1 : ∀ (j : Nat) x v, a[j]? = some x → va[j]? = some v → Cz gs D Pr w x v)
      (h2 : ∀ (j : Nat) x v, b[j]? = some x → vb[j]? = some v → Cz gs D Pr w x v) : Cz gs D Pr w (.fn f a b) (.func (.func f) va vb)
  | agg (cs : List AV) (vs : Array Value) (hn : vs.size = cs.length) (h : ∀ (j : Nat) a v, cs[j]? = some a → vs[j]? = some v → Cz gs D Pr w a v) (hc : ∀ v ∈ vs.toList, v.oneCell' = true) : Cz gs D Pr w (.agg cs) (.agg vs)
  | tup (cs : List AV) (vs : Array Value) (hn : vs.size = cs.length) (h : ∀ (j : Nat) a v, cs[j]? = some a → vs[j]? = some v → Cz gs D Pr w a v) : Cz gs D Pr w (.tup cs) (.tuple vs)
/-- Cells that may be written. -/
def Fz (fr : Nat × Nat) (n : Nat) : Prop := fr.1 = fr.2 ∨ n ≤ fr.1
theorem Fz.off {fr : Nat × Nat} {n o : Nat} (h : Fz fr n) (ho : o < n) : ¬ (fr.1 ≤ o ∧ o < fr.2) := by rcases h with h | h <;> omega
def Blk (w : World) (b t : Nat) (R : Array Value → Prop) : Prop := ∃ c fr, w.heap[b]? = some (.cells c t fr) ∧ Fz fr c.size ∧ (∀ v ∈ c.toList, v.oneCell' = true) ∧ R c
/-- A map's entries, told. -/
def MRel (Pr : Nat → Prop) (w : World) (kk : IntKind) (l : List (Nat × Int × AV)) (m : List MapEntry) : Prop := l.length = m.length ∧ ∀ (i b : Nat) (n : Int) (a : AV) (e : MapEntry), l[i]? = some (b, n, a) → m[i]? = some e → e.born = b ∧ e.key = .int kk n ∧ Lf Pr w a e.val
def ObjOK (gs : Nat → Gh) (D : Nat → Prop) (Pr : Nat → Prop) (w : World) (g : Gh) : AObj → Prop
  | .arr t cs => Blk w g.blk t fun c => c.size = cs.length ∧ ∀ (j : Nat) a v, cs[j]? = some a → c[j]? = some v → Lf Pr w a v
  | .cells t cs => Blk w g.blk t fun c => c.size = cs.length ∧ ∀ (j : Nat) a v, cs[j]? = some a → c[j]? = some v → Cz gs D Pr w a v
  | .grow t sz xs => 0 < sz ∧ (∀ row ∈ xs, row.length = sz) ∧ ((xs = [] ∧ g.hd = .slice none 0 0) ∨ ∃ cap, g.hd = .slice (some (at_ g.blk 0)) xs.length cap ∧ xs.length ≤ cap ∧ Blk w g.blk t fun c => c.size = cap * sz ∧
      ∀ (i : Nat) row (j : Nat) a v, xs[i]? = some row → row[j]? = some a → c[i * sz + j]? = some v → Lf Pr w a v)
  | .lent t sz xs => 0 < sz ∧ (∀ row ∈ xs, row.length = sz) ∧ ((xs = [] ∧ g.hd = .slice none 0 0) ∨ ∃ cap, g.hd = .slice (some (at_ g.blk 0)) xs.length cap ∧ xs.length ≤ cap ∧ Blk w g.blk t fun c => c.size = cap * sz ∧
      ∀ (i : Nat) row (j : Nat) a v, xs[i]? = some row → row[j]? = some a → c[i * sz + j]? = some v → Lf Pr w a v)
  | .froz sz xs => Lf Pr w (.ro sz xs) g.hd
  | .map kk M => ∃ es : Array MapEntry, w.heap[g.blk]? = some (.map es M.clock) ∧ MRel Pr w kk M.es es.toList
  | .iter x c seen => ∃ b, w.heap[g.blk]? = some (.mapIter (some b) c seen.toArray c) ∧ Cz gs D Pr w x (.map (some b))
  | .dead => True
def live (g : Gh) : AObj → Prop
  | .arr .. | .cells .. | .map .. | .iter .. => True
  | .grow .. => g.hd ≠ .slice none 0 0
  | .lent .. => g.hd ≠ .slice none 0 0
  | _ => False
/-- The listed package-level variables hold what is listed, and nobody writes them. -/
def GlobOK (Pr : Nat → Prop) (w : World) : Prop := ∀ g c, gtab g = some c → Pr g ∧ ∀ (j : Nat) a, c[j]? = some a → ∃ v, w.cell? (at_ g j) = some v ∧ v.oneCell' = true ∧ Lf Pr w a v
structure Rep (gs : Nat → Gh) (D : Nat → Prop) (Pr : Nat → Prop) (M : Nat → Prop) (h : Nat → AObj) (w : World) : Prop where
  obj : ∀ k, D k → ObjOK gs D Pr w (gs k) (h k)
  inj : ∀ i j, D i → D j → live (gs i) (h i) → live (gs j) (h j) → (gs i).blk = (gs j).blk → i = j
  mine : ∀ k, D k → live (gs k) (h k) → M (gs k).blk ∧ ¬ Pr (gs k).blk
  pr : ∀ b, Pr b → b < w.heap.size
  gl : GlobOK Pr w
theorem cell_same {w w' : World} {b o : Nat} (h : w'.heap[b]? = w.heap[b]?) : w'.cell? (at_ b o) = w.cell? (at_ b o) := by
  unfold World.cell? at_
  simp only [h]
theorem Lf.mono {Pr Pr' : Nat → Prop} {w w' : World} (hP : ∀ b, Pr b → Pr' b) (hw : ∀ b, Pr b → w'.heap[b]? = w.heap[b]?) {a : AV} {v : Value} (h : Lf Pr w a v) : Lf Pr' w' a v := by
  induction h with
  | ro sz xs b o cap f hp hc hn hv hm ih =>
    exact .ro sz xs b o cap f (hP b hp) hc hn (fun i row j a h1 h2 => ih i row j a h1 h2) (fun q hq => by rw [cell_same (hw b hp)]; exact hm q hq)
  | arr cs vs hn h hc ih => exact .arr cs vs hn (fun j a v h1 h2 => ih j a v h1 h2) hc
  | ro0 sz A cap hA => exact .ro0 sz A cap hA
  | _ => constructor
theorem GlobOK.mono {Pr Pr' : Nat → Prop} {w w' : World} (hP : ∀ b, Pr b → Pr' b) (hw : ∀ b, Pr b → w'.heap[b]? = w.heap[b]?) (h : GlobOK Pr w) : GlobOK Pr' w' := by
  intro g c hg
  obtain ⟨h1, h2⟩ := h g c hg
  refine ⟨hP g h1, fun j a hj => ?_⟩
  obtain ⟨v, h3, h4, h5⟩ := h2 j a hj
  exact ⟨v, by rw [cell_same (hw g h1)]; exact h3, h4, h5.mono hP hw⟩
theorem Cz.mono {gs gs' : Nat → Gh} {D D' : Nat → Prop} {Pr Pr' : Nat → Prop} {w w' : World} (hD : ∀ k, D k → D' k) (hg : ∀ k, D k → gs' k = gs k) (hP : ∀ b, Pr b → Pr' b) (hw : ∀ b, Pr b → w'.heap[b]? = w.heap[b]?) {a : AV} {v : Value}
    (h : Cz gs D Pr w a v) : Cz gs' D' Pr' w' a v := by
  induction h with
  | any v => exact .any v
  | lf h => exact .lf (h.mono hP hw)
  | rp c off b o hp h =>
    refine .rp c off b o (hP b hp) (fun j a hj => ?_)
    obtain ⟨v, h1, h2, h3⟩ := h j a hj
    exact ⟨v, by rw [cell_same (hw b hp)]; exact h1, h2, h3.mono hP hw⟩
  | ptr k off hk => rw [← hg k hk]; exact .ptr k off (hD k hk)
  | ptrS k off hk => rw [← hg k hk]; exact .ptrS k off (hD k hk)
  | sl k off len cap hk => rw [← hg k hk]; exact .sl k off len cap (hD k hk)
  | own k hk hh => rw [← hg k hk] at hh ⊢; exact .own k (hD k hk) hh
  | mp k hk => rw [← hg k hk]; exact .mp k (hD k hk)
  | gp k sz i off hk => rw [← hg k hk]; exact .gp k sz i off (hD k hk)
  | fn f a b va vb ha hb h1 h2 ih1 ih2 => exact .fn f a b va vb ha hb (fun j x v e1 e2 => ih1 j x v e1 e2) (fun j x v e1 e2 => ih2 j x v e1 e2)
  | agg cs vs hn h hc ih => exact .agg cs vs hn (fun j a v e1 e2 => ih j a v e1 e2) hc
  | tup cs vs hn h ih => exact .tup cs vs hn (fun j a v e1 e2 => ih j a v e1 e2)
theorem Blk.mono {w w' : World} {b t : Nat} {R R' : Array Value → Prop} (h : Blk w b t R) (hb : w'.heap[b]? = w.heap[b]?) (hR : ∀ c, R c → R' c) : Blk w' b t R' := by
  obtain ⟨c, fr, h1, h2, h3, h4⟩ := h
  exact ⟨c, fr, hb.trans h1, h2, h3, hR c h4⟩
theorem MRel.mono {Pr Pr' : Nat → Prop} {w w' : World} {kk : IntKind} {l : List (Nat × Int × AV)} {m : List MapEntry} (h : MRel Pr w kk l m) (hP : ∀ b, Pr b → Pr' b) (hw : ∀ b, Pr b → w'.heap[b]? = w.heap[b]?) : MRel Pr' w' kk l m :=
  ⟨h.1, fun i b n a e h1 h2 => ⟨(h.2 i b n a e h1 h2).1, (h.2 i b n a e h1 h2).2.1, (h.2 i b n a e h1 h2).2.2.mono hP hw⟩⟩
/-- A block that nobody touched. -/
theorem ObjOK.mono {gs gs' : Nat → Gh} {D D' : Nat → Prop} {Pr Pr' : Nat → Prop} {w w' : World} (hD : ∀ k, D k → D' k) (hg : ∀ k, D k → gs' k = gs k) (hP : ∀ b, Pr b → Pr' b) (hw : ∀ b, Pr b → w'.heap[b]? = w.heap[b]?) {g : Gh} {o : AObj}
    (h : ObjOK gs D Pr w g o) (hb : live g o → w'.heap[g.blk]? = w.heap[g.blk]?) : ObjOK gs' D' Pr' w' g o := by
  cases o with
  | arr t cs => exact Blk.mono h (hb trivial) fun c ⟨h1, h2⟩ => ⟨h1, fun j a v e1 e2 => (h2 j a v e1 e2).mono hP hw⟩
  | cells t cs => exact Blk.mono h (hb trivial) fun c ⟨h1, h2⟩ => ⟨h1, fun j a v e1 e2 => (h2 j a v e1 e2).mono hD hg hP hw⟩
  | grow t sz xs =>
    obtain ⟨h0, h1, h2⟩ := h
    refine ⟨h0, h1, ?_⟩
    rcases h2 with h2 | ⟨cap, h2, h3, h4⟩
    · exact .inl h2
    · exact .inr ⟨cap, h2, h3, Blk.mono h4 (hb (by rw [show live g (.grow t sz xs) = (g.hd ≠ .slice none 0 0) from rfl, h2]; simp)) fun c ⟨h5, h6⟩ => ⟨h5, fun i row j a v e1 e2 e3 => (h6 i row j a v e1 e2 e3).mono hP hw⟩⟩
  | lent t sz xs =>
    obtain ⟨h0, h1, h2⟩ := h
    refine ⟨h0, h1, ?_⟩
    rcases h2 with h2 | ⟨cap, h2, h3, h4⟩
    · exact .inl h2
    · exact .inr ⟨cap, h2, h3, Blk.mono h4 (hb (by rw [show live g (.lent t sz xs) = (g.hd ≠ .slice none 0 0) from rfl, h2]; simp)) fun c ⟨h5, h6⟩ => ⟨h5, fun i row j a v e1 e2 e3 => (h6 i row j a v e1 e2 e3).mono hP hw⟩⟩
  | froz sz xs => exact Lf.mono hP hw h
  | map kk M =>
    obtain ⟨es, h1, h2⟩ := h
    exact ⟨es, (hb trivial).trans h1, h2.mono hP hw⟩
  | iter x c seen =>
    obtain ⟨b, h1, h2⟩ := h
    exact ⟨b, (hb trivial).trans h1, h2.mono hD hg hP hw⟩
  | dead => trivial
theorem Blk.lt {w : World} {b t : Nat} {R : Array Value → Prop} (h : Blk w b t R) : b < w.heap.size := by
  obtain ⟨c, fr, h1, _⟩ := h
  exact (Array.getElem?_eq_some_iff.1 h1).1
theorem ObjOK.lt {gs : Nat → Gh} {D : Nat → Prop} {Pr : Nat → Prop} {w : World} {g : Gh} {o : AObj} (h : ObjOK gs D Pr w g o) (hl : live g o) : g.blk < w.heap.size := by
  cases o with
  | arr t cs => exact Blk.lt h
  | cells t cs => exact Blk.lt h
  | grow t sz xs =>
    obtain ⟨_, _, h2⟩ := h
    rcases h2 with ⟨_, h2⟩ | ⟨cap, h2, h3, h4⟩
    · exact absurd h2 hl
    · exact h4.lt
  | lent t sz xs =>
    obtain ⟨_, _, h2⟩ := h
    rcases h2 with ⟨_, h2⟩ | ⟨cap, h2, h3, h4⟩
    · exact absurd h2 hl
    · exact h4.lt
  | froz sz xs => exact hl.elim
  | map kk M =>
    obtain ⟨es, h1, h2⟩ := h
    exact (Array.getElem?_eq_some_iff.1 h1).1
  | iter x c seen =>
    obtain ⟨b, h1, h2⟩ := h
    exact (Array.getElem?_eq_some_iff.1 h1).1
  | dead => exact hl.elim
def upd {α : Type} (f : Nat → α) (k : Nat) (x : α) : Nat → α := fun j => if j = k then x else f j
theorem upd_self {α : Type} (f : Nat → α) (k : Nat) (x : α) : upd f k x k = x := if_pos rfl
theorem upd_ne {α : Type} (f : Nat → α) {k j : Nat} (x : α) (h : j ≠ k) : upd f k x j = f j := if_neg h
section
variable {gs : Nat → Gh} {D Pr M : Nat → Prop} {h : Nat → AObj} {w w' : World}
/-- A new block under a new label. -/
theorem Rep.alloc (H : Rep gs D Pr M h w) {n : Nat} (hn : ¬ D n) (g : Gh) (o : AObj) (hb : live g o → g.blk = w.heap.size) (hM : M w.heap.size) (hold : ∀ b, b < w.heap.size → w'.heap[b]? = w.heap[b]?) (hsz : w.heap.size ≤ w'.heap.size)
    (ho : ObjOK (upd gs n g) (fun k => D k ∨ k = n) Pr w' g o) : Rep (upd gs n g) (fun k => D k ∨ k = n) Pr M (upd h n o) w' := by
  have hne : ∀ k, D k → k ≠ n := fun k hk e => hn (e ▸ hk)
  have hg : ∀ k, D k → upd gs n g k = gs k := fun k hk => upd_ne gs g (hne k hk)
  have hh : ∀ k, D k → upd h n o k = h k := fun k hk => upd_ne h o (hne k hk)
  refine ⟨fun k hk => ?_, fun i j hi hj li lj e => ?_, fun k hk lk => ?_, fun b hb => Nat.lt_of_lt_of_le (H.pr b hb) hsz, H.gl.mono (fun _ h => h) (fun b hb => hold b (H.pr b hb))⟩
  · rcases hk with hk | rfl
    · rw [hg k hk, hh k hk]
      exact (H.obj k hk).mono (fun k hk => .inl hk) (fun k hk => hg k hk) (fun _ h => h) (fun b hb => hold b (H.pr b hb)) (fun hl => hold _ ((H.obj k hk).lt hl))
    · rw [upd_self, upd_self]; exact ho
  · rcases hi with hi | rfl <;> rcases hj with hj | rfl
    · rw [hg i hi, hh i hi] at li; rw [hg j hj, hh j hj] at lj; rw [hg i hi, hg j hj] at e
      exact H.inj i j hi hj li lj e
    · rw [hg i hi, hh i hi] at li; rw [upd_self, upd_self] at lj; rw [hg i hi, upd_self] at e
      have := (H.obj i hi).lt li
      have := hb lj
      omega
    · rw [hg j hj, hh j hj] at lj; rw [upd_self, upd_self] at li; rw [hg j hj, upd_self] at e
      have := (H.obj j hj).lt lj
      have := hb li
      omega
    · rfl
  · rcases hk with hk | rfl
    · rw [hg k hk, hh k hk] at lk; rw [hg k hk]; exact H.mine k hk lk
    · rw [upd_self, upd_self] at lk; rw [upd_self, hb lk]
      exact ⟨hM, fun hp => by have := H.pr _ hp; omega⟩
/-- A label's block is written. -/
theorem Rep.set (H : Rep gs D Pr M h w) {k : Nat} (hk : D k) (hl : live (gs k) (h k)) (o : AObj) (hl' : live (gs k) o → True) (hold : ∀ b, b ≠ (gs k).blk → w'.heap[b]? = w.heap[b]?) (hsz : w'.heap.size = w.heap.size)
    (ho : ObjOK gs D Pr w' (gs k) o) : Rep gs D Pr M (upd h k o) w' := by
  have hP : ∀ b, Pr b → w'.heap[b]? = w.heap[b]? := fun b hb => hold b fun e => (H.mine k hk hl).2 (e ▸ hb)
  have hlv : ∀ j, D j → live (gs j) (upd h k o j) → live (gs j) (h j) := fun j hj l => by
    by_cases e : j = k
    · subst e; exact hl
    · rwa [upd_ne h o e] at l
  refine ⟨fun j hj => ?_, fun i j hi hj li lj e => H.inj i j hi hj (hlv i hi li) (hlv j hj lj) e, fun j hj lj => H.mine j hj (hlv j hj lj), fun b hb => by rw [hsz]; exact H.pr b hb, H.gl.mono (fun _ h => h) hP⟩
  by_cases e : j = k
  · subst e; rw [upd_self]; exact ho
  · rw [upd_ne h o e]
    exact (H.obj j hj).mono (fun _ h => h) (fun _ _ => rfl) (fun _ h => h) hP (fun l => hold _ fun e' => e (H.inj j k hj hk l hl e'))
/-- Less is known. -/
theorem Rep.less (H : Rep gs D Pr M h w) {h' : Nat → AObj} (hl : ∀ k, D k → live (gs k) (h' k) → live (gs k) (h k)) (ho : ∀ k, D k → ObjOK gs D Pr w (gs k) (h k) → ObjOK gs D Pr w (gs k) (h' k)) : Rep gs D Pr M h' w :=
  ⟨fun k hk => ho k hk (H.obj k hk), fun i j hi hj li lj e => H.inj i j hi hj (hl i hi li) (hl j hj lj) e, fun k hk lk => H.mine k hk (hl k hk lk), H.pr, H.gl⟩
/-- Nothing but draws. -/
theorem Rep.same (H : Rep gs D Pr M h w) (hh : w'.heap = w.heap) : Rep gs D Pr M h w' :=
  ⟨fun k hk => (H.obj k hk).mono (fun _ h => h) (fun _ _ => rfl) (fun _ h => h) (fun b _ => by rw [hh]) (fun _ => by rw [hh]), H.inj, H.mine, fun b hb => by rw [hh]; exact H.pr b hb, H.gl.mono (fun _ h => h) (fun b _ => by rw [hh])⟩
end
end Go.Proofs.YtlnafekmiidpkaaDoor.S
