/- Operations that leave memory as it is. -/
import Derived.Test.YtlnafekmiidpkaaDoorS4
namespace Go.Proofs.YtlnafekmiidpkaaDoor.S
set_option linter.all false
set_option linter.unusedVariables false
set_option linter.unusedSimpArgs false
theorem wp_val {P : Program} {o : Oper} {a : Act} {w w' : World} {v : Value} {K : Act → World → Prop} {Q : Exit → Act → World → Prop} (h : (execOp a.eval o).run P w = .ok (.value v) w') (hk : K (a.put o.dst v) w') : o.wp P a w K Q := by
  unfold Oper.wp; rw [h]; exact hk
theorem wp_unit {P : Program} {o : Oper} {a : Act} {w w' : World} {K : Act → World → Prop} {Q : Exit → Act → World → Prop} (h : (execOp a.eval o).run P w = .ok .skip w') (hk : K (a.put o.dst undef) w') : o.wp P a w K Q := by
  unfold Oper.wp; rw [h]; exact hk
/-- The rest of the way, behind an operation. -/
def Next (P : Program) (rs : List ARes) (post : AV → List AObj → Prop) (E : Env) (NK : List AV → List AObj → Prop) (K : Act → World → Prop) : Prop :=
  ∀ tm hs, NK tm hs → ∀ gs Pr a w, Conc E gs Pr tm hs a w → K a w
section
variable {P : Program} {rs : List ARes} {post : AV → List AObj → Prop} {E : Env} {NK : List AV → List AObj → Node} {K : Act → World → Prop} {rest : List AItem} {Q : Exit → Act → World → Prop}
  {gs : Nat → Gh} {Pr : Nat → Prop} {tm : List AV} {hs : List AObj} {a : Act} {w : World} {d : Option Nat} {ty : TypeId} {pos : String} {af : Array Edge} {g : Option (Nat × Bool)} {op : AOp}
theorem run_un {t : TypeId} {e : TypeDesc} (h : P.underlying t = some e) (w : World) : (underlying t).run P w = .ok e w := run_underlying h w
theorem Conc.opds (C : Conc E gs Pr tm hs a w) : ∀ {l : List Operand} {m : List Opd}, l.mapM cOpd = some m → Czs gs (dom hs) Pr w (evs tm m) (l.map a.eval).toArray
  | [], m, h => by
    simp at h; subst h
    exact ⟨rfl, fun j a v h => by simp [evs] at h⟩
  | x :: l, m, h => by
    simp only [List.mapM_cons, Option.bind_eq_bind, Option.bind_eq_some_iff, Option.pure_def, Option.some.injEq] at h
    obtain ⟨y, h1, m, h2, rfl⟩ := h
    obtain ⟨h3, h4⟩ := C.opds h2
    have h0 := C.opd h1
    refine ⟨by simpa [evs] using h3, fun j a' v e1 e2 => ?_⟩
    cases j with
    | zero => simp [evs] at e1 e2; subst e1; subst e2; exact h0
    | succ j => exact h4 j a' v (by simpa [evs] using e1) (by simpa using e2)
variable (hK : Next P rs post E (fun tm hs => NodeOK P rs post (NK tm hs)) K) (hR : Next P rs post E (fun tm hs => AW P rs rest tm hs post) K) (C : Conc E gs Pr tm hs a w)
include hK C
theorem S_mov {x : Operand} (hc : (cOpd x).map AOp.mov = some op) (hN : NodeOK P rs post (opN NK d op rest tm hs)) : Oper.wp P ⟨d, .move x, ty, pos, af, g⟩ a w K Q ∧ Oper.wp P ⟨d, .assign x, ty, pos, af, g⟩ a w K Q := by
  simp only [Option.map_eq_some_iff] at hc
  obtain ⟨y, hy, rfl⟩ := hc
  simp only [opN] at hN
  have := hK _ _ hN _ _ _ _ (C.put d (C.opd hy))
  exact ⟨wp_val (by simp [execOp]) this, wp_val (by simp [execOp]) this⟩
theorem S_pick {c x y : Operand} (hc : cOp P (.pick c x y) = some op) (hN : NodeOK P rs post (opN NK d op rest tm hs)) : Oper.wp P ⟨d, .pick c x y, ty, pos, af, g⟩ a w K Q := by
  simp only [cOp, Option.bind_eq_bind, Option.bind_eq_some_iff, Option.pure_def, Option.some.injEq] at hc
  obtain ⟨c', hc, x', hx, y', hy, rfl⟩ := hc
  have h1 := C.opd hc
  have h2 := C.opd hx
  have h3 := C.opd hy
  simp only [opN] at hN
  have fin : ∀ (b : Bool) (z : AV), a.eval c = .bool b → Cz gs (dom hs) Pr w z (if b then a.eval x else a.eval y) → NodeOK P rs post (NK (putL tm d z) hs) → Oper.wp P ⟨d, .pick c x y, ty, pos, af, g⟩ a w K Q := by
    intro b z hb hz hN
    exact wp_val (by simp [execOp, hb, asBool]) (hK _ _ hN _ _ _ _ (C.put d hz))
  split at hN
  · rename_i e; rw [e] at h1; exact fin true _ h1.tt h2 hN
  · rename_i e; rw [e] at h1; exact fin false _ h1.ff h3 hN
  · rename_i c e
    rw [e] at h1
    split at hN
    · rename_i u v e1 e2
      rw [e1] at h2; rw [e2] at h3
      refine fin c _ h1.bool ?_ hN
      rw [h2.bool, h3.bool]
      cases c <;> exact .lf (.bool _)
    · rename_i u e1 e2
      rw [e1] at h2; rw [e2] at h3
      refine fin c _ h1.bool ?_ hN
      rw [h2.bool, h3.ff]
      cases c <;> exact .lf (.bool _)
    · rename_i u e1 e2
      rw [e1] at h2; rw [e2] at h3
      refine fin c _ h1.bool ?_ hN
      rw [h2.tt, h3.bool]
      cases c <;> exact .lf (.bool _)
    · obtain ⟨n1, n2⟩ := hN
      cases c with
      | true => exact fin true _ h1.bool h2 (n1 rfl)
      | false => exact fin false _ h1.bool h3 (n2 rfl)
  · exact hN.elim
omit hK C in
theorem kn_inj {j k : IntKind} (h : Nat.beq (kn j) (kn k) = true) : j = k := by
  have := Nat.eq_of_beq_eq_true h
  cases j <;> cases k <;> first | rfl | (simp [kn] at this)
omit hK C in
theorem sameK_ok {j k : IntKind} {n : Node} (h : NodeOK P rs post (sameK j k n)) : j = k ∧ NodeOK P rs post n := by
  unfold sameK at h
  split at h
  · rename_i e; exact ⟨kn_inj e, h⟩
  · exact h.elim
/-- How an operation on two operands runs. -/
theorem S_bin2 {o : BinOp} {t yt : TypeId} {x y : Operand} {u v : Value} {z : AV} {r : Value} (hx : a.eval x = u) (hy : a.eval y = v) (hg : (eqGuard o t x y u v).run P w = .ok () w) (hr : (binOp o t u v).run P w = .ok r w)
    (hz : Cz gs (dom hs) Pr w z r) (hN : NodeOK P rs post (NK (putL tm d z) hs)) : Oper.wp P ⟨d, .binOp o t x y yt, ty, pos, af, g⟩ a w K Q := by
  refine wp_val (v := r) (w' := w) ?_ (hK _ _ hN _ _ _ _ (C.put d hz))
  simp only [execOp, hx, hy, Sem.run_bind, hg, Result.andThen_ok, hr, Sem.run_pure]
omit hK C in
theorem guard_plain {o : BinOp} {t : TypeId} {x y : Operand} {u v : Value} (h : ∀ cs, u ≠ .agg cs) (h' : u ≠ .nilIface) : (eqGuard o t x y u v).run P w = .ok () w := by
  unfold eqGuard
  cases o <;> cases u <;> first | rfl | (exact absurd rfl (h _)) | (exact absurd rfl h') | (cases v <;> rfl)
theorem S_binI {o : BinOp} {t yt : TypeId} {x y : Operand} {k j : IntKind} {m n : Int} (hx : a.eval x = .int k m) (hy : a.eval y = .int j n)
    (hN : NodeOK P rs post (binI o k j m n fun v => NK (putL tm d v) hs)) : Oper.wp P ⟨d, .binOp o t x y yt, ty, pos, af, g⟩ a w K Q := by
  have hg : (eqGuard o t x y (.int k m) (.int j n)).run P w = .ok () w := guard_plain (by simp) (by simp)
  have fin : ∀ (z : AV) (r : Value), NodeOK P rs post (NK (putL tm d z) hs) → (binOp o t (.int k m) (.int j n)).run P w = .ok r w → Lf Pr w z r → Oper.wp P ⟨d, .binOp o t x y yt, ty, pos, af, g⟩ a w K Q :=
    fun z r hN hr hz => S_bin2 hK C hx hy hg hr (.lf hz) hN
  cases o <;> simp only [binI] at hN
  case shl =>
    obtain ⟨h0, hN⟩ := hN
    exact fin _ _ hN (by simp [binOp, Op.shift, Int.not_lt.2 h0]) (.int _ _)
  case shr =>
    obtain ⟨h0, hN⟩ := hN
    exact fin _ _ hN (by simp [binOp, Op.shift, Int.not_lt.2 h0]) (.int _ _)
  all_goals (obtain ⟨rfl, hM⟩ := sameK_ok hN)
  case quo => exact fin _ _ hM.2 (by simp [binOp, Op.intDiv, hM.1]) (.int _ _)
  case rem => exact fin _ _ hM.2 (by simp [binOp, Op.intDiv, hM.1]) (.int _ _)
  case add => exact fin _ _ hM (by simp [binOp, Op.intArith]) (.int _ _)
  case sub => exact fin _ _ hM (by simp [binOp, Op.intArith]) (.int _ _)
  case mul => exact fin _ _ hM (by simp [binOp, Op.intArith]) (.int _ _)
  case and => exact fin _ _ hM (by simp [binOp, Op.intBits]) (.int _ _)
  case or => exact fin _ _ hM (by simp [binOp, Op.intBits]) (.int _ _)
  case xor => exact fin _ _ hM (by simp [binOp, Op.intBits]) (.int _ _)
  case andNot => exact fin _ _ hM (by simp [binOp, Op.intBits]) (.int _ _)
  case eql => exact fin _ _ hM (by simp [binOp, Op.intCmp]) (.bool _)
  case neq => exact fin _ _ hM (by simp [binOp, Op.intCmp]) (.bool _)
  case lss => exact fin _ _ hM (by simp [binOp, Op.intCmp]) (.bool _)
  case leq => exact fin _ _ hM (by simp [binOp, Op.intCmp]) (.bool _)
  case gtr => exact fin _ _ hM (by simp [binOp, Op.intCmp]) (.bool _)
  case geq => exact fin _ _ hM (by simp [binOp, Op.intCmp]) (.bool _)
theorem S_binS {o : BinOp} {t yt : TypeId} {x y : Operand} {m n : ByteArray} (hx : a.eval x = .string m) (hy : a.eval y = .string n)
    (hN : NodeOK P rs post (binS o m n fun v => NK (putL tm d v) hs)) : Oper.wp P ⟨d, .binOp o t x y yt, ty, pos, af, g⟩ a w K Q := by
  have hg : (eqGuard o t x y (.string m) (.string n)).run P w = .ok () w := guard_plain (by simp) (by simp)
  have fin : ∀ (z : AV) (r : Value), NodeOK P rs post (NK (putL tm d z) hs) → (binOp o t (.string m) (.string n)).run P w = .ok r w → Lf Pr w z r → Oper.wp P ⟨d, .binOp o t x y yt, ty, pos, af, g⟩ a w K Q :=
    fun z r hN hr hz => S_bin2 hK C hx hy hg hr (.lf hz) hN
  cases o <;> simp only [binS] at hN
  case add =>
    obtain ⟨h0, hN⟩ := hN
    refine fin _ _ hN ?_ (.str _)
    have : ¬ ((m.size + n.size : Nat) : Int) > IntKind.i64.max := by
      rw [show IntKind.i64.max = 9223372036854775807 from rfl]; omega
    simp only [binOp, Op.stringOp, this, if_false, Sem.run_pure]
  case eql => exact fin _ _ hN (by simp [binOp, Op.stringOp]) (.bool _)
  case neq => exact fin _ _ hN (by simp [binOp, Op.stringOp]) (.bool _)
  case lss => exact fin _ _ hN (by simp [binOp, Op.stringOp]) (.bool _)
  case leq => exact fin _ _ hN (by simp [binOp, Op.stringOp]) (.bool _)
  case gtr => exact fin _ _ hN (by simp [binOp, Op.stringOp]) (.bool _)
  case geq => exact fin _ _ hN (by simp [binOp, Op.stringOp]) (.bool _)
  all_goals exact hN.elim
/-- '==' and '!=' of what can be told at once. -/
theorem S_eq {o : BinOp} {t yt : TypeId} {x y : Operand} {u v : Value} {b : Bool} (hx : a.eval x = u) (hy : a.eval y = v) (hg : (eqGuard o t x y u v).run P w = .ok () w) (he : (binOp .eql t u v).run P w = .ok (.bool b) w)
    (hne : (binOp .neq t u v).run P w = .ok (.bool !b) w) (hN : NodeOK P rs post (eqB o b fun v => NK (putL tm d v) hs)) : Oper.wp P ⟨d, .binOp o t x y yt, ty, pos, af, g⟩ a w K Q := by
  have hl : ∀ b, Lf Pr w (lit b) (.bool b) := fun b => by cases b <;> constructor
  cases o <;> simp only [eqB] at hN
  case eql => exact S_bin2 hK C hx hy hg he (.lf (hl b)) hN
  case neq => exact S_bin2 hK C hx hy hg hne (.lf (hl !b)) hN
  all_goals exact hN.elim
theorem S_eqB {o : BinOp} {t yt : TypeId} {x y : Operand} {u v : Value} {b c : Bool} (hx : a.eval x = u) (hy : a.eval y = v) (hg : (eqGuard o t x y u v).run P w = .ok () w) (he : (binOp .eql t u v).run P w = .ok (.bool (b == c)) w)
    (hne : (binOp .neq t u v).run P w = .ok (.bool !(b == c)) w) (hN : NodeOK P rs post (binB o b c fun v => NK (putL tm d v) hs)) : Oper.wp P ⟨d, .binOp o t x y yt, ty, pos, af, g⟩ a w K Q := by
  cases o <;> simp only [binB] at hN
  case eql => exact S_bin2 hK C hx hy hg he (.lf (.bool _)) hN
  case neq => exact S_bin2 hK C hx hy hg hne (.lf (.bool _)) hN
  all_goals exact hN.elim
omit hK C in
theorem eql_of {o : BinOp} {t : TypeId} {u v : Value} {b : Bool} (h1 : ∀ k n, u ≠ .int k n) (h2 : ∀ k n, u ≠ .float k n) (h3 : ∀ k n m, u ≠ .complex k n m) (h4 : ∀ s, u ≠ .string s) (he : (Op.equal t u v).run P w = .ok b w) :
    (binOp .eql t u v).run P w = .ok (.bool b) w ∧ (binOp .neq t u v).run P w = .ok (.bool !b) w := by
  cases u <;> first | (exact absurd rfl (h1 _ _)) | (exact absurd rfl (h2 _ _)) | (exact absurd rfl (h3 _ _ _)) | (exact absurd rfl (h4 _)) | (constructor <;> (simp only [binOp, Sem.run_bind, he, Result.andThen_ok, Sem.run_pure]))
omit hK C in
theorem equal_of {t : TypeId} {e : TypeDesc} {u v : Value} {b : Bool} (h : P.underlying t = some e) (hb : ∀ d, (Op.equalIn (d + 1) t u v).run P w = .ok b w) : (Op.equal t u v).run P w = .ok b w := hb 9999
theorem S_eq1b {o : BinOp} {t yt : TypeId} {x y : Operand} {u v : AV} (ht : P.underlying t = some .bool) (hx : Cz gs (dom hs) Pr w u (a.eval x)) (hy : Cz gs (dom hs) Pr w v (a.eval y))
    (hN : NodeOK P rs post (eq1 .b o u v fun v => NK (putL tm d v) hs)) : Oper.wp P ⟨d, .binOp o t x y yt, ty, pos, af, g⟩ a w K Q := by
  have hg : ∀ (b : Bool) v, (eqGuard o t x y (.bool b) v).run P w = .ok () w := fun b v => guard_plain (by simp) (by simp)
  have he : ∀ b c : Bool, (Op.equal t (.bool b) (.bool c)).run P w = .ok (b == c) w := fun b c => equal_of ht fun d => by
    simp only [Op.equalIn, Sem.run_bind, run_un ht, Result.andThen_ok, Sem.run_pure]
  have hq := fun b c => eql_of (P := P) (w := w) (o := o) (t := t) (u := .bool b) (v := .bool c) (by simp) (by simp) (by simp) (by simp) (he b c)
  simp only [eq1] at hN
  split at hN
  · exact S_eqB hK C hx.bool hy.bool (hg _ _) (hq _ _).1 (hq _ _).2 hN
  · exact S_eqB hK C hx.bool hy.tt (hg _ _) (hq _ _).1 (hq _ _).2 hN
  · exact S_eqB hK C hx.bool hy.ff (hg _ _) (hq _ _).1 (hq _ _).2 hN
  · exact S_eqB hK C hx.tt hy.bool (hg _ _) (hq _ _).1 (hq _ _).2 hN
  · exact S_eqB hK C hx.ff hy.bool (hg _ _) (hq _ _).1 (hq _ _).2 hN
  · exact S_eq hK C hx.tt hy.tt (hg _ _) (hq _ _).1 (hq _ _).2 hN
  · exact S_eq hK C hx.tt hy.ff (hg _ _) (hq _ _).1 (hq _ _).2 hN
  · exact S_eq hK C hx.ff hy.tt (hg _ _) (hq _ _).1 (hq _ _).2 hN
  · exact S_eq hK C hx.ff hy.ff (hg _ _) (hq _ _).1 (hq _ _).2 hN
  · exact hN.elim
theorem S_eq1p {o : BinOp} {t yt e : TypeId} {x y : Operand} {u v : AV} (ht : P.underlying t = some (.pointer e)) (hx : Cz gs (dom hs) Pr w u (a.eval x)) (hy : Cz gs (dom hs) Pr w v (a.eval y))
    (hN : NodeOK P rs post (eq1 .p o u v fun v => NK (putL tm d v) hs)) : Oper.wp P ⟨d, .binOp o t x y yt, ty, pos, af, g⟩ a w K Q := by
  have hg : ∀ b v, (eqGuard o t x y (.pointer b) v).run P w = .ok () w := fun b v => guard_plain (by simp) (by simp)
  have he : ∀ b c, b = none ∨ c = none → (Op.equal t (.pointer b) (.pointer c)).run P w = .ok (b.isNone && c.isNone) w := fun b c hbc => equal_of ht fun d => by
    rcases hbc with rfl | rfl
    · simp only [Op.equalIn, Sem.run_bind, run_un ht, Result.andThen_ok, Sem.run_pure, Option.isNone_none, Bool.true_and]
    · cases b <;> simp only [Op.equalIn, Sem.run_bind, run_un ht, Result.andThen_ok, Sem.run_pure, Option.isNone_none, Bool.true_and, Option.isNone_some, Bool.false_and]
  have hq := fun b c hbc => eql_of (P := P) (w := w) (o := o) (t := t) (u := .pointer b) (v := .pointer c) (by simp) (by simp) (by simp) (by simp) (he b c hbc)
  simp only [eq1] at hN
  split at hN
  · exact S_eq hK C hx.nilp hy.nilp (hg _ _) (hq _ _ (.inl rfl)).1 (hq _ _ (.inl rfl)).2 hN
  · exact S_eq hK C hx.nilp hy.ptr_.1 (hg _ _) (hq _ _ (.inl rfl)).1 (hq _ _ (.inl rfl)).2 hN
  · exact S_eq hK C hx.ptr_.1 hy.nilp (hg _ _) (hq _ _ (.inr rfl)).1 (hq _ _ (.inr rfl)).2 hN
  · exact hN.elim
theorem S_eq1m {o : BinOp} {t yt e e' : TypeId} {x y : Operand} {u v : AV} (ht : P.underlying t = some (.map e e')) (hx : Cz gs (dom hs) Pr w u (a.eval x)) (hy : Cz gs (dom hs) Pr w v (a.eval y))
    (hN : NodeOK P rs post (eq1 .m o u v fun v => NK (putL tm d v) hs)) : Oper.wp P ⟨d, .binOp o t x y yt, ty, pos, af, g⟩ a w K Q := by
  have hg : ∀ b v, (eqGuard o t x y (.map b) v).run P w = .ok () w := fun b v => guard_plain (by simp) (by simp)
  have he : ∀ b c : Option Nat, b = none ∨ c = none → (Op.equal t (.map b) (.map c)).run P w = .ok (b.isNone && c.isNone) w := fun b c hbc => equal_of ht fun d => by
    rcases hbc with rfl | rfl
    · simp only [Op.equalIn, Sem.run_bind, run_un ht, Result.andThen_ok, Sem.run_pure, Option.isNone_none, Bool.true_and]
    · cases b <;> simp only [Op.equalIn, Sem.run_bind, run_un ht, Result.andThen_ok, Sem.run_pure, Option.isNone_none, Bool.true_and, Option.isNone_some, Bool.false_and]
  have hq := fun b c hbc => eql_of (P := P) (w := w) (o := o) (t := t) (u := .map b) (v := .map c) (by simp) (by simp) (by simp) (by simp) (he b c hbc)
  simp only [eq1] at hN
  split at hN
  · exact S_eq hK C hx.nilm hy.nilm (hg _ _) (hq _ _ (.inl rfl)).1 (hq _ _ (.inl rfl)).2 hN
  · exact S_eq hK C hx.mp_.1 hy.nilm (hg _ _) (hq _ _ (.inr rfl)).1 (hq _ _ (.inr rfl)).2 hN
  · exact S_eq hK C hx.nilm hy.mp_.1 (hg _ _) (hq _ _ (.inl rfl)).1 (hq _ _ (.inl rfl)).2 hN
  · exact hN.elim
theorem S_eq1f {o : BinOp} {t yt : TypeId} {ps qs : Array TypeId} {vr : Bool} {x y : Operand} {u v : AV} (ht : P.underlying t = some (.func ps qs vr)) (hx : Cz gs (dom hs) Pr w u (a.eval x)) (hy : Cz gs (dom hs) Pr w v (a.eval y))
    (hN : NodeOK P rs post (eq1 .f o u v fun v => NK (putL tm d v) hs)) : Oper.wp P ⟨d, .binOp o t x y yt, ty, pos, af, g⟩ a w K Q := by
  have hg1 : ∀ f b c v, (eqGuard o t x y (.func f b c) v).run P w = .ok () w := fun f b c v => guard_plain (by simp) (by simp)
  have hg2 : ∀ v, (eqGuard o t x y .nilFunc v).run P w = .ok () w := fun v => guard_plain (by simp) (by simp)
  have e1 : (Op.equal t .nilFunc .nilFunc).run P w = .ok true w := equal_of ht fun d => by simp only [Op.equalIn, Sem.run_bind, run_un ht, Result.andThen_ok, Sem.run_pure]
  have e2 : ∀ f b c, (Op.equal t (.func f b c) .nilFunc).run P w = .ok false w := fun f b c => equal_of ht fun d => by simp only [Op.equalIn, Sem.run_bind, run_un ht, Result.andThen_ok, Sem.run_pure]
  have e3 : ∀ f b c, (Op.equal t .nilFunc (.func f b c)).run P w = .ok false w := fun f b c => equal_of ht fun d => by simp only [Op.equalIn, Sem.run_bind, run_un ht, Result.andThen_ok, Sem.run_pure]
  have q1 := eql_of (P := P) (w := w) (o := o) (t := t) (by simp) (by simp) (by simp) (by simp) e1
  have q2 := fun f b c => eql_of (P := P) (w := w) (o := o) (t := t) (by simp) (by simp) (by simp) (by simp) (e2 f b c)
  have q3 := fun f b c => eql_of (P := P) (w := w) (o := o) (t := t) (by simp) (by simp) (by simp) (by simp) (e3 f b c)
  simp only [eq1] at hN
  split at hN
  · exact S_eq hK C hx.nilf hy.nilf (hg2 _) q1.1 q1.2 hN
  · obtain ⟨va, vb, e, _⟩ := hx.fn_
    exact S_eq hK C e hy.nilf (hg1 _ _ _ _) (q2 _ _ _).1 (q2 _ _ _).2 hN
  · obtain ⟨va, vb, e, _⟩ := hy.fn_
    exact S_eq hK C hx.nilf e (hg2 _) (q3 _ _ _).1 (q3 _ _ _).2 hN
  · exact hN.elim
theorem S_eq1s {o : BinOp} {t yt e : TypeId} {x y : Operand} {u v : AV} (ht : P.underlying t = some (.slice e)) (hx : Cz gs (dom hs) Pr w u (a.eval x)) (hy : Cz gs (dom hs) Pr w v (a.eval y))
    (hN : NodeOK P rs post (eq1 .s o u v fun v => NK (putL tm d v) hs)) : Oper.wp P ⟨d, .binOp o t x y yt, ty, pos, af, g⟩ a w K Q := by
  have hg : ∀ A n c v, (eqGuard o t x y (.slice A n c) v).run P w = .ok () w := fun A n c v => guard_plain (by simp) (by simp)
  have he : ∀ (A : Option Addr) (n c : Nat), (Op.equal t (.slice A n c) (.slice none 0 0)).run P w = .ok A.isNone w := fun A n c => equal_of ht fun d => by
    cases A <;> simp only [Op.equalIn, Sem.run_bind, run_un ht, Result.andThen_ok, Sem.run_pure, Option.isNone_none, Bool.true_and, Option.isNone_some, Bool.false_and, Bool.and_true]
  have hq := fun A n c => eql_of (P := P) (w := w) (o := o) (t := t) (u := .slice A n c) (v := .slice none 0 0) (by simp) (by simp) (by simp) (by simp) (he A n c)
  have both : ∀ {A n c}, a.eval x = .slice A n c → a.eval y = .slice none 0 0 → (NodeOK P rs post (eqB o true fun v => NK (putL tm d v) hs)) → (NodeOK P rs post (eqB o false fun v => NK (putL tm d v) hs)) → Oper.wp P ⟨d, .binOp o t x y yt, ty, pos, af, g⟩ a w K Q := by
    intro A n c e1 e2 h1 h2
    cases A with
    | none => exact S_eq hK C e1 e2 (hg _ _ _ _) (hq _ _ _).1 (hq _ _ _).2 h1
    | some A => exact S_eq hK C e1 e2 (hg _ _ _ _) (hq _ _ _).1 (hq _ _ _).2 h2
  simp only [eq1] at hN
  split at hN
  · exact S_eq hK C hx.nils hy.nils (hg _ _ _ _) (hq _ _ _).1 (hq _ _ _).2 hN
  · exact S_eq hK C hx.sl_.1 hy.nils (hg _ _ _ _) (hq _ _ _).1 (hq _ _ _).2 hN
  · generalize hz : a.eval x = z at hx
    cases hx with
    | lf h => cases h
    | own k hk hh =>
      obtain ⟨A, n, c, e⟩ := hh
      exact both (hz.trans e) hy.nils hN.1 hN.2
  · have hL := hx.ro_
    generalize hz : a.eval x = z at hL
    cases hL with
    | ro0 sz A cap hA => exact both hz hy.nils (hN.1 rfl) hN.2
    | ro sz xs b o cap f hp hc hn hv hm => exact S_eq hK C hz hy.nils (hg _ _ _ _) (hq _ _ _).1 (hq _ _ _).2 hN.2
  · exact hN.elim
theorem S_un {o : UnOp} {t : TypeId} {x : Operand} (hc : cOp P (.unOp o t x) = some op) (hN : NodeOK P rs post (opN NK d op rest tm hs)) : Oper.wp P ⟨d, .unOp o t x, ty, pos, af, g⟩ a w K Q := by
  simp only [cOp, Option.bind_eq_bind, Option.bind_eq_some_iff, Option.pure_def, Option.some.injEq] at hc
  obtain ⟨y, hy, rfl⟩ := hc
  have h := C.opd hy
  simp only [opN, unI] at hN
  have fin : ∀ (z : AV) (r : Value), (Op.unary o (a.eval x)).run P w = .ok r w → Lf Pr w z r → NodeOK P rs post (NK (putL tm d z) hs) → Oper.wp P ⟨d, .unOp o t x, ty, pos, af, g⟩ a w K Q :=
    fun z r hr hz hN => wp_val (v := r) (w' := w) (by simp only [execOp, Sem.run_bind, hr, Result.andThen_ok, Sem.run_pure]) (hK _ _ hN _ _ _ _ (C.put d (.lf hz)))
  split at hN
  · rename_i e; rw [e] at h; exact fin _ _ (by rw [h.int]; simp [Op.unary, Op.intArith]) (.int _ _) hN
  · rename_i e; rw [e] at h; exact fin _ _ (by rw [h.int]; simp [Op.unary, Op.intBits]) (.int _ _) hN
  · rename_i e; rw [e] at h; exact fin _ _ (by rw [h.bool]; simp [Op.unary]) (.bool _) hN
  · rename_i e; rw [e] at h; exact fin _ (.bool false) (by rw [h.tt]; simp [Op.unary]) .ff hN
  · rename_i e; rw [e] at h; exact fin _ (.bool true) (by rw [h.ff]; simp [Op.unary]) .tt hN
  · exact hN.elim
theorem S_fn {f : Nat} {first caps : Array Operand} (hc : cOp P (.makeFunc (.func f) first caps) = some op) (hN : NodeOK P rs post (opN NK d op rest tm hs)) : Oper.wp P ⟨d, .makeFunc (.func f) first caps, ty, pos, af, g⟩ a w K Q := by
  simp only [cOp, cOpds, Option.bind_eq_bind, Option.bind_eq_some_iff, Option.pure_def, Option.some.injEq] at hc
  obtain ⟨l, hl, m, hm, rfl⟩ := hc
  obtain ⟨h1, h2⟩ := C.opds hl
  obtain ⟨h3, h4⟩ := C.opds hm
  simp only [opN] at hN
  have e1 : ∀ l : Array Operand, Array.map a.eval l = (l.toList.map a.eval).toArray := fun l => by
    apply Array.toList_inj.1; simp
  refine wp_val (v := .func (.func f) (first.toList.map a.eval).toArray (caps.toList.map a.eval).toArray) (w' := w) (by simp only [execOp, Instr.makeFunc, Sem.run_bind, Sem.run_pure, Result.andThen_ok, e1]) (hK _ _ hN _ _ _ _ (C.put d (.fn _ _ _ _ _ h1 h3 h2 h4)))
theorem S_ext {x : Operand} {i : Nat} (hc : cOp P (.extract x i) = some op) (hN : NodeOK P rs post (opN NK d op rest tm hs)) : Oper.wp P ⟨d, .extract x i, ty, pos, af, g⟩ a w K Q := by
  simp only [cOp, Option.bind_eq_bind, Option.bind_eq_some_iff, Option.pure_def, Option.some.injEq] at hc
  obtain ⟨y, hy, rfl⟩ := hc
  have h := C.opd hy
  simp only [opN] at hN
  split at hN
  · rename_i vs e
    rw [e] at h
    obtain ⟨us, e1, e2, e3⟩ := h.tup_
    obtain ⟨hlt, hN⟩ := hN
    have hu : us[i]? = some us[i] := Array.getElem?_eq_getElem (by rw [e2]; exact hlt)
    refine wp_val (v := us[i]'(by rw [e2]; exact hlt)) (w' := w) (by simp only [execOp, e1, Instr.extract, hu, Sem.run_bind, Sem.run_pure, Result.andThen_ok]) (hK _ _ hN _ _ _ _ (C.put d ?_))
    refine e3 i _ _ ?_ hu
    rw [getL_eq, List.getD_eq_getElem?_getD, List.getElem?_eq_getElem hlt]; rfl
  · exact hN.elim
theorem S_nilchk {x : Operand} (hc : cOp P (.nilCheck x) = some op) (hN : NodeOK P rs post (opN NK d op rest tm hs)) : Oper.wp P ⟨d, .nilCheck x, ty, pos, af, g⟩ a w K Q := by
  simp only [cOp, Option.bind_eq_bind, Option.bind_eq_some_iff, Option.pure_def, Option.some.injEq] at hc
  obtain ⟨y, hy, rfl⟩ := hc
  have h := C.opd hy
  simp only [opN] at hN
  have fin : ∀ (ad : Addr), a.eval x = .pointer (some ad) → NodeOK P rs post (NK (putL tm d (ev tm y)) hs) → Oper.wp P ⟨d, .nilCheck x, ty, pos, af, g⟩ a w K Q :=
    fun ad e hN => wp_val (v := a.eval x) (w' := w) (by simp only [execOp, e, Sem.run_pure]) (hK _ _ hN _ _ _ _ (C.put d h))
  split at hN
  · rename_i e; rw [← e] at hN; rw [e] at h; exact fin _ h.ptr_.1 hN
  · rename_i e; rw [← e] at hN; rw [e] at h; exact fin _ h.ptrS_.1 hN
  · rename_i e; rw [← e] at hN
    rw [e] at h
    cases hx : a.eval x <;> rw [hx] at h <;> first | (cases h with | lf h => cases h) | skip
    cases h with
    | rp _ _ b o hp h => exact fin _ hx hN
    | lf h => cases h
  · rename_i f u v e
    rw [← e] at hN
    obtain ⟨va, vb, e1, _⟩ := (show Cz gs (dom hs) Pr w (.fn f u v) (a.eval x) by rw [← e]; exact h).fn_
    exact wp_val (v := a.eval x) (w' := w) (by simp only [execOp, e1, Sem.run_pure]) (hK _ _ hN _ _ _ _ (C.put d h))
  · exact hN.elim
end
end Go.Proofs.YtlnafekmiidpkaaDoor.S
