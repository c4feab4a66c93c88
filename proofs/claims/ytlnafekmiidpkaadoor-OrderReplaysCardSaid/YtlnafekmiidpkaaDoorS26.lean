/- What is told of a region's quiet operations. -/
import Derived.Test.YtlnafekmiidpkaaDoorS25
namespace Go.Proofs.YtlnafekmiidpkaaDoor.S
set_option linter.all false
set_option linter.unusedVariables false
def vOf : Node → AV
  | .ret v _ => v
  | .need _ n => vOf n
  | .br _ n _ => vOf n
  | _ => .any
def autoV (q : AOper) (tm : List AV) (hs : List AObj) : AV := match q.dst with
  | some t => match q.g with
    | none => vOf (opN (fun tm' hs' => .ret (getL tm' t) []) q.dst q.op [] tm hs)
    | some (s, b) => match getL tm s with
      | .tt => match b with
        | true => vOf (opN (fun tm' hs' => .ret (getL tm' t) []) q.dst q.op [] tm hs)
        | false => .tup []
      | .ff => match b with
        | true => .tup []
        | false => vOf (opN (fun tm' hs' => .ret (getL tm' t) []) q.dst q.op [] tm hs)
      | .tup [] => .tup []
      | _ => .any
  | none => .any
def labV : AV → List Nat
  | .ptr k _ => [k]
  | .ptrS k _ => [k]
  | .sl k _ _ _ => [k]
  | _ => []
def autoR (q : AOper) (tm : List AV) : List Nat := match q.op with
  | .ld _ _ _ x => labV (ev tm x)
  | .cvBS x => labV (ev tm x)
  | _ => []
def lkD : List (Nat × OpD) → Nat → Option OpD
  | [], _ => none
  | (j, d) :: l, k => match Nat.beq j k with
    | true => some d
    | false => lkD l k
/-- What is told of all: what is given, else what the evaluation says. -/
def mkR (ov : List (Nat × OpD)) : Nat → List AOper → List AV → List AObj → List OpD
  | _, [], _, _ => []
  | i, q :: l, tm, hs => match lkD ov i with
    | some d => d :: mkR ov (i + 1) l (putL tm q.dst d.v) (setWr d.wr (setFr d.fr hs))
    | none => ⟨autoV q tm hs, [], [], autoR q tm⟩ :: mkR ov (i + 1) l (putL tm q.dst (autoV q tm hs)) hs
theorem aw_dregA {P : Program} {rs : List ARes} {l : List AOper} {cl : List (List Nat)} {todo : List AItem} {tm : List AV} {hs : List AObj} {post : AV → List AObj → Prop} (hm : P.follows .mixedOrders = true) (n : Nat) (ov : List (Nat × OpD)) (hchk : chkR cl l (mkR ov 0 l tm hs) (lenO hs) n = true)
    (hops : AllOps P rs l cl (mkR ov 0 l tm hs) tm hs n 0 l cl (mkR ov 0 l tm hs)) (hrest : AW P rs todo (setDs l (mkR ov 0 l tm hs) tm) (endO (mkR ov 0 l tm hs) (catD hs (deads (n - lenO hs)))) post) : ADreg P rs l cl todo tm hs post := aw_dreg hm n _ hchk hops hrest
/-- What is said at the end may be less. -/
def EndW (n : Nat) (spost : AV → List AObj → Prop) (r : AV) (hs : List AObj) : Prop := ∃ σ, okS n (lenO hs) σ = true ∧ ∃ r' hs', mtc r' (ren (endM n σ) r) ∧ mtcOs hs' (endH n σ hs) ∧ spost r' hs'
theorem Rfin.weak {E : Env} {spost : AV → List AObj → Prop} {e : Ending} {w : World} (h : Rfin E (fun r hs => ∃ r' hs', mtc r' r ∧ mtcOs hs' hs ∧ spost r' hs') e w) : Rfin E spost e w := by
  obtain ⟨v, r, hs, gs, Pr, rfl, ⟨r', hs', h1, h2, h3⟩, hz, hrep, hk, h4, h5, h6, h7, h8⟩ := h
  obtain ⟨hl, hg⟩ := mtcOs_get h2
  have hd : dom hs' = dom hs := by unfold dom; rw [hl]
  refine ⟨v, r', hs', gs, Pr, rfl, h3, by rw [hd]; exact mtc_ok h1 hz, ?_, hk, h4, h5, h6, by rw [hl]; exact h7, fun k hk' hgr => ?_⟩
  · rw [hd]
    exact hrep.less (fun k hk hlv => (mtcO_ok (hg k) (hrep.obj k hk)).2.1 hlv) (fun k hk ho => (mtcO_ok (hg k) ho).1)
  · exact h8 k hk' ((mtcO_ok (hg k) (hrep.obj k (by have : lenO E.hs0 ≤ lenO hs := h7; show k < lenO hs; omega))).2.2 hgr)
theorem acalls_weak {P : Program} {f : Nat} {args : List AV} {hs : List AObj} {p : AV → List AObj → Prop} (h : ACalls P f args hs (fun r hs => ∃ r' hs', mtc r' r ∧ mtcOs hs' hs ∧ p r' hs')) : ACalls P f args hs p :=
  ⟨h.1, fun gs Pr w vs h1 h2 => (h.2 gs Pr w vs h1 h2).mono fun e w' h => Rfin.weak h⟩
theorem aw_wk {P : Program} {rs : List ARes} {todo : List AItem} {tm tm2 : List AV} {hs hs2 : List AObj} {post : AV → List AObj → Prop} (h : Wk (lenO hs) tm hs tm2 hs2) (hA : AW P rs todo tm2 hs2 post) : AW P rs todo tm hs post := by
  intro fn hrs E mt hi gs Pr a w C
  exact hA fn hrs E mt hi gs Pr a w (h.conc C.len0 C)
theorem acall_wk {P : Program} {rs : List ARes} {f : Nat} {args args2 : List AV} {dst : Option Nat} {todo : List AItem} {tm tm2 : List AV} {hs hs2 : List AObj} {post : AV → List AObj → Prop} (h : Wk (lenO hs) tm hs tm2 hs2) (ha : mtcL args2 args)
    (hA : ACall P rs f args2 dst todo tm2 hs2 post) : ACall P rs f args dst todo tm hs post := by
  intro fn hrs E mt hi gs Pr a w C vs hvs
  have C2 := h.conc C.len0 C
  obtain ⟨hl, hg⟩ := mtcL_get ha
  have hd : lenO hs2 = lenO hs := by
    obtain ⟨h1, _, h3⟩ := h
    rw [(mtcOs_get h3).1, takeE_len _ _ _ h1]
  have hdd : dom hs2 = dom hs := by unfold dom; rw [hd]
  refine hA fn hrs E mt hi gs Pr a w C2 vs ⟨hvs.1.trans hl.symm, fun j x v e1 e2 => ?_⟩
  have hj : j < args2.length := (List.getElem?_eq_some_iff.1 e1).1
  have h3 := hg j
  rw [List.getD_eq_getElem?_getD, e1, List.getD_eq_getElem?_getD] at h3
  have hj' : j < args.length := by omega
  rw [List.getElem?_eq_getElem hj'] at h3
  rw [hdd]
  exact mtc_ok h3 (hvs.2 j _ v (List.getElem?_eq_getElem hj') e2)
theorem Conc.wkO {E : Env} {gs : Nat → Gh} {Pr : Nat → Prop} {tm : List AV} {hs hs2 : List AObj} {a : Act} {w : World} (h : mtcOs hs2 hs) (C : Conc E gs Pr tm hs a w) : Conc E gs Pr tm hs2 a w := by
  obtain ⟨hl, hg⟩ := mtcOs_get h
  have hd : dom hs2 = dom hs := by unfold dom; rw [hl]
  refine ⟨?_, C.size, fun i => by rw [hd]; exact C.tms i, C.dfs, C.kp, C.p0, C.pm, C.agree, by rw [hl]; exact C.len0, fun k hk hgr => ?_⟩
  · rw [hd]
    exact C.rep.less (fun k hk hlv => (mtcO_ok (hg k) (C.rep.obj k hk)).2.1 hlv) (fun k hk ho => (mtcO_ok (hg k) ho).1)
  · exact C.kind k hk ((mtcO_ok (hg k) (C.rep.obj k (by have := C.len0; show k < lenO hs; omega))).2.2 hgr)
theorem aw_obj {P : Program} {rs : List ARes} {todo : List AItem} {tm : List AV} {hs : List AObj} {post : AV → List AObj → Prop} (hs2 : List AObj) (h : mtcOs hs2 hs) (hA : AW P rs todo tm hs2 post) : AW P rs todo tm hs post :=
  fun fn hrs E mt hi gs Pr a w C => hA fn hrs E mt hi gs Pr a w (C.wkO h)
theorem acall_obj {P : Program} {rs : List ARes} {f : Nat} {args : List AV} {dst : Option Nat} {todo : List AItem} {tm : List AV} {hs : List AObj} {post : AV → List AObj → Prop} (hs2 : List AObj) (h : mtcOs hs2 hs) (hA : ACall P rs f args dst todo tm hs2 post) : ACall P rs f args dst todo tm hs post := by
  intro fn hrs E mt hi gs Pr a w C vs hvs
  have hd : dom hs2 = dom hs := by unfold dom; rw [(mtcOs_get h).1]
  exact hA fn hrs E mt hi gs Pr a w (C.wkO h) vs (by rw [hd]; exact hvs)
theorem acall_args {P : Program} {rs : List ARes} {f : Nat} {args : List AV} {dst : Option Nat} {todo : List AItem} {tm : List AV} {hs : List AObj} {post : AV → List AObj → Prop} (args2 : List AV) (ha : mtcL args2 args)
    (hA : ACall P rs f args2 dst todo tm hs post) : ACall P rs f args dst todo tm hs post := by
  intro fn hrs E mt hi gs Pr a w C vs hvs
  obtain ⟨hl, hg⟩ := mtcL_get ha
  refine hA fn hrs E mt hi gs Pr a w C vs ⟨hvs.1.trans hl.symm, fun j x v e1 e2 => ?_⟩
  have hj : j < args2.length := (List.getElem?_eq_some_iff.1 e1).1
  have h3 := hg j
  rw [List.getD_eq_getElem?_getD, e1, List.getD_eq_getElem?_getD] at h3
  have hj' : j < args.length := by omega
  rw [List.getElem?_eq_getElem hj'] at h3
  exact mtc_ok h3 (hvs.2 j _ v (List.getElem?_eq_getElem hj') e2)
/-- octets -/
def u8s (l : List Int) : List (List AV) := l.map fun n => [.int .u8 n]
theorem u8s_len (l : List Int) : (u8s l).length = l.length := by simp [u8s]
theorem u8s_take (l : List Int) (n : Nat) : (u8s l).take n = u8s (l.take n) := by simp [u8s, List.map_take]
theorem u8s_drop (l : List Int) (n : Nat) : (u8s l).drop n = u8s (l.drop n) := by simp [u8s, List.map_drop]
theorem u8s_app (l m : List Int) : u8s l ++ u8s m = u8s (l ++ m) := by simp [u8s]
theorem u8s_at (l : List Int) (i : Nat) : (u8s l)[i]? = (l[i]?).map fun n => [.int .u8 n] := by simp [u8s]
theorem wr64 {n : Int} (h1 : -9223372036854775808 ≤ n) (h2 : n < 9223372036854775808) : IntKind.i64.wrap n = n := IntWalk.i64_in _ ⟨h1, by omega⟩
end Go.Proofs.YtlnafekmiidpkaaDoor.S
