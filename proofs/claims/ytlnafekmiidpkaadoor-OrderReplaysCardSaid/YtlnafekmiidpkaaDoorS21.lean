/- A region of open order: each operation by what it looks at, and by what it leaves. -/
import Derived.Test.YtlnafekmiidpkaaDoorS20
namespace Go.Proofs.YtlnafekmiidpkaaDoor.S
set_option linter.all false
set_option linter.unusedVariables false
set_option linter.unusedSimpArgs false
/-- What is told of one operation: its value; the elder objects that it may change, and what they are then; the new ones: which they are, what number they get, what they are; the elder ones that it only looks at. -/
structure OpD where
  v : AV
  wr : List (Nat × AObj)
  fr : List (Nat × Nat × AObj)
  rd : List Nat
def stA (n : Nat) : List (Nat × AV) → List AV
  | [] => anys n
  | (i, v) :: l => setL (stA n l) i v
def lkO : List (Nat × AObj) → Nat → Option AObj
  | [], _ => none
  | (j, o) :: l, k => match Nat.beq j k with
    | true => some o
    | false => lkO l k
def lkF : List (Nat × Nat × AObj) → Nat → Option (Nat × AObj)
  | [], _ => none
  | (j, s, o) :: l, k => match Nat.beq j k with
    | true => some (s, o)
    | false => lkF l k
def newO (d : OpD) (k : Nat) : Option AObj := match lkO d.wr k with
  | some o => some o
  | none => match lkF d.fr k with
    | some (_, o) => some o
    | none => none
def updD (d : OpD) (h : Nat → AObj) (k : Nat) : AObj := match newO d k with
  | some o => o
  | none => h k
/-- The objects, by what was done. -/
def objF (f : Nat → Bool) : Nat → List OpD → (Nat → AObj) → Nat → AObj
  | _, [], h => h
  | i, d :: R, h => objF f (i + 1) R (match f i with
    | true => updD d h
    | false => h)
/-- Who fills a slot, with what. -/
def wrt : Nat → List AOper → List OpD → Nat → Option (Nat × AV)
  | i, q :: l, d :: R, t => match q.dst with
    | some s => match Nat.beq s t with
      | true => some (i, d.v)
      | false => wrt (i + 1) l R t
    | none => wrt (i + 1) l R t
  | _, _, _, _ => none
def tmF (f : Nat → Bool) (l : List AOper) (R : List OpD) (tm : List AV) (t : Nat) : AV := match wrt 0 l R t with
  | some (j, v) => match f j with
    | true => v
    | false => getL tm t
  | none => getL tm t
/-- The slots of an operation's operands. -/
def opT : Opd → List Nat
  | .t s => [s]
  | .c _ => []
def optT : Option Opd → List Nat
  | some x => opT x
  | none => []
def opsT : List Opd → List Nat
  | [] => []
  | x :: l => opT x ++ opsT l
def ptsT : List (Nat × Nat × Opd) → List Nat
  | [] => []
  | (_, _, x) :: l => opT x ++ ptsT l
def usesT : AOp → List Nat
  | .mov x | .box _ _ _ x | .ld _ _ _ x | .nilchk x | .un _ x | .cvI _ x | .cvId x | .cvMk x | .cvBS x | .cvSB _ x | .fad _ x | .fld _ _ _ _ x | .ext x _ | .lenS x | .lenB x | .capB x | .make0 _ _ _ x => opT x
  | .pick x y z => opT x ++ (opT y ++ opT z)
  | .build _ _ l => ptsT l
  | .mkSl _ _ l => opsT l
  | .mkSlP _ l => opsT l
  | .st _ x y | .bin _ x y | .eq1 _ _ x y | .eqa _ _ x y | .make _ _ _ _ x y | .ixA _ _ x y | .ixS _ x y | .ixV _ _ _ _ x y | .ixStr x y | .app _ _ _ x y | .appS _ _ x y | .cpy _ x y | .cpyS x y | .app0 _ _ _ _ x y => opT x ++ opT y
  | .mkF _ a b => opsT a ++ opsT b
  | .slS x lo hi | .slSl _ x lo hi | .slAr _ _ x lo hi => opT x ++ (optT lo ++ optT hi)
  | .lenC _ | .mkMap _ => []
  | .lenM x | .mrange x | .mnext x | .mentry x => opT x
  | .lkup _ _ _ x i | .mdel _ x i => opT x ++ opT i
  | .ment _ _ x i => opT x ++ opT i
  | .mstore x i v => opT x ++ (opT i ++ opT v)
  | .mset _ x i v => opT x ++ (opT i ++ opT v)
  | .die => []
  | .mx x l | .mn x l => opT x ++ opsT l
  | .call _ l => opsT l
  | .callv x l => opT x ++ opsT l
def usesO (q : AOper) : List Nat := match q.g with
  | some (s, _) => s :: usesT q.op
  | none => usesT q.op
/-- What a slot holds when operation i comes up. -/
def preV (l : List AOper) (cl : List (List Nat)) (R : List OpD) (tm : List AV) (i : Nat) (c : List Nat) (t : Nat) : AV := match wrt 0 l R t with
  | none => getL tm t
  | some (j, v) => match memN c j with
    | true => v
    | false => match memN (cl.getD j []) i with
      | true => getL tm t
      | false => .any
def setTs (f : Nat → AV) : List Nat → List AV → List AV
  | [], tm => tm
  | t :: ts, tm => setL (setTs f ts tm) t (f t)
def preT (l : List AOper) (cl : List (List Nat)) (R : List OpD) (tm : List AV) (i : Nat) (c : List Nat) (q : AOper) : List AV := setTs (preV l cl R tm i c) (usesO q) (anys (lenA tm))
def deads : Nat → List AObj
  | 0 => []
  | n + 1 => .dead :: deads n
def setHs (h : Nat → AObj) : List Nat → List AObj → List AObj
  | [], hs => hs
  | k :: ks, hs => setO (setHs h ks hs) k (h k)
def keysO : List (Nat × AObj) → List Nat
  | [] => []
  | (k, _) :: l => k :: keysO l
def keysF : List (Nat × Nat × AObj) → List Nat
  | [] => []
  | (k, _, _) :: l => k :: keysF l
def srcsF : List (Nat × Nat × AObj) → List Nat
  | [] => []
  | (_, s, _) :: l => s :: srcsF l
/-- The objects that an operation may look at, when it comes up. -/
def preO (R : List OpD) (hs : List AObj) (n : Nat) (c : List Nat) (d : OpD) : List AObj := setHs (objF (memN c) 0 R (getO hs)) (d.rd ++ keysO d.wr) (deads n)
/-- The new labels that are there when an operation comes up. -/
def visN (R : List OpD) : List Nat → List Nat
  | [] => []
  | j :: c => (match R[j]? with
    | some d => keysF d.fr
    | none => []) ++ visN R c
def isGrowB : AObj → Bool
  | .grow .. => true
  | _ => false
def sigF : List (Nat × Nat × AObj) → Nat → Option Nat
  | [], _ => none
  | (k, s, _) :: l, x => match Nat.beq s x with
    | true => some k
    | false => sigF l x
/-- What labels are called behind an operation. -/
def sig (n0 n : Nat) (vis : List Nat) (H : List AObj) (d : OpD) (s : Nat) : Option Nat := match sigF d.fr s with
  | some k => some k
  | none => match Nat.blt s n with
    | true => match isGrowB (getO H s) with
      | true => none
      | false => match Nat.blt s n0 with
        | true => some s
        | false => match memN vis s with
          | true => some s
          | false => none
    | false => none
def wrOK (σ : Nat → Option Nat) (H hs' : List AObj) : List (Nat × AObj) → Prop
  | [] => True
  | (k, o) :: l => (mtcO o (renO σ (getO hs' k)) ∧ isGrowB o = false ∧ (isGrowB (getO H k) = true → o = .dead)) ∧ wrOK σ H hs' l
def frOK (σ : Nat → Option Nat) (hs' : List AObj) : List (Nat × Nat × AObj) → Prop
  | [] => True
  | (_, s, o) :: l => mtcO o (renO σ (getO hs' s)) ∧ frOK σ hs' l
def rdOK (σ : Nat → Option Nat) (H hs' : List AObj) : List Nat → Prop
  | [] => True
  | k :: l => (mtcO (getO H k) (renO σ (getO hs' k)) ∧ isGrowB (getO H k) = false) ∧ rdOK σ H hs' l
def dstOK (σ : Nat → Option Nat) (tm' : List AV) (v : AV) : Option Nat → Prop
  | none => True
  | some t => mtc v (ren σ (getL tm' t))
def JR (σ : Nat → Option Nat) (H : List AObj) (d : OpD) (dst : Option Nat) (tm' : List AV) (hs' : List AObj) : Prop :=
  dstOK σ tm' d.v dst ∧ wrOK σ H hs' d.wr ∧ frOK σ hs' d.fr ∧ rdOK σ H hs' d.rd
def OpOK (P : Program) (rs : List ARes) (l0 : List AOper) (cl0 : List (List Nat)) (R0 : List OpD) (tm : List AV) (hs : List AObj) (n : Nat) (i : Nat) (q : AOper) (c : List Nat) (d : OpD) : Prop :=
  AW P rs [.ops [q], .again (JR (sig (lenO hs) n (visN R0 c) (preO R0 hs n c d) d) (preO R0 hs n c d) d q.dst)] (preT l0 cl0 R0 tm i c q) (preO R0 hs n c d) (fun _ _ => False)
def AllOps (P : Program) (rs : List ARes) (l0 : List AOper) (cl0 : List (List Nat)) (R0 : List OpD) (tm : List AV) (hs : List AObj) (n : Nat) : Nat → List AOper → List (List Nat) → List OpD → Prop
  | _, [], [], [] => True
  | i, q :: l, c :: cl, d :: R => OpOK P rs l0 cl0 R0 tm hs n i q c d ∧ AllOps P rs l0 cl0 R0 tm hs n (i + 1) l cl R
  | _, _, _, _ => False
/- what is looked at once: who changes what -/
def ordB (cl : List (List Nat)) (i j : Nat) : Bool := match Nat.blt j i with
  | true => memN (cl.getD i []) j
  | false => memN (cl.getD j []) i
def touchB (d : OpD) (k : Nat) : Bool := match newO d k with
  | some _ => true
  | none => false
/-- All that change label k stand in order with operation i. -/
def ordsB (cl : List (List Nat)) (R : List OpD) (i k : Nat) : Bool := (List.range R.length).all fun j => (j == i) || !((R[j]?).any fun d => touchB d k) || ordB cl i j
def labs (d : OpD) : List Nat := d.rd ++ keysO d.wr
def chk1 (cl : List (List Nat)) (R : List OpD) (n0 n i : Nat) (d : OpD) : Bool :=
  (labs d ++ keysF d.fr).all (fun k => ordsB cl R i k) && (labs d).all (fun k => Nat.blt k n0 || memN (visN R (cl.getD i [])) k) && (labs d).all (fun k => Nat.blt k n) &&
  (keysF d.fr).all (fun k => Nat.ble n0 k && Nat.blt k n) && (srcsF d.fr).all (fun s => Nat.ble n s) && decide (srcsF d.fr).Nodup
def dsts : List AOper → List Nat
  | [] => []
  | q :: l => match q.dst with
    | some t => t :: dsts l
    | none => dsts l
def frs (R : List OpD) : List Nat := R.flatMap fun d => keysF d.fr
def chkR (cl : List (List Nat)) (l : List AOper) (R : List OpD) (n0 n : Nat) : Bool :=
  decide (dsts l).Nodup && decide (frs R).Nodup && Nat.ble n0 n && (List.range R.length).all fun i => (R[i]?).all fun d => chk1 cl R n0 n i d
/- the state behind the region -/
def setDs : List AOper → List OpD → List AV → List AV
  | q :: l, d :: R, tm => putL (setDs l R tm) q.dst d.v
  | _, _, tm => tm
def setWr : List (Nat × AObj) → List AObj → List AObj
  | [], hs => hs
  | (k, o) :: l, hs => setO (setWr l hs) k o
def setFr : List (Nat × Nat × AObj) → List AObj → List AObj
  | [], hs => hs
  | (k, _, o) :: l, hs => setO (setFr l hs) k o
def endO : List OpD → List AObj → List AObj
  | [], hs => hs
  | d :: R, hs => endO R (setWr d.wr (setFr d.fr hs))
def catD : List AObj → List AObj → List AObj
  | [], m => m
  | x :: l, m => x :: catD l m
end Go.Proofs.YtlnafekmiidpkaaDoor.S
