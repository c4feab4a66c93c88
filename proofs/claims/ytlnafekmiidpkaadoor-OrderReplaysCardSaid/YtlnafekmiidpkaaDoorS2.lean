/- From the model's code to the one that is evaluated: types are looked up once. -/
import Derived.Test.YtlnafekmiidpkaaDoorS1
import Derived.Test.YtlnafekmiidpkaaDoorKs
namespace Go.Proofs.YtlnafekmiidpkaaDoor.S
set_option linter.all false
set_option linter.unusedVariables false
def orNo {α : Type} (b : Bool) (x : Option α) : Option α := match b with
  | true => x
  | false => none
/-- a constant -/
def ofV : Value → AV
  | .int k n => .int k n
  | .bool true => .tt
  | .bool false => .ff
  | .string s => .str s
  | .pointer none => .nilp
  | .slice none 0 0 => .nils
  | .map none => .nilm
  | .nilFunc => .nilf
  | _ => .any
def ofC : Value → AV
  | .agg cs => match cs.toList.all (·.oneCell') with
    | true => .agg (cs.toList.map ofV)
    | false => .any
  | .func (.func f) a b => match Nat.beq (a.size + b.size) 0 with
    | true => .fn f [] []
    | false => .any
  | v => ofV v
/-- A type whose cells have no addresses. -/
def flatT (P : Program) : Nat → TypeId → Bool
  | 0, _ => false
  | d + 1, t => match P.underlying t with
    | some (.int _) | some .bool | some .string => true
    | some (.array _ e) => flatT P d e
    | some (.struct fs) => fs.all fun f => flatT P d f.type
    | _ => false
def aggT (P : Program) (t : TypeId) : Option Bool := match P.underlying t with
  | some (.struct _) | some (.array _ _) => some true
  | some _ => some false
  | none => none
def szT (P : Program) (t : TypeId) : Option Nat := (P.info? t).map (·.size)
def shGo (P : Program) (g : TypeId → Option (List Sh)) : Nat → List Field → Option (List Sh)
  | _, [] => some []
  | off, f :: fs => match g f.type with
    | some s => match shGo P g (off + s.length) fs with
      | some r => orNo (f.name != "_" && f.offset == off && szT P f.type == some s.length) (some (s ++ r))
      | none => none
    | none => none
/-- The cells of a type whose values are compared cell by cell. -/
def shapeT (P : Program) : Nat → TypeId → Option (List Sh)
  | 0, _ => none
  | d + 1, t => match P.underlying t with
    | some (.int _) => some [.i]
    | some .bool => some [.b]
    | some .string => some [.s]
    | some (.array n e) => match shapeT P d e with
      | some s => orNo (szT P e == some s.length) (some (List.replicate n s).flatten)
      | none => none
    | some (.struct fs) => orNo (!P.stoodInHeld t) (shGo P (shapeT P d) 0 fs.toList)
    | _ => none
def zeroT (P : Program) (t : TypeId) : Option (List AV) := match ((P.info? t).bind (·.zero)) with
  | some z => orNo (z.cells.toList.all (·.oneCell')) (some ((z.cells.toList).map ofV))
  | none => none
/-- What a package-level variable holds that the rows list. -/
def gtab : Nat → Option (List AV) := fun g => match g with
  | 0 => some [.int .u8 0, .int .u8 1, .int .u8 56, .int .u8 2, .int .u8 57, .int .u8 49, .int .u8 28, .int .u8 3, .int .u8 61, .int .u8 58, .int .u8 42, .int .u8 50, .int .u8 38, .int .u8 29, .int .u8 17, .int .u8 4, .int .u8 62, .int .u8 47, .int .u8 59, .int .u8 36, .int .u8 45, .int .u8 43, .int .u8 51, .int .u8 22, .int .u8 53, .int .u8 39, .int .u8 33, .int .u8 30, .int .u8 24, .int .u8 18, .int .u8 12, .int .u8 5, .int .u8 63, .int .u8 55, .int .u8 48, .int .u8 27, .int .u8 60, .int .u8 41, .int .u8 37, .int .u8 16, .int .u8 46, .int .u8 35, .int .u8 44, .int .u8 21, .int .u8 52, .int .u8 32, .int .u8 23, .int .u8 11, .int .u8 54, .int .u8 26, .int .u8 40, .int .u8 15, .int .u8 34, .int .u8 20, .int .u8 31, .int .u8 10, .int .u8 25, .int .u8 14, .int .u8 19, .int .u8 9, .int .u8 13, .int .u8 8, .int .u8 7, .int .u8 6]
  | _ => none
def cOpd : Operand → Option Opd
  | .tmp t => some (.t t)
  | .const v => some (.c (ofC v))
  | .func f => some (.c (.fn f [] []))
  | .global g => match gtab g with
    | some c => some (.c (.rp c 0))
    | none => none
def cOpds (l : List Operand) : Option (List Opd) := l.mapM cOpd
/-- A type's zero. -/
def zeroV (P : Program) (t : TypeId) : Option AV := match ((P.info? t).bind (·.zero)) with
  | some (.agg cs) => orNo (cs.toList.all (·.oneCell')) (match allVal (cs.toList.map ofV) with
    | true => some (.arr (cs.toList.map ofV))
    | false => some (.agg (cs.toList.map ofV)))
  | some v => some (ofV v)
  | none => none
def cOpdO : Option Operand → Option (Option Opd)
  | none => some none
  | some x => (cOpd x).map some
def cPart (P : Program) (fs : Array Field) (p : Nat × Operand) : Option (Nat × Nat × Opd) := match fs[p.1]? with
  | some f => match szT P f.type, cOpd p.2 with
    | some n, some x => some (f.offset, n, x)
    | _, _ => none
  | none => none
def cPartA (n : Nat) (p : Nat × Operand) : Option (Nat × Nat × Opd) := match cOpd p.2 with
  | some x => some (p.1 * n, n, x)
  | none => none
def cOp (P : Program) : Op → Option AOp
  | .move x | .assign x => (cOpd x).map .mov
  | .pick c a b => do pure (.pick (← cOpd c) (← cOpd a) (← cOpd b))
  | .alloc t => do
    let n ← szT P t; let z ← zeroV P t
    orNo (Nat.blt 0 n) (some (.box t n (flatT P 12 t) (.c z)))
  | .box t x => do
    let n ← szT P t
    let x ← cOpd x
    orNo (Nat.blt 0 n) (some (.box t n (flatT P 12 t) x))
  | .build t ps => do
    let z ← zeroT P t
    match P.underlying t with
    | some (.struct fs) => do
      let l ← ps.toList.mapM (cPart P fs)
      orNo ((fs.toList.mapM fun f => (P.info? f.type).map fun i => (f.offset, i.size)).isSome && (!flatT P 12 t || allVal z)) (some (.build (flatT P 12 t) z l))
    | some (.array _ e) => do
      let n ← szT P e
      let l ← ps.toList.mapM (cPartA n)
      orNo (!flatT P 12 t || allVal z) (some (.build (flatT P 12 t) z l))
    | _ => none
  | .buildSlice t len ps => do
    let some (.slice e) := P.underlying t | none
    let n ← szT P e; let z ← zeroT P e
    let l ← cOpds (ps.toList.map (·.2))
    match P.underlying e with
    | some (.pointer _) => orNo (Nat.beq n 1 && ps.toList.map (·.1) == List.range len && Nat.ble (len * n) 16777216 && z.length == n) (some (.mkSlP e l))
    | _ => orNo (Nat.blt 0 n && ps.toList.map (·.1) == List.range len && Nat.ble (len * n) 16777216 && z.length == n) (some (.mkSl e n l))
  | .load t x => do pure (.ld (← szT P t) (← aggT P t) (flatT P 12 t) (← cOpd x))
  | .store t x v => do pure (.st (← szT P t) (← cOpd x) (← cOpd v))
  | .nilCheck x => do pure (.nilchk (← cOpd x))
  | .binOp op t x y _ =>
    match P.underlying t with
    | some (.struct _) | some (.array _ _) =>
      match shapeT P 12 t with
      | some sh => orNo (!P.eqGuardType P.depth t) (match op with
        | .eql => (do pure (.eqa false sh (← cOpd x) (← cOpd y)))
        | .neq => (do pure (.eqa true sh (← cOpd x) (← cOpd y)))
        | _ => none)
      | none => none
    | some (.int _) | some .string => do pure (.bin op (← cOpd x) (← cOpd y))
    | some .bool => do pure (.eq1 .b op (← cOpd x) (← cOpd y))
    | some (.pointer _) => do pure (.eq1 .p op (← cOpd x) (← cOpd y))
    | some (.map _ _) => do pure (.eq1 .m op (← cOpd x) (← cOpd y))
    | some (.func _ _ _) => do pure (.eq1 .f op (← cOpd x) (← cOpd y))
    | some (.slice _) => do pure (.eq1 .s op (← cOpd x) (← cOpd y))
    | _ => none
  | .unOp op _ x => do pure (.un op (← cOpd x))
  | .convert s d x => do
    match P.underlying s, P.underlying d with
    | some (.int _), some (.int k) => pure (.cvI k (← cOpd x))
    | some .string, some .string => pure (.cvId (← cOpd x))
    | some (.slice e), some .string => match P.underlying e with
      | some (.int .u8) => pure (.cvBS (← cOpd x))
      | _ => none
    | some .string, some (.slice e) => match P.underlying e with
      | some (.int .u8) => pure (.cvSB e (← cOpd x))
      | _ => none
    | some (.slice e), some (.slice _) => orNo (s == d) (match P.underlying e with
      | some (.int .u8) => (do pure (.cvMk (← cOpd x)))
      | _ => none)
    | _, _ => none
  | .makeFunc (.func f) first caps => do pure (.mkF f (← cOpds first.toList) (← cOpds caps.toList))
  | .makeSlice t l c => do
    let some (.slice e) := P.underlying t | none
    let i ← P.info? e; let z ← zeroT P e; let l ← cOpd l; let c ← cOpd c
    match l with
    | .c (.int .i64 0) => orNo (Nat.blt 0 i.size && z.length == i.size) (some (.make0 e i.size i.bytes c))
    | _ => orNo (Nat.blt 0 i.size && allVal z && z.length == i.size) (some (.make e i.size i.bytes z l c))
  | .slice t x lo hi none => do
    let x ← cOpd x; let lo ← cOpdO lo; let hi ← cOpdO hi
    match P.underlying t with
    | some .string => pure (.slS x lo hi)
    | some (.slice e) => pure (.slSl (← szT P e) x lo hi)
    | some (.array n e) => pure (.slAr n (← szT P e) x lo hi)
    | _ => none
  | .fieldAddr s x f => do
    let some (.struct fs) := P.underlying s | none
    let f ← fs[f]?
    let x ← cOpd x; let n ← szT P f.type
    orNo (Nat.blt 0 n) (some (.fad f.offset x))
  | .field s x f => do
    let some (.struct fs) := P.underlying s | none
    let f ← fs[f]?
    pure (.fld f.offset (← szT P f.type) (← aggT P f.type) (flatT P 12 f.type) (← cOpd x))
  | .indexAddr t x i => do
    let x ← cOpd x; let i ← cOpd i
    match P.underlying t with
    | some (.array n e) => do
      let s ← szT P e
      match i with
      | .c (.int _ m) => orNo (decide (0 ≤ m) && decide (m < n)) (some (.fad (m.toNat * s) x))
      | _ => pure (.ixA n s x i)
    | some (.slice e) => pure (.ixS (← szT P e) x i)
    | _ => none
  | .index t x i => do
    let x ← cOpd x; let i ← cOpd i
    match P.underlying t with
    | some (.array n e) => do
      let s ← szT P e; let a ← aggT P e
      match i with
      | .c (.int _ m) => orNo (decide (0 ≤ m) && decide (m < n)) (some (.fld (m.toNat * s) s a (flatT P 12 e) x))
      | _ => pure (.ixV n s a (flatT P 12 e) x i)
    | some .string => pure (.ixStr x i)
    | _ => none
  | .extract x i => do pure (.ext (← cOpd x) i)
  | .makeMap t none => match P.underlying t with
    | some (.map k _) => match P.underlying k with
      | some (.int kk) => some (.mkMap kk)
      | _ => none
    | _ => none
  | .lookup t x i ok => match P.underlying t with
    | some (.map k e) => match P.underlying k with
      | some (.int kk) => do pure (.lkup kk (← zeroV P e) ok (← cOpd x) (← cOpd i))
      | _ => none
    | _ => none
  | .mapUpdate t x i v | .insert t x i v => match P.underlying t with
    | some (.map k _) => match P.underlying k with
      | some (.int kk) => do pure (.mset kk (← cOpd x) (← cOpd i) (← cOpd v))
      | _ => none
    | _ => none
  | .mapEntry t x i => match P.underlying t with
    | some (.map k e) => match P.underlying k with
      | some (.int kk) => do pure (.ment kk (← zeroV P e) (← cOpd x) (← cOpd i))
      | _ => none
    | _ => none
  | .entryStore _ x s v => do pure (.mstore (← cOpd x) (← cOpd s) (← cOpd v))
  | .range t x => match P.underlying t with
    | some (.map _ _) => do pure (.mrange (← cOpd x))
    | _ => none
  | .next x false => do pure (.mnext (← cOpd x))
  | .entry x => do pure (.mentry (← cOpd x))
  | .makeInterface _ _ | .panic _ => some .die
  | .call { callee := .builtin b, args := as, argTypes := ts } => do
    let l ← cOpds as.toList
    let t0 ← ts[0]?
    match b, l with
    | .len, [x] => match P.underlying t0 with
      | some .string => pure (.lenS x)
      | some (.slice _) => pure (.lenB x)
      | some (.array n _) => pure (.lenC n)
      | some (.map _ _) => pure (.lenM x)
      | _ => none
    | .delete, [x, y] => match P.underlying t0 with
      | some (.map k _) => match P.underlying k with
        | some (.int kk) => orNo (ts.size == 2) (some (.mdel kk x y))
        | _ => none
      | _ => none
    | .cap, [x] => match P.underlying t0 with
      | some (.slice _) => pure (.capB x)
      | _ => none
    | .append, [x, y] => do
      let some (.slice e) := P.underlying t0 | none
      let t1 ← ts[1]?
      let i ← P.info? e; let z ← zeroT P e
      orNo (Nat.blt 0 i.size && Nat.blt 0 i.bytes && z.length == i.size) (match P.underlying t1 with
        | some (.slice _) => some (.app e i.size i.bytes x y)
        | some .string => orNo (i.size == 1) (some (.appS e i.bytes x y))
        | some (.int _) => orNo (allVal z && ts.size == 2) (some (.app0 e i.size i.bytes z x y))
        | _ => none)
    | .copy, [x, y] => do
      let some (.slice e) := P.underlying t0 | none
      let t1 ← ts[1]?; let s ← szT P e
      orNo (Nat.blt 0 s) (match P.underlying t1 with
        | some (.slice _) => some (.cpy s x y)
        | some .string => orNo (s == 1) (some (.cpyS x y))
        | _ => none)
    | .max, x :: l => pure (.mx x l)
    | .min, x :: l => pure (.mn x l)
    | _, _ => none
  | .call { callee := .value f, args := as, .. } => do
    let l ← cOpds as.toList
    match f with
    | .func f => pure (.call f l)
    | .tmp t => pure (.callv (.t t) l)
    | _ => none
  | _ => none
def cOper (P : Program) (ops : Array Oper) (o : Oper) : Option AOper := do
  let op ← cOp P o.op
  match o.guard with
  | none => pure ⟨o.dst, op, none⟩
  | some (j, b) => match (ops[j]?).bind (·.dst) with
    | some d => pure ⟨o.dst, op, some (d, b)⟩
    | none => none
def cOpers (P : Program) (ops : Array Oper) (l : List Oper) : Option (List AOper) := l.mapM (cOper P ops)
/-- Is a number in a list? -/
def memN : List Nat → Nat → Bool
  | [], _ => false
  | x :: l, k => match Nat.beq x k with
    | true => true
    | false => memN l k
def addN (x : Nat) (l : List Nat) : List Nat := match memN l x with
  | true => l
  | false => x :: l
def mrgN : List Nat → List Nat → List Nat
  | [], l => l
  | x :: m, l => addN x (mrgN m l)
def unisN : List Nat → List (List Nat) → List Nat
  | [], _ => []
  | j :: ns, acc => addN j (mrgN (acc.getD j []) (unisN ns acc))
/-- What each operation waits for, through others too. -/
def clsGo : List (List Nat) → List (List Nat) → List (List Nat)
  | acc, [] => acc
  | acc, ns :: nd => clsGo (acc ++ [unisN ns acc]) nd
/-- Each operation of a region waits for earlier ones alone. -/
def needsLt (ops : Array Oper) : Bool := (List.range ops.size).all fun i => match ops[i]? with
  | some o => (K.needs o).all fun j => Nat.blt j i
  | none => false
def cCode (P : Program) : Code → Option ACode
  | .skip => some .skip
  | .ret => some .ret
  | .region _ ops draw => do
    let l ← cOpers P ops ops.toList
    match draw with
    | true => orNo (needsLt ops) (some (.dreg l (clsGo [] (ops.toList.map K.needs))))
    | false => pure (.reg l)
  | .seq a b => do pure (.seq (← cCode P a) (← cCode P b))
  | .cond c a b => do pure (.cond (← cOpd c) (← cCode P a) (← cCode P b))
  | .block id c => do pure (.block id (← cCode P c))
  | .loop c => do pure (.loop (← cCode P c))
  | .exit id => some (.exit id)
  | .scope c => do pure (.scope (← cCode P c))
  | .label l => some (.label l)
  | .goto l => some (.goto l)
  | _ => none
def cRes (P : Program) : ResultVar → Option ARes
  | .tmp t => some (.tmp t)
  | .cell a t => do pure (.cell a (← szT P t) (← aggT P t) (flatT P 12 t))
structure AFunc where
  code : ACode
  rs : List ARes
  ntmps : Nat
def cFunc (P : Program) (f : Func) : Option AFunc := do
  let c ← f.body
  pure ⟨← cCode P c, ← f.results.toList.mapM (cRes P), f.ntmps⟩
end Go.Proofs.YtlnafekmiidpkaaDoor.S
