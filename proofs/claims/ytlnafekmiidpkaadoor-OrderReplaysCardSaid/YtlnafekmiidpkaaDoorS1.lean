/- Abstract states and their evaluation: what a function's code does, as a function on lists (no memory). -/
import Derived.Tactics
import Derived.Orders
import Derived.Below
namespace Go.Proofs.YtlnafekmiidpkaaDoor.S
set_option linter.all false
set_option linter.unusedVariables false

/-- Abstract values. Labels (ptr, ptrS, sl, own, mp) name blocks of the state's own; ro, rp, arr have none. -/
inductive AV
  | any | int (k : IntKind) (n : Int) | bool (b : Bool) | tt | ff | str (s : ByteArray)
  | nilp | nils | nilm | nilf
  | ro (sz : Nat) (xs : List (List AV)) | rp (c : List AV) (off : Nat)
  | arr (cs : List AV)
  | ptr (k off : Nat) | ptrS (k off : Nat) | sl (k off len cap : Nat) | own (k : Nat) | mp (k : Nat) | gp (k sz i off : Nat)
  | fn (f : Nat) (first caps : List AV)
  | agg (cs : List AV) | tup (vs : List AV)

/-- A map's entries, each with its stamp; keys are whole numbers. -/
structure Mp where
  es : List (Nat × Int × AV)
  clock : Nat
  lt : ∀ e ∈ es, e.1 < clock
  nd : (es.map (·.1)).Nodup
  kd : (es.map (·.2.1)).Nodup
def Mp.emp : Mp := ⟨[], 0, fun e h => by simp at h, by simp, by simp⟩
def Mp.look (M : Mp) (n : Int) : Option AV := (M.es.find? fun e => e.2.1 == n).map (·.2.2)
theorem Mp.keys_put (l : List (Nat × Int × AV)) (n : Int) (v : AV) : (l.map fun e => if e.2.1 = n then (e.1, n, v) else e).map (·.2.1) = l.map (·.2.1) ∧ (l.map fun e => if e.2.1 = n then (e.1, n, v) else e).map (·.1) = l.map (·.1) := by
  constructor <;> rw [List.map_map] <;> refine List.map_congr_left fun e _ => ?_ <;> simp only [Function.comp] <;> split <;> simp_all
def Mp.put (M : Mp) (n : Int) (v : AV) : Mp := if h : n ∈ M.es.map (·.2.1) then
    ⟨M.es.map fun e => if e.2.1 = n then (e.1, n, v) else e, M.clock, fun e he => by
      obtain ⟨x, hx, rfl⟩ := List.mem_map.1 he
      split <;> exact M.lt x hx, by rw [(Mp.keys_put _ _ _).2]; exact M.nd, by rw [(Mp.keys_put _ _ _).1]; exact M.kd⟩
  else ⟨M.es ++ [(M.clock, n, v)], M.clock + 1, fun e he => by
      rcases List.mem_append.1 he with he | he
      · exact Nat.lt_succ_of_lt (M.lt e he)
      · simp at he; subst he; exact Nat.lt_succ_self _, by
      rw [List.map_append, List.nodup_append]
      refine ⟨M.nd, by simp, fun a ha b hb => ?_⟩
      simp at hb
      obtain ⟨x, hx, rfl⟩ := List.mem_map.1 ha
      have := M.lt x hx
      omega, by
      rw [List.map_append, List.nodup_append]
      refine ⟨M.kd, by simp, fun a ha b hb => ?_⟩
      simp at hb
      exact fun e => h (by rw [← hb, ← e]; exact ha)⟩
def Mp.del (M : Mp) (n : Int) : Mp := ⟨M.es.filter fun e => !(e.2.1 == n), M.clock, fun e he => M.lt e (List.mem_filter.1 he).1, List.Nodup.sublist ((List.filter_sublist).map _) M.nd, List.Nodup.sublist ((List.filter_sublist).map _) M.kd⟩
/-- The entry of a stamp gets another value. -/
def Mp.setB (M : Mp) (s : Int) (v : AV) : Mp := ⟨M.es.map fun e => if (e.1 : Int) = s then (e.1, e.2.1, v) else e, M.clock, fun e he => by
      obtain ⟨x, hx, rfl⟩ := List.mem_map.1 he
      split <;> exact M.lt x hx, by
      have : (M.es.map fun e => if (e.1 : Int) = s then (e.1, e.2.1, v) else e).map (·.1) = M.es.map (·.1) := by
        rw [List.map_map]; refine List.map_congr_left fun e _ => ?_; simp only [Function.comp]; split <;> rfl
      rw [this]; exact M.nd, by
      have : (M.es.map fun e => if (e.1 : Int) = s then (e.1, e.2.1, v) else e).map (·.2.1) = M.es.map (·.2.1) := by
        rw [List.map_map]; refine List.map_congr_left fun e _ => ?_; simp only [Function.comp]; split <;> rfl
      rw [this]; exact M.kd⟩
inductive AObj
  | map (kk : IntKind) (M : Mp)
  | lent (t sz : Nat) (xs : List (List AV))
  | iter (x : AV) (c : Nat) (seen : List Nat)
  | arr (t : Nat) (cs : List AV)
  | cells (t : Nat) (cs : List AV)
  | grow (t sz : Nat) (xs : List (List AV))
  | froz (sz : Nat) (xs : List (List AV))
  | dead

inductive Opd | t (n : Nat) | c (v : AV)

inductive Cls | b | p | m | f | s
/-- What a cell is that is compared. -/
inductive Sh | i | b | s
inductive AOp
  | mov (x : Opd)
  | pick (c a b : Opd)
  | box (t n : Nat) (flat : Bool) (x : Opd)
  | build (flat : Bool) (zero : List AV) (parts : List (Nat × Nat × Opd))
  | mkSl (t sz : Nat) (parts : List Opd)
  | mkSlP (t : Nat) (parts : List Opd)
  | ld (n : Nat) (agg flat : Bool) (x : Opd)
  | st (n : Nat) (x v : Opd)
  | nilchk (x : Opd)
  | bin (op : BinOp) (x y : Opd)
  | eq1 (c : Cls) (op : BinOp) (x y : Opd)
  | eqa (neg : Bool) (sh : List Sh) (x y : Opd)
  | un (op : UnOp) (x : Opd)
  | cvI (k : IntKind) (x : Opd)
  | cvId (x : Opd)
  | cvMk (x : Opd)
  | cvBS (x : Opd)
  | cvSB (t : Nat) (x : Opd)
  | mkF (f : Nat) (first caps : List Opd)
  | make (t sz bytes : Nat) (zero : List AV) (len cap : Opd)
  | make0 (t sz bytes : Nat) (cap : Opd)
  | slS (x : Opd) (lo hi : Option Opd)
  | slSl (sz : Nat) (x : Opd) (lo hi : Option Opd)
  | slAr (n sz : Nat) (x : Opd) (lo hi : Option Opd)
  | fad (off : Nat) (x : Opd)
  | fld (off n : Nat) (agg flat : Bool) (x : Opd)
  | ixA (n sz : Nat) (x i : Opd)
  | ixS (sz : Nat) (x i : Opd)
  | ixV (n sz : Nat) (agg flat : Bool) (x i : Opd)
  | ixStr (x i : Opd)
  | ext (x : Opd) (i : Nat)
  | lenS (x : Opd)
  | lenB (x : Opd)
  | lenC (n : Nat)
  | app (t sz bytes : Nat) (x y : Opd)
  | appS (t bytes : Nat) (x y : Opd)
  | cpy (sz : Nat) (x y : Opd)
  | cpyS (x y : Opd)
  | mx (x : Opd) (l : List Opd)
  | mn (x : Opd) (l : List Opd)
  | die
  | capB (x : Opd)
  | app0 (t sz bytes : Nat) (zero : List AV) (x n : Opd)
  | call (f : Nat) (args : List Opd)
  | callv (x : Opd) (args : List Opd)
  | mkMap (kk : IntKind)
  | lkup (kt : IntKind) (z : AV) (ok : Bool) (x i : Opd)
  | mset (kt : IntKind) (x i v : Opd)
  | mdel (kt : IntKind) (x i : Opd)
  | lenM (x : Opd)
  | mrange (x : Opd)
  | mnext (x : Opd)
  | mentry (x : Opd)
  | ment (kt : IntKind) (z : AV) (x i : Opd)
  | mstore (x s v : Opd)

structure AOper where
  dst : Option Nat
  op : AOp
  g : Option (Nat × Bool)

inductive ACode
  | skip | ret
  | reg (l : List AOper)
  | dreg (l : List AOper) (cl : List (List Nat))
  | seq (a b : ACode)
  | cond (c : Opd) (a b : ACode)
  | block (id : Nat) (c : ACode)
  | loop (c : ACode)
  | exit (id : Nat)
  | scope (c : ACode)
  | label (l : Nat)
  | goto (l : Nat)

inductive ARes | tmp (t : Nat) | cell (t n : Nat) (agg flat : Bool)

inductive AItem
  | code (c : ACode)
  | ops (l : List AOper)
  | block (id : Nat)
  | again (J : List AV → List AObj → Prop)
  | scope (m n : Nat) (c : ACode)
  | inLoop (m : Nat) (c : ACode)

inductive Node
  | ret (v : AV) (hs : List AObj)
  | need (p : Prop) (n : Node)
  | br (b : Bool) (x y : Node)
  | go (todo : List AItem) (tm : List AV) (hs : List AObj)
  | callN (f : Nat) (args : List AV) (dst : Option Nat) (todo : List AItem) (tm : List AV) (hs : List AObj)
  | rowN (xs : List (List AV)) (i : Int) (dst : Option Nat) (todo : List AItem) (tm : List AV) (hs : List AObj)
  | growN (xs : List (List AV)) (i off m : Nat) (agg flat : Bool) (dst : Option Nat) (todo : List AItem) (tm : List AV) (hs : List AObj)
  | lookN (M : Mp) (n : Int) (z : AV) (ok : Bool) (dst : Option Nat) (todo : List AItem) (tm : List AV) (hs : List AObj)
  | nextN (M : Mp) (kk : IntKind) (k : Nat) (x : AV) (c : Nat) (seen : List Nat) (dst : Option Nat) (todo : List AItem) (tm : List AV) (hs : List AObj)
  | entN (M : Mp) (kk : IntKind) (seen : List Nat) (dst : Option Nat) (todo : List AItem) (tm : List AV) (hs : List AObj)
  | cellN (cs : List AV) (i : Nat) (dst : Option Nat) (todo : List AItem) (tm : List AV) (hs : List AObj)
  | loopN (body : ACode) (todo : List AItem) (tm : List AV) (hs : List AObj)
  | scopeN (c : ACode) (todo : List AItem) (tm : List AV) (hs : List AObj)
  | both (x y : Node)
  | hyp (p : Prop) (n : Node)
  | dregN (l : List AOper) (cl : List (List Nat)) (todo : List AItem) (tm : List AV) (hs : List AObj)
  | againN (J : List AV → List AObj → Prop) (tm : List AV) (hs : List AObj)
  | bad

def getL : List AV → Nat → AV
  | [], _ => .any
  | v :: _, 0 => v
  | _ :: l, n + 1 => getL l n
def setL : List AV → Nat → AV → List AV
  | [], _, _ => []
  | _ :: l, 0, v => v :: l
  | x :: l, n + 1, v => x :: setL l n v
def getO : List AObj → Nat → AObj
  | [], _ => .dead
  | v :: _, 0 => v
  | _ :: l, n + 1 => getO l n
def setO : List AObj → Nat → AObj → List AObj
  | [], _, _ => []
  | _ :: l, 0, v => v :: l
  | x :: l, n + 1, v => x :: setO l n v
def snocO : List AObj → AObj → List AObj
  | [], o => [o]
  | x :: l, o => x :: snocO l o
def lenO : List AObj → Nat
  | [] => 0
  | _ :: l => lenO l + 1
def putL (tm : List AV) (d : Option Nat) (v : AV) : List AV := match d with
  | some d => setL tm d v
  | none => tm
def ev (tm : List AV) : Opd → AV
  | .t n => getL tm n
  | .c v => v
def evs (tm : List AV) : List Opd → List AV
  | [] => []
  | x :: l => ev tm x :: evs tm l
def cellsOf : AV → List AV
  | .arr cs => cs
  | .agg cs => cs
  | v => [v]
/-- n cells from one on. -/
def seg (cs : List AV) (off n : Nat) : List AV := (cs.drop off).take n
def segL : List AV → Nat → Nat → List AV
  | _, _, 0 => []
  | [], _, _ + 1 => []
  | x :: l, 0, n + 1 => x :: segL l 0 n
  | _ :: l, o + 1, n + 1 => segL l o (n + 1)
/-- cells put over others from one on. -/
def over (cs : List AV) (off : Nat) (vs : List AV) : List AV := cs.take off ++ vs ++ cs.drop (off + vs.length)
def overL : List AV → Nat → List AV → List AV
  | cs, 0, [] => cs
  | [], _, _ => []
  | _ :: l, 0, v :: vs => v :: overL l 0 vs
  | x :: l, o + 1, vs => x :: overL l o vs
/-- Are there m cells from one on? -/
def fits : List AV → Nat → Nat → Bool
  | _, 0, 0 => true
  | [], 0, _ + 1 => false
  | _ :: l, 0, m + 1 => fits l 0 m
  | [], _ + 1, _ => false
  | _ :: l, o + 1, m => fits l o m
/-- no labels may go into a row of values. -/
def isVal : AV → Bool
  | .int .. | .bool _ | .tt | .ff | .str _ | .nilp | .nils | .nilm | .nilf | .ro .. => true
  | _ => false
def allVal : List AV → Bool
  | [] => true
  | x :: l => match isVal x with
    | true => allVal l
    | false => false
/-- may stand in a cell -/
def isCell : AV → Bool
  | .any | .agg _ | .arr _ | .tup _ => false
  | _ => true
def allCell : List AV → Bool
  | [] => true
  | x :: l => match isCell x with
    | true => allCell l
    | false => false
def ifEq (j k : Nat) (x y : AV) : AV := match Nat.beq j k with
  | true => x
  | false => y
def killV (k : Nat) : AV → AV
  | .own j => ifEq j k .any (.own j)
  | .ptr j o => ifEq j k .any (.ptr j o)
  | .ptrS j o => ifEq j k .any (.ptrS j o)
  | .sl j o l c => ifEq j k .any (.sl j o l c)
  | .mp j => ifEq j k .any (.mp j)
  | .gp j s i o => ifEq j k .any (.gp j s i o)
  | .agg _ => .any
  | .tup _ => .any
  | .fn .. => .any
  | v => v
def killL (k : Nat) : List AV → List AV
  | [] => []
  | v :: l => killV k v :: killL k l
def kill1 (k : Nat) : AV → AV
  | .agg cs => .agg (killL k cs)
  | .fn f a b => .fn f (killL k a) (killL k b)
  | .tup _ => .any
  | v => killV k v
def kill1L (k : Nat) : List AV → List AV
  | [] => []
  | v :: l => kill1 k v :: kill1L k l
def kill (k : Nat) : AV → AV
  | .tup cs => .tup (kill1L k cs)
  | v => kill1 k v
def kills (k : Nat) : List AV → List AV
  | [] => []
  | v :: l => kill k v :: kills k l
def killO (k : Nat) : AObj → AObj
  | .cells t cs => .cells t (kill1L k cs)
  | .iter x c seen => .iter (kill1 k x) c seen
  | o => o
def killOs (k : Nat) : List AObj → List AObj
  | [] => []
  | o :: l => killO k o :: killOs k l

def mkBool (b : Bool) : AV := .bool b
def kn : IntKind → Nat
  | .i8 => 0 | .i16 => 1 | .i32 => 2 | .i64 => 3 | .u8 => 4 | .u16 => 5 | .u32 => 6 | .u64 => 7
def sameK (j k : IntKind) (n : Node) : Node := match Nat.beq (kn j) (kn k) with
  | true => n
  | false => .bad
/-- whole numbers -/
def binI (op : BinOp) (k j : IntKind) (a b : Int) (K : AV → Node) : Node := match op with
  | .shl => .need (0 ≤ b) (K (.int k (k.wrap (a * 2 ^ (min b.toNat k.bits)))))
  | .shr => .need (0 ≤ b) (K (.int k (a.fdiv (2 ^ (min b.toNat k.bits)))))
  | .add => sameK k j (K (.int k (k.wrap (a + b))))
  | .sub => sameK k j (K (.int k (k.wrap (a - b))))
  | .mul => sameK k j (K (.int k (k.wrap (a * b))))
  | .quo => sameK k j (.need (b ≠ 0) (K (.int k (k.wrap (a.tdiv b)))))
  | .rem => sameK k j (.need (b ≠ 0) (K (.int k (a.tmod b))))
  | .and => sameK k j (K (.int k (k.wrap (BitVec.ofInt k.bits a &&& BitVec.ofInt k.bits b).toNat)))
  | .or => sameK k j (K (.int k (k.wrap (BitVec.ofInt k.bits a ||| BitVec.ofInt k.bits b).toNat)))
  | .xor => sameK k j (K (.int k (k.wrap (BitVec.ofInt k.bits a ^^^ BitVec.ofInt k.bits b).toNat)))
  | .andNot => sameK k j (K (.int k (k.wrap (BitVec.ofInt k.bits a &&& ~~~ BitVec.ofInt k.bits b).toNat)))
  | .eql => sameK k j (K (.bool (a == b)))
  | .neq => sameK k j (K (.bool (a != b)))
  | .lss => sameK k j (K (.bool (decide (a < b))))
  | .leq => sameK k j (K (.bool (decide (a ≤ b))))
  | .gtr => sameK k j (K (.bool (decide (a > b))))
  | .geq => sameK k j (K (.bool (decide (a ≥ b))))
def binS (op : BinOp) (x y : ByteArray) (K : AV → Node) : Node := match op with
  | .add => .need (((x.size + y.size : Nat) : Int) ≤ 9223372036854775807) (K (.str (x ++ y)))
  | .eql => K (.bool (x.toList == y.toList))
  | .neq => K (.bool (!(x.toList == y.toList)))
  | .lss => K (.bool (Op.bytesLess x.toList y.toList))
  | .leq => K (.bool (Op.bytesLess x.toList y.toList || x.toList == y.toList))
  | .gtr => K (.bool (!(Op.bytesLess x.toList y.toList || x.toList == y.toList)))
  | .geq => K (.bool (!Op.bytesLess x.toList y.toList))
  | _ => .bad
def toB : AV → Option Bool
  | .tt => some true
  | .ff => some false
  | .bool b => some b
  | _ => none
def binB (op : BinOp) (a b : Bool) (K : AV → Node) : Node := match op with
  | .eql => K (.bool (a == b))
  | .neq => K (.bool (!(a == b)))
  | _ => .bad
def lit (b : Bool) : AV := match b with
  | true => .tt
  | false => .ff
def eqB (op : BinOp) (b : Bool) (K : AV → Node) : Node := match op with
  | .eql => K (lit b)
  | .neq => K (lit (!b))
  | _ => .bad
def bin (op : BinOp) (x y : AV) (K : AV → Node) : Node := match x, y with
  | .int k a, .int j b => binI op k j a b K
  | .str a, .str b => binS op a b K
  | _, _ => .bad
def eq1 (c : Cls) (op : BinOp) (x y : AV) (K : AV → Node) : Node := match c with
  | .b => match x, y with
    | .bool a, .bool b => binB op a b K
    | .bool a, .tt => binB op a true K
    | .bool a, .ff => binB op a false K
    | .tt, .bool b => binB op true b K
    | .ff, .bool b => binB op false b K
    | .tt, .tt => eqB op true K
    | .tt, .ff => eqB op false K
    | .ff, .tt => eqB op false K
    | .ff, .ff => eqB op true K
    | _, _ => .bad
  | .p => match x, y with
    | .nilp, .nilp => eqB op true K
    | .nilp, .ptr .. => eqB op false K
    | .ptr .., .nilp => eqB op false K
    | _, _ => .bad
  | .m => match x, y with
    | .nilm, .nilm => eqB op true K
    | .mp _, .nilm => eqB op false K
    | .nilm, .mp _ => eqB op false K
    | _, _ => .bad
  | .f => match x, y with
    | .nilf, .nilf => eqB op true K
    | .fn .., .nilf => eqB op false K
    | .nilf, .fn .. => eqB op false K
    | _, _ => .bad
  | .s => match x, y with
    | .nils, .nils => eqB op true K
    | .sl .., .nils => eqB op false K
    | .own _, .nils => .both (eqB op true K) (eqB op false K)
    | .ro _ xs, .nils => .both (.hyp (xs = []) (eqB op true K)) (eqB op false K)
    | _, _ => .bad
/-- Are cells the same? -/
def eqCell : AV → AV → Bool
  | .int _ a, .int _ b => a == b
  | .bool a, .bool b => a == b
  | .bool a, .tt => a
  | .bool a, .ff => !a
  | .tt, .bool a => a
  | .ff, .bool a => !a
  | .tt, .tt => true
  | .ff, .ff => true
  | .str a, .str b => a == b
  | _, _ => false
def isB : AV → Bool
  | .bool _ | .tt | .ff => true
  | _ => false
/-- Do cells stand as a type says? -/
def Fit : List Sh → List AV → List AV → Prop
  | [], [], [] => True
  | .i :: s, .int k _ :: l, .int j _ :: m => k = j ∧ Fit s l m
  | .s :: s, .str _ :: l, .str _ :: m => Fit s l m
  | .b :: s, x :: l, y :: m => isB x = true ∧ isB y = true ∧ Fit s l m
  | _, _, _ => False
def eqCells : List AV → List AV → Bool
  | [], [] => true
  | a :: l, b :: m => eqCell a b && eqCells l m
  | _, _ => false
def unI (op : UnOp) (x : AV) (K : AV → Node) : Node := match op, x with
  | .neg, .int k n => K (.int k (k.wrap (0 - n)))
  | .xor, .int k n => K (.int k (k.wrap (BitVec.ofInt k.bits (if k.signed then -1 else k.max) ^^^ BitVec.ofInt k.bits n).toNat))
  | .not, .bool b => K (.bool (!b))
  | .not, .tt => K .ff
  | .not, .ff => K .tt
  | _, _ => .bad
def mxA (l : List Opd) (tm : List AV) (x : AV) (K : AV → Node) : Node := match l with
  | [] => K x
  | o :: l => match x, ev tm o with
    | .int k a, .int _ b => mxA l tm (.int k (if b > a then b else a)) K
    | _, _ => .bad
def mnA (l : List Opd) (tm : List AV) (x : AV) (K : AV → Node) : Node := match l with
  | [] => K x
  | o :: l => match x, ev tm o with
    | .int k a, .int _ b => mnA l tm (.int k (if b < a then b else a)) K
    | _, _ => .bad
/-- Parts put over cells. -/
def fillN (f : AV → Bool) (tm : List AV) : List (Nat × Nat × Opd) → List AV → (List AV → Node) → Node
  | [], cs, k => k cs
  | (off, n, x) :: l, cs, k => match f (ev tm x) with
    | true => match ev tm x with
      | .arr vs => .need (vs.length = n ∧ off + n ≤ cs.length) (fillN f tm l (overL cs off vs) k)
      | .agg vs => .need (vs.length = n ∧ off + n ≤ cs.length) (fillN f tm l (overL cs off vs) k)
      | v => match Nat.beq n 1 with
        | true => match fits cs off 1 with
          | true => fillN f tm l (overL cs off [v]) k
          | false => .bad
        | false => .bad
    | false => .bad
/-- may its cells go into a row of values? -/
def okVal : AV → Bool
  | .arr _ => true
  | .agg cs => allVal cs
  | v => isVal v
/-- may its cells stand in cells? -/
def okCell : AV → Bool
  | .arr _ => true
  | .agg cs => allCell cs
  | v => isCell v
def lenV : List AV → Nat
  | [] => 0
  | _ :: l => lenV l + 1
def ptrL : List AV → Bool
  | [] => true
  | .nilp :: l => ptrL l
  | .ptr _ _ :: l => ptrL l
  | _ => false
/-- Values as rows of so many cells. -/
def rowsN (sz : Nat) (tm : List AV) : List Opd → (List (List AV) → Node) → Node
  | [], k => k []
  | x :: l, k => match okVal (ev tm x) with
    | true => match ev tm x with
      | .arr vs => .need (vs.length = sz) (rowsN sz tm l fun r => k (vs :: r))
      | .agg vs => .need (vs.length = sz) (rowsN sz tm l fun r => k (vs :: r))
      | v => match Nat.beq sz 1 with
        | true => rowsN sz tm l fun r => k ([v] :: r)
        | false => .bad
    | false => .bad
/-- The cells of a value of so many. -/
def cellsN (n : Nat) (v : AV) (k : List AV → Node) : Node := match v with
  | .arr vs => .need (vs.length = n) (k vs)
  | .agg vs => .need (vs.length = n) (k vs)
  | v => match Nat.beq n 1 with
    | true => k [v]
    | false => .bad
def bt (s : ByteArray) (i : Nat) : Nat := (s.data.getD i 0).toNat
def mkObj (t : Nat) (flat : Bool) (cs : List AV) : AObj := match flat with
  | true => .arr t cs
  | false => .cells t cs
def mkAgg (flat : Bool) (cs : List AV) : AV := match flat with
  | true => match allVal cs with
    | true => .arr cs
    | false => .agg cs
  | false => .agg cs
def bnd (tm : List AV) (o : Option Opd) (d : Int) : AV := match o with
  | some x => ev tm x
  | none => .int .i64 d
/-- A part of cells. -/
def partN (flat : Bool) (cs : List AV) (off m : Nat) (agg : Bool) (K : AV → Node) : Node := match agg with
  | true => match fits cs off m with
    | true => K (mkAgg flat (segL cs off m))
    | false => .bad
  | false => match fits cs off 1 with
    | true => K (getL cs off)
    | false => .bad
/-- A part of cells without labels. -/
def partA (cs : List AV) (off m : Nat) (agg : Bool) (K : AV → Node) : Node := match agg with
  | true => .need (off + m ≤ cs.length) (K (.arr (segL cs off m)))
  | false => match fits cs off 1 with
    | true => K (getL cs off)
    | false => .bad
def resN (tm : List AV) (hs : List AObj) : List ARes → (List AV → Node) → Node
  | [], k => k []
  | .tmp t :: l, k => resN tm hs l fun vs => k (getL tm t :: vs)
  | .cell t n agg flat :: l, k => match getL tm t with
    | .ptr q off => match getO hs q with
      | .arr _ cs => partA cs off n agg fun v => resN tm hs l fun vs => k (v :: vs)
      | .cells _ cs => partN flat cs off n agg fun v => resN tm hs l fun vs => k (v :: vs)
      | _ => .bad
    | _ => .bad
def retV : List AV → AV
  | [v] => v
  | l => .tup l
/-- behind a block's end -/
def leave (id : Nat) : List AItem → Option (List AItem)
  | [] => none
  | .block j :: k => match Nat.beq id j with
    | true => some k
    | false => leave id k
  | _ :: k => leave id k
/-- What follows a label. -/
def findA : ACode → Nat → Option ACode
  | .seq a b, l => match findA a l with
    | some r => some (.seq r b)
    | none => findA b l
  | .label k, l => match Nat.beq k l with
    | true => some .skip
    | false => none
  | _, _ => none
def restA : ACode → ACode
  | .seq .skip b => b
  | c => c
def jump (l : Nat) : List AItem → Option (Nat × Nat × ACode × ACode × List AItem)
  | [] => none
  | .scope m n c :: k => match findA c l with
    | some r => some (m, n, restA r, c, k)
    | none => jump l k
  | _ :: k => jump l k
/-- One that is lent reads as one that grows. -/
def asGrow : AObj → AObj
  | .lent t sz xs => .grow t sz xs
  | o => o
/-- The rows of a slice that can be read; sz: how many cells each. -/
def rowsV (sz : Nat) (hs : List AObj) (x : AV) (K : List (List AV) → Node) : Node := match x with
  | .ro z xs => match Nat.beq z sz with
    | true => K xs
    | false => .bad
  | .nils => K []
  | .own k => match asGrow (getO hs k) with
    | .grow _ z xs => match Nat.beq z sz with
      | true => K xs
      | false => .bad
    | .froz z xs => match Nat.beq z sz with
      | true => K xs
      | false => .bad
    | _ => .bad
  | .sl k off len cap => match Nat.beq sz 1 with
    | true => match getO hs k with
      | .arr _ cs => .need (off + len ≤ cs.length ∧ len ≤ cap) (K ((seg cs off len).map fun a => [a]))
      | _ => .bad
    | false => match getO hs k with
      | .arr _ cs => .need (off + len * sz ≤ cs.length ∧ len ≤ cap) (K ((List.range len).map fun i => seg cs (off + i * sz) sz))
      | _ => .bad
  | _ => .bad
/-- cells as rows of one -/
def rows1 : List AV → List (List AV)
  | [] => []
  | x :: l => [x] :: rows1 l
def dropN : Nat → List AV → List AV
  | 0, l => l
  | _ + 1, [] => []
  | n + 1, _ :: l => dropN n l
def byteOf : List AV → UInt8
  | [.int _ n] => UInt8.ofNat n.toNat
  | _ => 0
def strOf (xs : List (List AV)) : ByteArray := ⟨(xs.map byteOf).toArray⟩
def Bytes (xs : List (List AV)) : Prop := ∀ row ∈ xs, ∃ n, row = [.int .u8 n]
def bytesOf (s : ByteArray) : List (List AV) := s.data.toList.map fun b => [.int .u8 b.toNat]
/-- low and high bound of a slice of so many. -/
def lohi (tm : List AV) (lo hi : Option Opd) (n : Int) (K : Int → Int → Node) : Node := match bnd tm lo 0, bnd tm hi n with
  | .int _ l, .int _ h => K l h
  | _, _ => .bad
def offAt (lo : Option Opd) (off l n sz : Nat) : Nat := match lo with
  | none => off
  | some _ => if n = l then off else off + l * sz
def appTo (K : List AV → List AObj → Node) (d : Option Nat) (t sz bytes : Nat) (tm : List AV) (hs : List AObj) (x : AV) (ys : List (List AV)) : Node := match x with
  | .own k => match getO hs k with
    | .grow t' z xs => match Nat.beq t t' && Nat.beq sz z with
      | true => .need ((xs.length + ys.length) * bytes ≤ 140737488355328) (K (putL (kills k tm) d (.own k)) (setO (killOs k hs) k (.grow t sz (xs ++ ys))))
      | false => .bad
    | _ => .bad
  | .nils => .need (ys.length * bytes ≤ 140737488355328) (K (putL tm d (.own (lenO hs))) (snocO hs (.grow t sz ys)))
  | _ => .bad
def lookR (v : AV) (ok : Bool) (b : AV) : AV := match ok with
  | true => .tup [v, b]
  | false => v
def valOf : AV → AV
  | .agg cs => .arr cs
  | v => v
def opN (K : List AV → List AObj → Node) (d : Option Nat) (o : AOp) (rest : List AItem) (tm : List AV) (hs : List AObj) : Node := match o with
  | .mov x => K (putL tm d (ev tm x)) hs
  | .pick c a b => match ev tm c with
    | .tt => K (putL tm d (ev tm a)) hs
    | .ff => K (putL tm d (ev tm b)) hs
    | .bool c => match ev tm a, ev tm b with
      | .bool x, .bool y => K (putL tm d (.bool (if c then x else y))) hs
      | .bool x, .ff => K (putL tm d (.bool (c && x))) hs
      | .tt, .bool y => K (putL tm d (.bool (c || y))) hs
      | x, y => .br c (K (putL tm d x) hs) (K (putL tm d y) hs)
    | _ => .bad
  | .box t m flat x => match okCell (ev tm x) with
    | true => match flat with
      | true => match okVal (ev tm x) with
        | true => K (putL tm d (.ptr (lenO hs) 0)) (snocO hs (.arr t (cellsOf (ev tm x))))
        | false => .bad
      | false => K (putL tm d (.ptr (lenO hs) 0)) (snocO hs (.cells t (cellsOf (ev tm x))))
    | false => .bad
  | .build flat zero parts => match flat with
    | true => fillN okVal tm parts zero fun cs => K (putL tm d (.arr cs)) hs
    | false => fillN okCell tm parts zero fun cs => K (putL tm d (.agg cs)) hs
  | .mkSlP t parts => match ptrL (evs tm parts) with
    | true => K (putL tm d (.sl (lenO hs) 0 (lenV (evs tm parts)) (lenV (evs tm parts)))) (snocO hs (.cells t (evs tm parts)))
    | false => .bad
  | .mkSl t sz parts => rowsN sz tm parts fun xs => K (putL tm d (.own (lenO hs))) (snocO hs (.grow t sz xs))
  | .ld m agg flat x => match ev tm x with
    | .ptr k off => match getO hs k with
      | .arr _ cs => partA cs off m agg fun v => K (putL tm d v) hs
      | .cells _ cs => partN flat cs off m agg fun v => K (putL tm d v) hs
      | _ => .bad
    | .ptrS k off => match getO hs k with
      | .arr _ cs => match agg with
        | true => .need (off + m ≤ cs.length) (K (putL tm d (.arr (seg cs off m))) hs)
        | false => .cellN cs off d rest tm hs
      | .cells _ cs => partN flat cs off m agg fun v => K (putL tm d v) hs
      | _ => .bad
    | .rp c off => partN flat c off m agg fun v => K (putL tm d v) hs
    | .gp k sz i off => match asGrow (getO hs k) with
      | .grow _ z xs => match Nat.beq z sz with
        | true => .growN xs i off m agg flat d rest tm hs
        | false => .bad
      | _ => .bad
    | _ => .bad
  | .st m x v => match ev tm x with
    | .ptr k off => match getO hs k with
      | .arr t cs => match okVal (ev tm v) with
        | true => cellsN m (ev tm v) fun vs => match fits cs off m with
          | true => K (putL tm d .any) (setO hs k (.arr t (overL cs off vs)))
          | false => .bad
        | false => .bad
      | .cells t cs => match okCell (ev tm v) with
        | true => cellsN m (ev tm v) fun vs => match fits cs off m with
          | true => K (putL tm d .any) (setO hs k (.cells t (overL cs off vs)))
          | false => .bad
        | false => .bad
      | _ => .bad
    | .ptrS k off => match getO hs k with
      | .arr t cs => match okVal (ev tm v) with
        | true => cellsN m (ev tm v) fun vs => .need (off + m ≤ cs.length) (K (putL tm d .any) (setO hs k (.arr t (over cs off vs))))
        | false => .bad
      | .cells t cs => match okCell (ev tm v) with
        | true => cellsN m (ev tm v) fun vs => match fits cs off m with
          | true => K (putL tm d .any) (setO hs k (.cells t (overL cs off vs)))
          | false => .bad
        | false => .bad
      | _ => .bad
    | _ => .bad
  | .nilchk x => match ev tm x with
    | .ptr k off => K (putL tm d (.ptr k off)) hs
    | .ptrS k off => K (putL tm d (.ptrS k off)) hs
    | .rp c off => K (putL tm d (.rp c off)) hs
    | .fn f a b => K (putL tm d (.fn f a b)) hs
    | _ => .bad
  | .bin op x y => bin op (ev tm x) (ev tm y) fun v => K (putL tm d v) hs
  | .eq1 c op x y => eq1 c op (ev tm x) (ev tm y) fun v => K (putL tm d v) hs
  | .eqa neg sh x y => match ev tm x, ev tm y with
    | .arr cs, .arr es => .need (Fit sh cs es) (match neg with
      | false => K (putL tm d (.bool (eqCells cs es))) hs
      | true => K (putL tm d (.bool (!(eqCells cs es)))) hs)
    | _, _ => .bad
  | .un op x => unI op (ev tm x) fun v => K (putL tm d v) hs
  | .cvI k x => match ev tm x with
    | .int _ m => K (putL tm d (.int k (k.wrap m))) hs
    | _ => .bad
  | .cvId x => match ev tm x with
    | .str s => K (putL tm d (.str s)) hs
    | _ => .bad
  | .cvMk x => match ev tm x with
    | .own k => match getO hs k with
      | .grow t z xs => .need (xs ≠ []) (K (putL tm d (.own k)) hs)
      | _ => .bad
    | _ => .bad
  | .cvBS x => rowsV 1 hs (ev tm x) fun xs => .need (Bytes xs) (K (putL tm d (.str (strOf xs))) hs)
  | .cvSB t x => match ev tm x with
    | .str s => K (putL tm d (.own (lenO hs))) (snocO hs (.grow t 1 (bytesOf s)))
    | _ => .bad
  | .mkF f first caps => K (putL tm d (.fn f (evs tm first) (evs tm caps))) hs
  | .make t sz bytes zero len cap => match ev tm len, ev tm cap with
    | .int _ l, .int _ c => .need (0 ≤ l ∧ l ≤ c ∧ c ≤ 140737488355328 ∧ c * bytes ≤ 140737488355328) (K (putL tm d (.sl (lenO hs) 0 l.toNat c.toNat)) (snocO hs (.arr t (List.replicate c.toNat zero).flatten)))
    | _, _ => .bad
  | .make0 t sz bytes cap => match ev tm cap with
    | .int _ c => .need (0 ≤ c ∧ c ≤ 140737488355328 ∧ c * bytes ≤ 140737488355328) (K (putL tm d (.own (lenO hs))) (snocO hs (.grow t sz [])))
    | _ => .bad
  | .slS x lo hi => match ev tm x with
    | .str s => lohi tm lo hi s.size fun l h => .need (0 ≤ l ∧ l ≤ h ∧ h ≤ s.size) (K (putL tm d (.str (s.extract l.toNat h.toNat))) hs)
    | _ => .bad
  | .slSl sz x lo hi => match ev tm x with
    | .ro z xs => match Nat.beq z sz with
      | true => lohi tm lo hi xs.length fun l h => .need (0 ≤ l ∧ l ≤ h ∧ h ≤ xs.length) (K (putL tm d (.ro z ((xs.drop l.toNat).take (h.toNat - l.toNat)))) hs)
      | false => .bad
    | .nils => lohi tm lo hi 0 fun l h => .need (0 = l ∧ 0 = h) (K (putL tm d .nils) hs)
    | .own k => match getO hs k with
      | .froz z xs => match Nat.beq z sz with
        | true => lohi tm lo hi xs.length fun l h => .need (0 ≤ l ∧ l ≤ h ∧ h ≤ xs.length) (K (putL tm d (.ro z ((xs.drop l.toNat).take (h.toNat - l.toNat)))) hs)
        | false => .bad
      | .grow t z xs => match lo with
        | none => match Nat.beq z sz with
          | true => lohi tm none hi xs.length fun l h => .need (0 ≤ h ∧ h ≤ xs.length) (K (putL (kills k tm) d (.own k)) (setO (killOs k hs) k (.grow t z (xs.take h.toNat))))
          | false => .bad
        | some _ => .bad
      | _ => .bad
    | .sl k off len cap => lohi tm lo hi len fun l h => .need (0 ≤ l ∧ l ≤ h ∧ h ≤ cap) (K (putL tm d (.sl k (offAt lo off l.toNat cap sz) (h.toNat - l.toNat) (cap - l.toNat))) hs)
    | _ => .bad
  | .slAr n sz x lo hi => match ev tm x with
    | .ptr k off => lohi tm lo hi n fun l h => .need (0 ≤ l ∧ l ≤ h ∧ h ≤ n) (K (putL tm d (.sl k (offAt lo off l.toNat n sz) (h.toNat - l.toNat) (n - l.toNat))) hs)
    | _ => .bad
  | .fad off x => match ev tm x with
    | .ptr k o => K (putL tm d (.ptr k (o + off))) hs
    | .ptrS k o => K (putL tm d (.ptrS k (o + off))) hs
    | .rp c o => K (putL tm d (.rp c (o + off))) hs
    | .gp k s i o => K (putL tm d (.gp k s i (o + off))) hs
    | _ => .bad
  | .fld off m agg flat x => match ev tm x with
    | .arr cs => partA cs off m agg fun v => K (putL tm d v) hs
    | .agg cs => partN flat cs off m agg fun v => K (putL tm d v) hs
    | _ => .bad
  | .ixA n sz x i => match ev tm x, ev tm i with
    | .ptr k off, .int _ i => .need (0 ≤ i ∧ i < n) (K (putL tm d (.ptrS k (off + i.toNat * sz))) hs)
    | .ptrS k off, .int _ i => .need (0 ≤ i ∧ i < n) (K (putL tm d (.ptrS k (off + i.toNat * sz))) hs)
    | .rp c off, .int _ i => match Nat.beq sz 1 with
      | true => .need (0 ≤ i ∧ i < n) (.rowN (rows1 (dropN off c)) i d rest tm hs)
      | false => .bad
    | _, _ => .bad
  | .ixS sz x i => match ev tm x, ev tm i with
    | .ro z xs, .int _ i => match Nat.beq z sz with
      | true => .rowN xs i d rest tm hs
      | false => .bad
    | .own k, .int _ i => match asGrow (getO hs k) with
      | .froz z xs => match Nat.beq z sz with
        | true => .rowN xs i d rest tm hs
        | false => .bad
      | .grow _ z xs => match Nat.beq z sz with
        | true => .need (0 ≤ i ∧ i < xs.length) (K (putL tm d (.gp k sz i.toNat 0)) hs)
        | false => .bad
      | _ => .bad
    | .sl k off len cap, .int _ i => .need (0 ≤ i ∧ i < len) (K (putL tm d (.ptrS k (off + i.toNat * sz))) hs)
    | _, _ => .bad
  | .ixV n sz agg flat x i => match ev tm x, ev tm i with
    | .arr cs, .int _ i => match agg with
      | true => .need (0 ≤ i ∧ i < n ∧ i.toNat * sz + sz ≤ cs.length) (K (putL tm d (.arr (seg cs (i.toNat * sz) sz))) hs)
      | false => .need (0 ≤ i ∧ i < n) (.cellN cs (i.toNat * sz) d rest tm hs)
    | _, _ => .bad
  | .ixStr x i => match ev tm x, ev tm i with
    | .str s, .int _ i => .need (0 ≤ i ∧ i < s.size) (K (putL tm d (.int .u8 (bt s i.toNat))) hs)
    | _, _ => .bad
  | .ext x i => match ev tm x with
    | .tup vs => .need (i < vs.length) (K (putL tm d (getL vs i)) hs)
    | _ => .bad
  | .lenS x => match ev tm x with
    | .str s => K (putL tm d (.int .i64 s.size)) hs
    | _ => .bad
  | .lenB x => match ev tm x with
    | .ro _ xs => K (putL tm d (.int .i64 xs.length)) hs
    | .nils => K (putL tm d (.int .i64 0)) hs
    | .sl _ _ len _ => K (putL tm d (.int .i64 len)) hs
    | .own k => match asGrow (getO hs k) with
      | .grow _ _ xs => K (putL tm d (.int .i64 xs.length)) hs
      | .froz _ xs => K (putL tm d (.int .i64 xs.length)) hs
      | _ => .bad
    | _ => .bad
  | .lenC m => K (putL tm d (.int .i64 m)) hs
  | .app t sz bytes x y => rowsV sz hs (ev tm y) (appTo K d t sz bytes tm hs (ev tm x))
  | .appS t bytes x y => match ev tm y with
    | .str s => appTo K d t 1 bytes tm hs (ev tm x) (bytesOf s)
    | _ => .bad
  | .cpy sz x y => match ev tm x with
    | .sl k off len cap => match getO hs k with
      | .arr t cs => rowsV sz hs (ev tm y) fun ys => .need (off + len * sz ≤ cs.length) (K (putL tm d (.int .i64 (min ys.length len : Nat))) (setO hs k (.arr t (over cs off (ys.flatten.take ((min ys.length len) * sz))))))
      | _ => .bad
    | _ => .bad
  | .cpyS x y => match ev tm x with
    | .sl k off len cap => match getO hs k with
      | .arr t cs => match ev tm y with
        | .str s => .need (off + len * 1 ≤ cs.length) (K (putL tm d (.int .i64 (min (bytesOf s).length len : Nat))) (setO hs k (.arr t (over cs off ((bytesOf s).flatten.take ((min (bytesOf s).length len) * 1))))))
        | _ => .bad
      | _ => .bad
    | _ => .bad
  | .mx x l => mxA l tm (ev tm x) fun v => K (putL tm d v) hs
  | .mn x l => mnA l tm (ev tm x) fun v => K (putL tm d v) hs
  | .die => .bad
  | .capB x => match ev tm x with
    | .nils => K (putL tm d (.int .i64 0)) hs
    | .sl _ _ _ cap => K (putL tm d (.int .i64 cap)) hs
    | _ => .bad
  | .app0 t sz bytes zero x n => match ev tm x, ev tm n with
    | .nils, .int _ n => .need (0 < n ∧ n * bytes ≤ 140737488355328) (K (putL tm d (.own (lenO hs))) (snocO hs (.grow t sz (List.replicate n.toNat zero))))
    | _, _ => .bad
  | .call f args => .callN f (evs tm args) d rest tm hs
  | .mkMap kk => K (putL tm d (.mp (lenO hs))) (snocO hs (.map kk Mp.emp))
  | .lkup kt z ok x i => match ev tm x with
    | .nilm => match ev tm i with
      | .int j _ => sameK kt j (K (putL tm d (lookR z ok .ff)) hs)
      | _ => .bad
    | .mp k => match getO hs k with
      | .map kk M => match ev tm i with
        | .int j n => sameK kt j <| sameK kk j (.lookN M n z ok d rest tm hs)
        | _ => .bad
      | _ => .bad
    | _ => .bad
  | .mset kt x i v => match ev tm x with
    | .mp k => match getO hs k with
      | .map kk M => match ev tm i with
        | .int j n => sameK kt j <| sameK kk j (match okVal (ev tm v) with
          | true => K (putL tm d .any) (setO hs k (.map kk (M.put n (valOf (ev tm v)))))
          | false => .bad)
        | _ => .bad
      | _ => .bad
    | _ => .bad
  | .mdel kt x i => match ev tm x with
    | .nilm => match ev tm i with
      | .int j _ => sameK kt j (K (putL tm d (.tup [])) hs)
      | _ => .bad
    | .mp k => match getO hs k with
      | .map kk M => match ev tm i with
        | .int j n => sameK kt j <| sameK kk j (K (putL tm d (.tup [])) (setO hs k (.map kk (M.del n))))
        | _ => .bad
      | _ => .bad
    | _ => .bad
  | .lenM x => match ev tm x with
    | .nilm => K (putL tm d (.int .i64 0)) hs
    | .mp k => match getO hs k with
      | .map _ M => K (putL tm d (.int .i64 M.es.length)) hs
      | _ => .bad
    | _ => .bad
  | .mrange x => match ev tm x with
    | .mp k => match getO hs k with
      | .map _ M => K (putL tm d (.ptr (lenO hs) 0)) (snocO hs (.iter (.mp k) M.clock []))
      | _ => .bad
    | _ => .bad
  | .mnext x => match ev tm x with
    | .ptr k 0 => match getO hs k with
      | .iter (.mp m) c seen => match getO hs m with
        | .map kk M => .nextN M kk k (.mp m) c seen d rest tm hs
        | _ => .bad
      | _ => .bad
    | _ => .bad
  | .mentry x => match ev tm x with
    | .ptr k 0 => match getO hs k with
      | .iter (.mp m) c seen => match getO hs m with
        | .map kk M => .need (M.clock = c) (.entN M kk seen d rest tm hs)
        | _ => .bad
      | _ => .bad
    | _ => .bad
  | .ment kt z x i => match ev tm x with
    | .mp k => match getO hs k with
      | .map kk M => match ev tm i with
        | .int j n => sameK kt j <| sameK kk j (.need (M.look n = none) (match okVal z with
          | true => K (putL tm d (.tup [valOf z, .int .i64 M.clock])) (setO hs k (.map kk (M.put n (valOf z))))
          | false => .bad))
        | _ => .bad
      | _ => .bad
    | _ => .bad
  | .mstore x s v => match ev tm x with
    | .mp k => match getO hs k with
      | .map kk M => match ev tm s with
        | .int .i64 n => .need (∃ e ∈ M.es, (e.1 : Int) = n) (match okVal (ev tm v) with
          | true => K (putL tm d .any) (setO hs k (.map kk (M.setB n (valOf (ev tm v)))))
          | false => .bad)
        | _ => .bad
      | _ => .bad
    | _ => .bad
  | .callv x args => match ev tm x with
    | .fn f first caps => .callN f (first ++ (evs tm args ++ caps)) d rest tm hs
    | _ => .bad
/-- Has a state been worked out? (It says yes of each; an evaluation goes on when it has said so.) -/
def nfO : List AObj → Bool
  | _ :: hs => nfO hs
  | [] => true
@[inherit_doc nfO]
def nf : List AV → List AObj → Bool
  | _ :: l, hs => nf l hs
  | [], hs => nfO hs
def eval (rs : List ARes) : Nat → Bool → List AItem → List AV → List AObj → Node
  | 0, _, todo, tm, hs => .go todo tm hs
  | n + 1, false, todo, tm, hs => .go todo tm hs
  | n + 1, true, [], tm, hs => resN tm hs rs fun vs => .ret (retV vs) hs
  | n + 1, true, .block _ :: todo, tm, hs => eval rs n true todo tm hs
  | n + 1, true, .again J :: todo, tm, hs => .againN J tm hs
  | n + 1, true, .scope _ _ _ :: todo, tm, hs => eval rs n true todo tm hs
  | n + 1, true, .inLoop 0 _ :: todo, tm, hs => .bad
  | n + 1, true, .inLoop (m + 1) c :: todo, tm, hs => eval rs n true (.code c :: .inLoop m c :: todo) tm hs
  | n + 1, true, .ops [] :: todo, tm, hs => eval rs n true todo tm hs
  | n + 1, true, .ops (⟨d, o, some (s, true)⟩ :: os) :: todo, tm, hs => match getL tm s with
    | .tt => opN (fun tm hs => eval rs n (nf tm hs) (.ops os :: todo) tm hs) d o (.ops os :: todo) tm hs
    | .ff => eval rs n (nf (putL tm d (.tup [])) hs) (.ops os :: todo) (putL tm d (.tup [])) hs
    | .bool b => .br b (opN (fun tm hs => eval rs n (nf tm hs) (.ops os :: todo) tm hs) d o (.ops os :: todo) (setL tm s .tt) hs) (eval rs n (nf (putL (setL tm s .ff) d (.tup [])) hs) (.ops os :: todo) (putL (setL tm s .ff) d (.tup [])) hs)
    | .tup [] => eval rs n (nf (putL tm d (.tup [])) hs) (.ops os :: todo) (putL tm d (.tup [])) hs
    | _ => .bad
  | n + 1, true, .ops (⟨d, o, some (s, false)⟩ :: os) :: todo, tm, hs => match getL tm s with
    | .ff => opN (fun tm hs => eval rs n (nf tm hs) (.ops os :: todo) tm hs) d o (.ops os :: todo) tm hs
    | .tt => eval rs n (nf (putL tm d (.tup [])) hs) (.ops os :: todo) (putL tm d (.tup [])) hs
    | .bool b => .br b (eval rs n (nf (putL (setL tm s .tt) d (.tup [])) hs) (.ops os :: todo) (putL (setL tm s .tt) d (.tup [])) hs) (opN (fun tm hs => eval rs n (nf tm hs) (.ops os :: todo) tm hs) d o (.ops os :: todo) (setL tm s .ff) hs)
    | .tup [] => eval rs n (nf (putL tm d (.tup [])) hs) (.ops os :: todo) (putL tm d (.tup [])) hs
    | _ => .bad
  | n + 1, true, .ops (⟨d, o, none⟩ :: os) :: todo, tm, hs => opN (fun tm hs => eval rs n (nf tm hs) (.ops os :: todo) tm hs) d o (.ops os :: todo) tm hs
  | n + 1, true, .code .skip :: todo, tm, hs => eval rs n true todo tm hs
  | n + 1, true, .code .ret :: todo, tm, hs => resN tm hs rs fun vs => .ret (retV vs) hs
  | n + 1, true, .code (.reg l) :: todo, tm, hs => eval rs n true (.ops l :: todo) tm hs
  | n + 1, true, .code (.dreg l cl) :: todo, tm, hs => .dregN l cl todo tm hs
  | n + 1, true, .code (.seq a b) :: todo, tm, hs => eval rs n true (.code a :: .code b :: todo) tm hs
  | n + 1, true, .code (.cond (.t s) a b) :: todo, tm, hs => match getL tm s with
    | .tt => eval rs n true (.code a :: todo) tm hs
    | .ff => eval rs n true (.code b :: todo) tm hs
    | .bool v => .br v (eval rs n (nf (setL tm s .tt) hs) (.code a :: todo) (setL tm s .tt) hs) (eval rs n (nf (setL tm s .ff) hs) (.code b :: todo) (setL tm s .ff) hs)
    | _ => .bad
  | n + 1, true, .code (.cond (.c v) a b) :: todo, tm, hs => .bad
  | n + 1, true, .code (.block id c) :: todo, tm, hs => eval rs n true (.code c :: .block id :: todo) tm hs
  | n + 1, true, .code (.loop c) :: todo, tm, hs => .loopN c todo tm hs
  | n + 1, true, .code (.exit id) :: todo, tm, hs => match leave id todo with
    | some todo => eval rs n true todo tm hs
    | none => .bad
  | n + 1, true, .code (.scope c) :: todo, tm, hs => .scopeN c todo tm hs
  | n + 1, true, .code (.label _) :: todo, tm, hs => .go todo tm hs
  | n + 1, true, .code (.goto l) :: todo, tm, hs => match jump l todo with
    | some (m, k, r, c, todo) => .need (0 < m) (.go (.code r :: .scope (m - 1) k c :: todo) tm hs)
    | none => .bad
end Go.Proofs.YtlnafekmiidpkaaDoor.S
