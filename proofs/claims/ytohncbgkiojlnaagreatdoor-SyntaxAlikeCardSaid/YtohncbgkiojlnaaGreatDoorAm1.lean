/- The abstract machine: values are trees, slices that nobody writes carry their elements, memory that is written lies in a small heap; no tape. Definitions. -/
import GoSem.Step
namespace Go.Proofs.YtohncbgkiojlnaaGreatDoor.Am

/-! ### Tries -/
inductive Tr (α : Type) where
  | nil
  | nd (l : Tr α) (v : Option α) (r : Tr α)

namespace Tr
variable {α : Type}
def get : Tr α → Nat → Option α
  | nil, _ => none
  | nd l v r, i => bif Nat.beq i 0 then v else bif Nat.beq (i % 2) 1 then get l (i / 2) else get r (i / 2 - 1)
def putF : Nat → Tr α → Nat → Option α → Tr α
  | 0, t, _, _ => t
  | _ + 1, nil, 0, x => nd nil x nil
  | f + 1, nil, i + 1, x => bif Nat.beq ((i + 1) % 2) 1 then nd (putF f nil ((i + 1) / 2) x) none nil else nd nil none (putF f nil ((i + 1) / 2 - 1) x)
  | _ + 1, nd l _ r, 0, x => nd l x r
  | f + 1, nd l v r, i + 1, x => bif Nat.beq ((i + 1) % 2) 1 then nd (putF f l ((i + 1) / 2) x) v r else nd l v (putF f r ((i + 1) / 2 - 1) x)
def put (t : Tr α) (i : Nat) (x : Option α) : Tr α := putF (i + 1) t i x
def ofList (t : Tr α) : Nat → List α → Tr α
  | _, [] => t
  | i, x :: xs => ofList (t.put i (some x)) (i + 1) xs
end Tr

def nth {α : Type} : List α → Nat → Option α
  | [], _ => none
  | x :: _, 0 => some x
  | _ :: xs, n + 1 => nth xs n
def setNth {α : Type} : List α → Nat → α → List α
  | [], _, _ => []
  | _ :: xs, 0, y => y :: xs
  | x :: xs, n + 1, y => x :: setNth xs n y
def len {α : Type} : List α → Nat
  | [] => 0
  | _ :: xs => len xs + 1
def tk {α : Type} : Nat → List α → List α
  | 0, _ => []
  | _ + 1, [] => []
  | n + 1, x :: xs => x :: tk n xs
def dp {α : Type} : Nat → List α → List α
  | 0, xs => xs
  | _ + 1, [] => []
  | n + 1, _ :: xs => dp n xs
def app {α : Type} : List α → List α → List α
  | [], ys => ys
  | x :: xs, ys => x :: app xs ys
def mapO {α β : Type} (f : α → Option β) : List α → Option (List β)
  | [] => some []
  | x :: xs => match f x with
    | none => none
    | some y => match mapO f xs with
      | none => none
      | some ys => some (y :: ys)
def rep {α : Type} : Nat → α → List α
  | 0, _ => []
  | n + 1, x => x :: rep n x

/-! ### Values -/
/-- Who may append to a slice: nobody ('no'), it is nil, it has no spare place, or the holder of a chain at its end. -/
inductive Own where
  | no | nil | full | chain (c e : Nat)

def noSpare : Own → Own
  | .nil => .nil
  | _ => .full

inductive AV where
  | undef
  | bool (b : Bool)
  | int (k : IntKind) (n : Int)
  | str (s : ByteArray)
  | nilptr
  | ptr (r off : Nat)
  | eptr (cells : List AV)
  | lptr (d off g : Nat)
  | vptr (sz r ver i off : Nat)
  | slice (sz : Nat) (xs : List AV) (own : Own)
  | vec (sz r ver off len : Nat)
  | map (r : Nat)
  | nilmap
  | func (f : FuncId) (caps : List AV)
  | yield (l : Nat)
  | nilfunc
  | iface (t : TypeId) (v : AV)
  | niliface
  | agg (cells : List AV)
  | tuple (vs : List AV)
  | box (g : Nat) (cells : List AV)
  deriving Inhabited

def AV.cells : AV → List AV
  | .agg cs => cs
  | v => [v]

/-! ### Code -/
inductive X where
  | t (i : Nat)
  | c (v : AV)

/-- What a cell that is compared holds. -/
inductive K where
  | b | i | s

/-- What is held against nil. -/
inductive NK where
  | p | m | f | i | s

inductive AOp where
  | mov (x : X)
  | pick (c a b : X)
  | lal (d : Nat) (z : List AV)
  | lbx (d n : Nat) (x : X)
  | hal (k : Nat) (z : List AV)
  | hbx (k n : Nat) (x : X)
  | bld (z : List AV) (ps : List (Nat × Nat × X))
  | lit (sz len : Nat) (z : AV) (ps : List (Nat × X))
  | ldL (d : Nat) (agg : Bool) (n : Nat) (x : X)
  | ldE (agg : Bool) (n : Nat) (x : X)
  | ldH (agg : Bool) (n : Nat) (x : X)
  | ldO (agg : Bool) (n : Nat) (x : X)
  | stL (d n : Nat) (x v : X)
  | stH (n : Nat) (x v : X)
  | nilck (l : Option Nat) (x : X)
  | bin (op : BinOp) (x y : X)
  | eqb (neq : Bool) (x y : X)
  | eqp (ks : List K) (neq : Bool) (x y : X)
  | eqn (k : NK) (neq : Bool) (x y : X)
  | una (op : UnOp) (x : X)
  | cvi (k : IntKind) (x : X)
  | cvs (x : X)
  | s2b (x : X)
  | b2s (x : X)
  | fn (f : FuncId) (caps : List X)
  | ifc (t : TypeId) (x : X)
  | tas (t : TypeId) (z : AV) (ok : Bool) (x : X)
  | ext (i : Nat) (x : X)
  | fld (agg : Bool) (n off : Nat) (x : X)
  | fad (l : Option Nat) (off : Nat) (x : X)
  | iad (sz : Nat) (x i : X)
  | iaa (l : Option Nat) (len sz : Nat) (x i : X)
  | idxs (x i : X)
  | idxa (agg : Bool) (n len : Nat) (x i : X)
  | len (str : Bool) (x : X)
  | mlen (old : Bool) (x : X)
  | call (m : Nat) (f : FuncId) (args : List X)
  | cav (m : Nat) (f : X) (args : List X)
  | app (k sz bytes : Nat) (vec : Bool) (s x : X)
  | mks (k sz bytes : Nat) (z : AV) (vec : Bool) (l c : X)
  | sli (sz : Nat) (x : X) (lo hi mx : Option X)
  | mkm (k : Nat)
  | lku (ks : List K) (sc old : Bool) (z : AV) (ok : Bool) (m key : X)
  | mup (ks : List K) (sc : Bool) (m key v : X)
  | minmax (mx : Bool) (xs : List X)
  | rng (k : Nat) (x : X)
  | nxt (isStr : Bool) (x : X)
  | dfr (f : X) (args : List X)
  | rcv
  | fail

/-- What a value looks like, where it is told apart by hand (the machine does not look at it). -/
inductive Sh0 where
  | any | b | s | sl | p
  | i (k : IntKind)
inductive Sh1 where
  | o (c : Sh0)
  | agg (l : List Sh0)
inductive Sh where
  | v (x : Sh1)
  | tup (l : List Sh1)
  | bx (g : Nat) (l : List Sh0)
def Sh.any : Sh := .v (.o .any)

structure AOper where
  dst : Option Nat
  guard : Option (Nat × Bool)
  /-- what lies at these must be another object than what this operation is about -/
  ap : List X
  op : AOp
  /-- what its value looks like -/
  sh : Sh

inductive ACode where
  | skip
  | region (m : Nat) (ops : List AOper)
  | seq (a b : ACode)
  | cond (x : X) (a b : ACode)
  | block (id : Nat) (c : ACode)
  | loop (keep : Option (List Nat)) (outs : Option (List Nat)) (sh : List (Nat × Sh)) (c : ACode)
  | exit (id : Nat)
  | ret
  | keep (l : List Nat) (c : ACode)
  | rangeF (ps : List Nat) (A B : Code) (aA aB : ACode) (f : X)
  | fail

inductive ARes where
  | tmp (t : Nat)
  | cell (t : Nat) (agg : Bool) (n : Nat)

structure AFunc where
  np : Nat
  body : ACode
  res : List ARes
  /-- the bodies of loops over functions: where the parameters go, the assignment, the body -/
  loops : List (List Nat × ACode × ACode)
  /-- the first region holds a recover: a deferred function literal -/
  handler : Bool

inductive HObj where
  | box (cells : List AV)
  | vec (sz ver : Nat) (xs : List AV)
  | chain (sz tip : Nat)
  | map (es : List (AV × AV))
  | iter (s : ByteArray) (pos : Nat)
  | miter (m : Nat) (left : List (AV × AV))
  | loop (f : FuncId) (ps : List Nat) (e : Tr AV) (A B : Code) (aA aB : ACode) (st : Nat)
  | dblk (op : Bool)

/-- What a frame does when it leaves: a call, or the calls that a loop over a function has gathered. -/
inductive Df where
  | call (f : FuncId) (args : List AV)
  | mark (r : Nat)

structure St where
  e : Tr AV
  h : Tr HObj
  nx : Nat
  rb : Nat
  ro : Nat
  df : List Df


/-! ### Reading -/
def noL : AV → AV
  | .lptr .. => .undef
  | .box .. => .undef
  | v => v
/-- A value that is told: not unknown, not a place of the frame. -/
def told : AV → Option AV
  | .tuple _ => none
  | .undef => none
  | .lptr .. => none
  | .box .. => none
  | v => some v

/-- One cell, told. -/
def oneA : AV → Bool
  | .undef => false
  | .lptr .. => false
  | .box .. => false
  | .agg _ => false
  | .tuple _ => false
  | _ => true
def allOne : List AV → Bool
  | [] => true
  | x :: xs => oneA x && allOne xs

def St.ev (s : St) : X → AV
  | .t i => match s.e.get i with
    | none => .undef
    | some (.box g _) => .lptr i 0 g
    | some v => v
  | .c v => v
def St.evs (s : St) : List X → List AV
  | [] => []
  | x :: xs => noL (s.ev x) :: s.evs xs

/-- Part of a row of cells as a value. -/
def part (agg : Bool) (n off : Nat) (cs : List AV) : Option AV :=
  bif agg then
    let l := tk n (dp off cs)
    bif Nat.beq (Am.len l) n then some (.agg l) else none
  else nth cs off

def putCells : List AV → Nat → List AV → List AV
  | cs, _, [] => cs
  | cs, off, v :: vs => putCells (setNth cs off v) (off + 1) vs

/-- Scalars alone, of a kind: what '==' on plain fields compares. -/
def scEq : K → AV → AV → Option Bool
  | .b, .bool a, .bool b => some (a == b)
  | .i, .int k a, .int l b => if k = l then some (a == b) else none
  | .s, .str a, .str b => some (a == b)
  | _, _, _ => none
def scEqs : List K → List AV → List AV → Option Bool
  | [], [], [] => some true
  | k :: ks, x :: xs, y :: ys => match scEq k x y, scEqs ks xs ys with
    | some a, some b => some (a && b)
    | _, _ => none
  | _, _, _ => none
/-- '==' at a plain type: a scalar ('sc'), or a row of them. -/
def plEq (ks : List K) (sc : Bool) (x y : AV) : Option Bool :=
  bif sc then (match ks with
    | [k] => scEq k x y
    | _ => none) else (match x, y with
    | .agg a, .agg b => scEqs ks a b
    | _, _ => none)
def nilEq : NK → AV → AV → Option Bool
  | .p, .nilptr, .nilptr => some true
  | .p, .nilptr, .ptr .. => some false | .p, .ptr .., .nilptr => some false
  | .p, .nilptr, .eptr _ => some false | .p, .eptr _, .nilptr => some false
  | .p, .nilptr, .vptr .. => some false | .p, .vptr .., .nilptr => some false
  | .m, .nilmap, .nilmap => some true
  | .m, .nilmap, .map _ => some false | .m, .map _, .nilmap => some false
  | .f, .nilfunc, .nilfunc => some true
  | .f, .nilfunc, .func .. => some false | .f, .func .., .nilfunc => some false
  | .i, .niliface, .niliface => some true
  | .i, .niliface, .iface .. => some false | .i, .iface .., .niliface => some false
  | .s, .slice _ _ .nil, .slice _ _ .nil => some true
  | .s, .slice _ _ .nil, .slice .. => some false | .s, .slice .., .slice _ _ .nil => some false
  | .s, .slice _ _ .nil, .vec .. => some false | .s, .vec .., .slice _ _ .nil => some false
  | _, _, _ => none

def intOp (op : BinOp) (k : IntKind) (x y : Int) : Option AV :=
  match op with
  | .add => some (.int k (k.wrap (x + y)))
  | .sub => some (.int k (k.wrap (x - y)))
  | .mul => some (.int k (k.wrap (x * y)))
  | .quo => if y = 0 then none else some (.int k (k.wrap (x.tdiv y)))
  | .rem => if y = 0 then none else some (.int k (x.tmod y))
  | .and => some (.int k (k.wrap (BitVec.ofInt k.bits x &&& BitVec.ofInt k.bits y).toNat))
  | .or => some (.int k (k.wrap (BitVec.ofInt k.bits x ||| BitVec.ofInt k.bits y).toNat))
  | .xor => some (.int k (k.wrap (BitVec.ofInt k.bits x ^^^ BitVec.ofInt k.bits y).toNat))
  | .andNot => some (.int k (k.wrap (BitVec.ofInt k.bits x &&& ~~~BitVec.ofInt k.bits y).toNat))
  | .eql => some (.bool (x == y))
  | .neq => some (.bool (x != y))
  | .lss => some (.bool (x < y))
  | .leq => some (.bool (x ≤ y))
  | .gtr => some (.bool (x > y))
  | .geq => some (.bool (x ≥ y))
  | _ => none
def shiftOp (op : BinOp) (k : IntKind) (x y : Int) : Option AV :=
  if y < 0 then none else
  let n := min y.toNat k.bits
  match op with
  | .shl => some (.int k (k.wrap (x * 2 ^ n)))
  | .shr => some (.int k (x.fdiv (2 ^ n)))
  | _ => none
def bytesLess : List UInt8 → List UInt8 → Bool
  | _, [] => false
  | [], _ :: _ => true
  | a :: x, b :: y => a < b || (a == b && bytesLess x y)
def strOp (op : BinOp) (x y : ByteArray) : Option AV :=
  match op with
  | .add => if ((x.size + y.size : Nat) : Int) > IntKind.i64.max then none else some (.str (x ++ y))
  | .eql => some (.bool (x.data.toList == y.data.toList))
  | .neq => some (.bool !(x.data.toList == y.data.toList))
  | .lss => some (.bool (bytesLess x.data.toList y.data.toList))
  | .geq => some (.bool !(bytesLess x.data.toList y.data.toList))
  | _ => none
def binOp (op : BinOp) (x y : AV) : Option AV :=
  match x, y with
  | .int k a, .int l b => match op with
    | .shl => shiftOp .shl k a b
    | .shr => shiftOp .shr k a b
    | o => if k = l then intOp o k a b else none
  | .str a, .str b => strOp op a b
  | _, _ => none

/-- A text's bytes as a row, and back. -/
def rowOf (b : ByteArray) : List AV := b.data.toList.map fun c => .int .u8 c.toNat
def bytesOf : List AV → Option (List UInt8)
  | [] => some []
  | .int .u8 n :: r => if 0 ≤ n ∧ n < 256 then (match bytesOf r with
    | some l => some (UInt8.ofNat n.toNat :: l)
    | none => none) else none
  | _ :: _ => none

/-! ### Between calls: what leaves a heap is frozen -/
mutual
def freeze (h : Tr HObj) (base : Nat) : Nat → AV → Option AV
  | 0, _ => none
  | f + 1, v => match v with
    | .undef => some .undef
    | .bool b => some (.bool b)
    | .int k n => some (.int k n)
    | .str s => some (.str s)
    | .nilptr => some .nilptr
    | .ptr r o => bif Nat.ble base r then none else some (.ptr r o)
    | .eptr cs => match freezes h base f cs with
      | some cs => some (.eptr cs)
      | none => none
    | .lptr .. => some .undef
    | .vptr sz r v i o => bif Nat.ble base r then none else some (.vptr sz r v i o)
    | .slice sz xs own => match freezes h base f xs with
      | some xs => some (.slice sz xs (match own with
        | .chain c e => bif Nat.ble base c then .no else .chain c e
        | o => o))
      | none => none
    | .vec sz r ver off n => bif Nat.ble base r then none else some (.vec sz r ver off n)
    | .map r => bif Nat.ble base r then none else some (.map r)
    | .nilmap => some .nilmap
    | .func g caps => match freezes h base f caps with
      | some caps => some (.func g caps)
      | none => none
    | .yield l => bif Nat.ble base l then none else some (.yield l)
    | .nilfunc => some .nilfunc
    | .iface t v => match freeze h base f v with
      | some v => some (.iface t v)
      | none => none
    | .niliface => some .niliface
    | .agg cs => match freezes h base f cs with
      | some cs => some (.agg cs)
      | none => none
    | .tuple cs => match freezes h base f cs with
      | some cs => some (.tuple cs)
      | none => none
    | .box .. => some .undef
def freezes (h : Tr HObj) (base : Nat) : Nat → List AV → Option (List AV)
  | 0, _ => none
  | _ + 1, [] => some []
  | f + 1, v :: vs => match freeze h base f v with
    | none => none
    | some v => match freezes h base f vs with
      | none => none
      | some vs => some (v :: vs)
end
end Go.Proofs.YtohncbgkiojlnaaGreatDoor.Am
