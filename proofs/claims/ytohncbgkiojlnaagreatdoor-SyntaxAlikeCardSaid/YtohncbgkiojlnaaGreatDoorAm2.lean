/- The abstract machine: its steps and its runs. -/
import Derived.Test.YtohncbgkiojlnaaGreatDoorAm1
namespace Go.Proofs.YtohncbgkiojlnaaGreatDoor.Am

/-- The biggest row in bytes that is asked for. -/
def room : Nat := 35184372088832

structure Hp where
  h : Tr HObj
  nx : Nat
  /-- what has a lesser number is not written -/
  ro : Nat

/-- What a call is: a function, its arguments, the heap: the result and the heap behind it. -/
abbrev Call := FuncId → List AV → Hp → Option (AV × Hp)

/-- Numbers from here on are no functions: an even rest names a loop, whose body is called; an odd one a function of the program's own text, called as such. -/
def ycode : Nat := 1099511627776
def yOf (l : Nat) : Nat := ycode + 2 * l
def eOf (f : Nat) : Nat := ycode + (2 * f + 1)

/-- Places of the frame dropped. -/
def clean : Tr AV → Tr AV
  | .nil => .nil
  | .nd l v r => .nd (clean l) (match v with
    | some (.box ..) => none
    | some (.lptr ..) => none
    | v => v) (clean r)
def putArgs : Tr AV → List Nat → List AV → Tr AV
  | e, p :: ps, a :: as_ => putArgs (e.put p (some a)) ps as_
  | e, _, _ => e

inductive Out where
  | norm | exit (id : Nat) | ret

def St.put (s : St) (d : Option Nat) (v : AV) : Option St :=
  match d with
  | none => some s
  | some d => match s.e.get d with
    | some (.box ..) => none
    | _ => some { s with e := s.e.put d (some v) }

/-- A local place is laid anew: its number goes up. -/
def St.lay (s : St) (d : Nat) (cells : List AV) : St :=
  match s.e.get d with
  | some (.box g _) => { s with e := s.e.put d (some (.box (g + 1) cells)) }
  | _ => { s with e := s.e.put d (some (.box 0 cells)) }

def toldAll : List AV → Option (List AV) := mapO told

def fillParts (s : St) : List AV → List (Nat × Nat × X) → Option (List AV)
  | cs, [] => some cs
  | cs, (off, n, x) :: ps => match told (s.ev x) with
    | none => none
    | some v => bif Nat.beq (len v.cells) n && Nat.ble (off + n) (len cs) then fillParts s (putCells cs off v.cells) ps else none
def fillElems (s : St) (sz : Nat) : List AV → List (Nat × X) → Option (List AV)
  | es, [] => some es
  | es, (i, x) :: ps => match told (s.ev x) with
    | none => none
    | some v => bif Nat.beq (len v.cells) sz && Nat.blt i (len es) then fillElems s sz (setNth es i v) ps else none

/-- What lies at a place of the heap, or in a told row: cells from there on. -/
def St.at_ (s : St) : AV → Option (List AV)
  | .eptr cs => some cs
  | .ptr r off => match s.h.get r with
    | some (.box cs) => some (dp off cs)
    | _ => none
  | .vptr sz r ver i off => match s.h.get r with
    | some (.vec sz' ver' xs) => bif Nat.beq sz sz' && Nat.beq ver ver' then (match nth xs i with
      | some x => some (dp off x.cells)
      | none => none) else none
    | _ => none
  | _ => none

/-- Does a place lie in what was there before a number? -/
def oldAt (b : Nat) : AV → Bool
  | .eptr _ => true
  | .ptr r _ => Nat.blt r b
  | .vptr _ r _ _ _ => Nat.blt r b
  | .map r => Nat.blt r b
  | .nilmap => true
  | _ => false

/-- An element written in part. -/
def setIn (x : AV) (off : Nat) (cells : List AV) : Option AV :=
  bif Nat.ble (off + len cells) (len x.cells) then
    match x with
    | .agg cs => some (.agg (putCells cs off cells))
    | _ => match cells with
      | [c] => some c
      | _ => none
  else none

/-- The elements that a slice, or a text, gives to an append. -/
def St.source (s : St) : AV → Option (List AV)
  | .slice _ xs _ => some xs
  | .vec sz r ver off n => match s.h.get r with
    | some (.vec sz' ver' xs) => bif Nat.beq sz sz' && Nat.beq ver ver' && Nat.ble (off + n) (len xs) then some (tk n (dp off xs)) else none
    | _ => none
  | .str b => some (b.data.toList.map fun c => .int .u8 c.toNat)
  | _ => none
def szOk (sz : Nat) : List AV → Bool
  | [] => true
  | x :: xs => Nat.beq (len x.cells) sz && szOk sz xs

/-- A number that is kept for a new thing. -/
def St.free (s : St) (k : Nat) : Bool :=
  Nat.blt (s.rb + k) s.nx && Nat.ble s.ro s.rb && (match s.h.get (s.rb + k) with
    | none => true
    | some _ => false)

def St.append (s : St) (k sz bytes : Nat) (vec : Bool) (dst src : AV) : Option (AV × St) :=
  match s.source src with
  | none => none
  | some ys => bif szOk sz ys then (match dst with
    | .slice sz' xs own => match ys with
      | [] => bif vec then none else some (.slice sz' xs own, s)
      | _ =>
        bif Nat.ble ((len xs + len ys) * bytes) room && Nat.blt 0 bytes && (Nat.beq (len xs) 0 || Nat.beq sz sz') then
          match own with
          | .no => none
          | .chain c e => bif vec then none else (match s.h.get c with
            | some (.chain sz'' tip) => bif Nat.beq tip e && Nat.beq sz sz'' && Nat.ble s.ro c then
                some (.slice sz (app xs ys) (.chain c (e + len ys)), { s with h := s.h.put c (some (.chain sz (e + len ys))) })
              else none
            | _ => none)
          | _ => bif s.free k then (bif vec then some (.vec sz (s.rb + k) 0 0 (len xs + len ys), { s with h := s.h.put (s.rb + k) (some (.vec sz 0 (app xs ys))) })
            else some (.slice sz (app xs ys) (.chain (s.rb + k) (len xs + len ys)), { s with h := s.h.put (s.rb + k) (some (.chain sz (len xs + len ys))) })) else none
        else none
    | .vec sz' r ver off n => bif vec then (match ys with
      | [] => some (.vec sz' r ver off n, s)
      | _ => match s.h.get r with
        | some (.vec sz'' ver' xs) =>
          bif Nat.beq sz sz' && Nat.beq sz sz'' && Nat.beq ver ver' && Nat.ble ((off + n + len ys) * bytes) room && Nat.blt 0 bytes && Nat.ble s.ro r then
            some (.vec sz r (ver + 1) off (n + len ys), { s with h := s.h.put r (some (.vec sz (ver + 1) (app (tk (off + n) xs) ys))) })
          else none
        | _ => none) else none
    | _ => none) else none

/-- Go's bounds of a slice expression. -/
def bound (n : Nat) (dflt : Nat) : Option AV → Option Nat
  | none => some dflt
  | some (.int _ i) => if 0 ≤ i ∧ i ≤ n then some i.toNat else none
  | _ => none

def findKey (ks : List K) (sc : Bool) (k : AV) : List (AV × AV) → Option (Option AV)
  | [] => some none
  | (q, v) :: es => match plEq ks sc k q with
    | some true => some (some v)
    | some false => findKey ks sc k es
    | none => none
def setKey (ks : List K) (sc : Bool) (k v : AV) : List (AV × AV) → Option (List (AV × AV))
  | [] => some [(k, v)]
  | (q, u) :: es => match plEq ks sc k q with
    | some true => some ((q, v) :: es)
    | some false => match setKey ks sc k v es with
      | some r => some ((q, u) :: r)
      | none => none
    | none => none
/-- A key is told to the bottom: scalars of the type's kinds alone. -/
def keyOk (ks : List K) (sc : Bool) (k : AV) : Bool := match plEq ks sc k k with
  | some _ => true
  | none => false

def minMax (mx : Bool) : Int → IntKind → List AV → Option AV
  | a, k, [] => some (.int k a)
  | a, k, .int l b :: r => if k = l then (bif mx then minMax mx (if b > a then b else a) k r else minMax mx (if b < a then b else a) k r) else none
  | _, _, _ => none

/-- What a snapshot of an argument is: a row that is written, as it stands. -/
def St.snap (s : St) : AV → Option AV
  | .vec sz r ver off n => match s.h.get r with
    | some (.vec sz' ver' xs) => bif Nat.beq sz sz' && Nat.beq ver ver' then some (.slice sz (tk n (dp off xs)) .no) else none
    | _ => none
  | v => some v
def scalar : AV → Bool
  | .bool _ => true
  | .int .. => true
  | .str _ => true
  | _ => false
def scalars : AV → Bool
  | .tuple vs => vs.all scalar
  | v => scalar v

/-- A number bigger than any depth that is met. -/
def deep : Nat := 1152921504606846976

def doCall (call : Call) (s : St) (m : Nat) (f : FuncId) (args : List AV) : Option (AV × St) :=
  match m with
  | 0 => match call f args ⟨.nil, s.nx, s.nx⟩ with
    | none => none
    | some (v, hp) => match freeze hp.h s.nx deep v with
      | none => none
      | some v => some (v, s)
  | 1 => match call f args ⟨s.h, s.nx, s.ro⟩ with
    | none => none
    | some (v, hp) => some (v, { s with h := hp.h, nx := hp.nx })
  | 2 => match mapO s.snap args with
    | none => none
    | some args => match call f args ⟨.nil, s.nx, s.nx⟩ with
      | none => none
      | some (v, _) => bif scalars v then some (v, s) else none
  | 3 => match call f args ⟨s.h, s.nx, s.nx⟩ with
    | none => none
    | some (v, hp) => match freeze hp.h s.nx deep v with
      | none => none
      | some v => some (v, s)
  | _ => match call f args ⟨s.h, s.nx, s.nx⟩ with
    | none => none
    | some (v, hp) => some (v, { s with h := hp.h, nx := hp.nx })

def keepE (e : Tr AV) : List Nat → Tr AV → Tr AV
  | [], t => t
  | d :: ds, t => match e.get d with
    | none => keepE e ds t
    | some (.lptr ..) => keepE e ds t
    | some v => keepE e ds (t.put d (some v))
def St.keep (s : St) (l : List Nat) : St := { s with e := keepE s.e l .nil }
def St.keepO (s : St) : Option (List Nat) → St
  | none => s
  | some l => s.keep l

def opt {α : Type} (f : α → AV) : Option α → Option AV
  | none => none
  | some a => some (f a)

def St.idx (s : St) (x : X) : Option Int := match s.ev x with
  | .int _ n => some n
  | _ => none

/-- Is a place of the frame the one that is named, as it was laid last? -/
def St.here (s : St) (l : Option Nat) (d g : Nat) : Bool :=
  match l with
  | none => false
  | some d' => Nat.beq d d' && (match s.e.get d' with
    | some (.box g' _) => Nat.beq g g'
    | _ => false)

def step (call : Call) (o : AOp) (s : St) : Option (AV × St) :=
  match o with
  | .mov x => some (s.ev x, s)
  | .pick c a b => match s.ev c with
    | .bool t => some (bif t then s.ev a else s.ev b, s)
    | _ => none
  | .lal d z => some (.undef, s.lay d z)
  | .lbx d n x => match told (s.ev x) with
    | none => none
    | some v => bif Nat.beq (len v.cells) n then some (.undef, s.lay d v.cells) else none
  | .hal k z => bif s.free k then some (.ptr (s.rb + k) 0, { s with h := s.h.put (s.rb + k) (some (.box z)) }) else none
  | .hbx k n x => match told (s.ev x) with
    | none => none
    | some v => bif Nat.beq (len v.cells) n && s.free k then some (.ptr (s.rb + k) 0, { s with h := s.h.put (s.rb + k) (some (.box v.cells)) }) else none
  | .bld z ps => match fillParts s z ps with
    | none => none
    | some cs => some (.agg cs, s)
  | .lit sz n z ps => match fillElems s sz (rep n z) ps with
    | none => none
    | some es => some (.slice sz es .full, s)
  | .ldL d agg n x => match s.ev x with
    | .lptr d' off g => match s.e.get d with
      | some (.box g' cs) => bif Nat.beq d d' && Nat.beq g g' then (match part agg n off cs with
        | some v => some (v, s)
        | none => none) else none
      | _ => none
    | _ => none
  | .ldE agg n x => match s.ev x with
    | .eptr cs => match part agg n 0 cs with
      | some v => some (v, s)
      | none => none
    | _ => none
  | .ldH agg n x => match s.at_ (s.ev x) with
    | none => none
    | some cs => match part agg n 0 cs with
      | some v => some (v, s)
      | none => none
  | .ldO agg n x => bif oldAt s.rb (s.ev x) then (match s.at_ (s.ev x) with
    | none => none
    | some cs => match part agg n 0 cs with
      | some v => some (v, s)
      | none => none) else none
  | .stL d n x v => match s.ev x, told (s.ev v) with
    | .lptr d' off g, some u => match s.e.get d with
      | some (.box g' cs) => bif Nat.beq d d' && Nat.beq g g' && Nat.beq (len u.cells) n && Nat.ble (off + n) (len cs) then
          some (.undef, { s with e := s.e.put d (some (.box g (putCells cs off u.cells))) }) else none
      | _ => none
    | _, _ => none
  | .stH n x v => match s.ev x, told (s.ev v) with
    | .ptr r off, some u => match s.h.get r with
      | some (.box cs) => bif Nat.beq (len u.cells) n && Nat.ble (off + n) (len cs) && Nat.ble s.ro r then
          some (.undef, { s with h := s.h.put r (some (.box (putCells cs off u.cells))) }) else none
      | _ => none
    | _, _ => none
  | .nilck l x => match s.ev x with
    | .ptr r o => some (.ptr r o, s)
    | .eptr cs => some (.eptr cs, s)
    | .lptr d o g => bif s.here l d g then some (.lptr d o g, s) else none
    | .vptr a b c d e => some (.vptr a b c d e, s)
    | .func f caps => some (.func f caps, s)
    | .yield l => some (.yield l, s)
    | .iface t v => some (.iface t v, s)
    | _ => none
  | .bin op x y => match binOp op (s.ev x) (s.ev y) with
    | some v => some (v, s)
    | none => none
  | .eqb neq x y => match s.ev x, s.ev y with
    | .bool a, .bool b => some (.bool (bif neq then !(a == b) else (a == b)), s)
    | _, _ => none
  | .eqp ks neq x y => match plEq ks false (s.ev x) (s.ev y) with
    | some b => some (.bool (bif neq then !b else b), s)
    | none => none
  | .eqn k neq x y => match nilEq k (s.ev x) (s.ev y) with
    | some b => some (.bool (bif neq then !b else b), s)
    | none => none
  | .una op x => match op, s.ev x with
    | .neg, .int k n => some (.int k (k.wrap (0 - n)), s)
    | .not, .bool b => some (.bool !b, s)
    | .xor, .int k n => some (.int k (k.wrap (BitVec.ofInt k.bits (if k.signed then -1 else k.max) ^^^ BitVec.ofInt k.bits n).toNat), s)
    | _, _ => none
  | .cvi k x => match s.ev x with
    | .int _ n => some (.int k (k.wrap n), s)
    | _ => none
  | .cvs x => match s.ev x with
    | .str b => some (.str b, s)
    | _ => none
  | .s2b x => match s.ev x with
    | .str b => some (.slice 1 (rowOf b) .no, s)
    | _ => none
  | .b2s x => match s.ev x with
    | .slice _ xs _ => match bytesOf xs with
      | some l => some (.str ⟨l.toArray⟩, s)
      | none => none
    | _ => none
  | .fn f caps => match toldAll (s.evs caps) with
    | none => none
    | some vs => some (.func f vs, s)
  | .ifc t x => match told (s.ev x) with
    | none => none
    | some v => some (.iface t v, s)
  | .tas t z ok x => match s.ev x with
    | .iface u v => bif Nat.beq t u then some (bif ok then .tuple [v, .bool true] else v, s)
      else (bif ok then some (.tuple [z, .bool false], s) else none)
    | .niliface => bif ok then some (.tuple [z, .bool false], s) else none
    | _ => none
  | .ext i x => match s.ev x with
    | .tuple vs => match nth vs i with
      | some v => some (v, s)
      | none => none
    | _ => none
  | .fld agg n off x => match s.ev x with
    | .agg cs => match part agg n off cs with
      | some v => some (v, s)
      | none => none
    | _ => none
  | .fad l off x => match s.ev x with
    | .lptr d o g => bif s.here l d g then some (.lptr d (o + off) g, s) else none
    | .eptr cs => some (.eptr (dp off cs), s)
    | .ptr r o => some (.ptr r (o + off), s)
    | .vptr sz r ver i o => some (.vptr sz r ver i (o + off), s)
    | _ => none
  | .iad sz x i => match s.ev x, s.idx i with
    | .slice sz' xs _, some n => if 0 ≤ n then (match nth xs n.toNat with
      | some v => bif Nat.beq sz sz' then some (.eptr v.cells, s) else none
      | none => none) else none
    | .vec sz' r ver off l, some n => if 0 ≤ n ∧ n < l then (bif Nat.beq sz sz' then some (.vptr sz r ver (off + n.toNat) 0, s) else none) else none
    | _, _ => none
  | .iaa l m sz x i => match s.idx i with
    | none => none
    | some n => if 0 ≤ n ∧ n < m then (match s.ev x with
      | .lptr d o g => bif s.here l d g then some (.lptr d (o + n.toNat * sz) g, s) else none
      | .eptr cs => some (.eptr (dp (n.toNat * sz) cs), s)
      | .ptr r o => some (.ptr r (o + n.toNat * sz), s)
      | .vptr sz' r ver j o => some (.vptr sz' r ver j (o + n.toNat * sz), s)
      | _ => none) else none
  | .idxs x i => match s.ev x, s.idx i with
    | .str b, some n => if 0 ≤ n then (match nth b.data.toList n.toNat with
      | some c => some (.int .u8 c.toNat, s)
      | none => none) else none
    | _, _ => none
  | .idxa agg n l x i => match s.ev x, s.idx i with
    | .agg cs, some j => if 0 ≤ j ∧ j < l then (match part agg n (j.toNat * n) cs with
      | some v => some (v, s)
      | none => none) else none
    | _, _ => none
  | .len str x => match str, s.ev x with
    | false, .slice _ xs _ => some (.int .i64 (Am.len xs), s)
    | false, .vec _ _ _ _ n => some (.int .i64 n, s)
    | true, .str b => some (.int .i64 b.size, s)
    | _, _ => none
  | .mlen old x => bif !old || oldAt s.rb (s.ev x) then (match s.ev x with
    | .nilmap => some (.int .i64 0, s)
    | .map r => match s.h.get r with
      | some (.map es) => some (.int .i64 (Am.len es), s)
      | _ => none
    | _ => none) else none
  | .call m f args => bif Nat.blt f ycode then doCall call s m f (s.evs args) else none
  | .cav m f args => match s.ev f with
    | .func g caps => bif Nat.blt g ycode then doCall call s m g (app (s.evs args) caps) else none
    | .yield l => match m with
      | 1 => match call (yOf l) (s.evs args) ⟨s.h, s.nx, s.ro⟩ with
        | none => none
        | some (v, hp) => some (v, { s with h := hp.h, nx := hp.nx })
      | _ => none
    | _ => none
  | .app k sz bytes vec d x => s.append k sz bytes vec (s.ev d) (s.ev x)
  | .mks k sz bytes z vec l c => match s.idx l, s.idx c with
    | some n, some m => if 0 ≤ n ∧ n ≤ m then
        (bif Nat.ble (m.toNat * bytes) room && Nat.blt 0 bytes && Nat.beq (Am.len z.cells) sz && s.free k then
          (bif vec then (if n = m then some (.vec sz (s.rb + k) 0 0 n.toNat, { s with h := s.h.put (s.rb + k) (some (.vec sz 0 (rep n.toNat z))) }) else none)
          else (if n = 0 then some (.slice sz [] (.chain (s.rb + k) 0), { s with h := s.h.put (s.rb + k) (some (.chain sz 0)) })
            else if n = m then some (.slice sz (rep n.toNat z) .full, s) else none)) else none) else none
    | _, _ => none
  | .sli size x lo hi mx => match s.ev x with
    | .str b => bif Nat.beq size 0 then (match mx with
      | some _ => none
      | none => match bound b.size b.size (opt s.ev hi) with
        | none => none
        | some h => match bound h 0 (opt s.ev lo) with
          | none => none
          | some l => some (.str (b.extract l h), s)) else none
    | .slice sz xs own => bif Nat.beq size 0 then none else
      match mx with
      | none => match bound (Am.len xs) (Am.len xs) (opt s.ev hi) with
        | none => none
        | some h => match bound h 0 (opt s.ev lo) with
          | none => none
          | some l => bif Nat.beq sz size || Nat.beq l 0 then some (.slice sz (tk (h - l) (dp l xs)) (bif Nat.beq h (Am.len xs) then own else .no), s) else none
      | some m => match bound (Am.len xs) (Am.len xs) (some (s.ev m)) with
        | none => none
        | some m => match bound m (Am.len xs) (opt s.ev hi) with
          | none => none
          | some h => match bound h 0 (opt s.ev lo) with
            | none => none
            | some l => bif Nat.beq h m && (Nat.beq sz size || Nat.beq l 0) then some (.slice sz (tk (h - l) (dp l xs)) (noSpare own), s) else none
    | .vec sz r ver off n => bif Nat.beq size 0 then none else match mx with
      | some _ => none
      | none => match bound n n (opt s.ev hi) with
        | none => none
        | some h => match bound h 0 (opt s.ev lo) with
          | none => none
          | some l => bif Nat.beq sz size then some (.vec sz r ver (off + l) (h - l), s) else none
    | _ => none
  | .mkm k => bif s.free k then some (.map (s.rb + k), { s with h := s.h.put (s.rb + k) (some (.map [])) }) else none
  | .lku ks sc old z ok m key => bif keyOk ks sc (s.ev key) && (!old || oldAt s.rb (s.ev m)) then (match s.ev m with
    | .nilmap => some (bif ok then .tuple [z, .bool false] else z, s)
    | .map r => match s.h.get r with
      | some (.map es) => match findKey ks sc (s.ev key) es with
        | some (some v) => some (bif ok then .tuple [v, .bool true] else v, s)
        | some none => some (bif ok then .tuple [z, .bool false] else z, s)
        | none => none
      | _ => none
    | _ => none) else none
  | .mup ks sc m key v => bif keyOk ks sc (s.ev key) then (match s.ev m, told (s.ev v) with
    | .map r, some u => match s.h.get r with
      | some (.map es) => bif Nat.ble s.ro r then (match setKey ks sc (s.ev key) u es with
        | some es => some (.undef, { s with h := s.h.put r (some (.map es)) })
        | none => none) else none
      | _ => none
    | _, _ => none) else none
  | .minmax mx xs => match s.evs xs with
    | .int k a :: r => match minMax mx a k r with
      | some v => some (v, s)
      | none => none
    | _ => none
  | .rng k x => match s.ev x with
    | .str b => bif s.free k then some (.ptr (s.rb + k) 0, { s with h := s.h.put (s.rb + k) (some (.iter b 0)) }) else none
    | _ => none
  | .nxt isStr x => match isStr, s.ev x with
    | true, .ptr r 0 => match s.h.get r with
      | some (.iter b pos) => if pos < b.size ∧ s.ro ≤ r then
          (let (c, w) := Utf8.decode b pos
           some (.tuple [.bool true, .int .i64 pos, .int .i32 c], { s with h := s.h.put r (some (.iter b (pos + w))) }))
        else if pos < b.size then none else some (.tuple [.bool false], s)
      | _ => none
    | _, _ => none
  | .dfr f args => match s.ev f with
    | .func g caps => some (.undef, { s with df := .call g (app (s.evs args) caps) :: s.df })
    | _ => none
  | .rcv => some (.niliface, s)
  | .fail => none

def wanted (s : St) : Option (Nat × Bool) → Option Bool
  | none => some true
  | some (t, b) => match s.e.get t with
    | some (.bool c) => some (b == c)
    | some (.tuple []) => some false
    | _ => none

/-- The object that a place, a map or a slice's right to grow lies in. -/
def objOf : AV → Option Nat
  | .ptr r _ => some r
  | .vptr _ r _ _ _ => some r
  | .map r => some r
  | .slice _ _ (.chain c _) => some c
  | .vec _ r _ _ _ => some r
  | _ => none
/-- What an operation is about. -/
def about : AOp → Option X
  | .ldH _ _ x => some x
  | .ldO _ _ x => some x
  | .stH _ x _ => some x
  | .mlen _ x => some x
  | .lku _ _ _ _ _ m _ => some m
  | .mup _ _ m _ _ => some m
  | .app _ _ _ _ d _ => some d
  | _ => none
def apartAll (s : St) (r : Nat) : List X → Bool
  | [] => true
  | x :: xs => (match objOf (s.ev x) with
    | some q => !Nat.beq q r
    | none => true) && apartAll s r xs
def apOk (s : St) (o : AOper) : Bool :=
  match o.ap with
  | [] => true
  | xs => match about o.op with
    | none => false
    | some y => match objOf (s.ev y) with
      | none => true
      | some r => apartAll s r xs

def stepO (call : Call) (o : AOper) (s : St) : Option St :=
  match wanted s o.guard with
  | none => none
  | some false => s.put o.dst (.tuple [])
  | some true => bif !apOk s o then none else match step call o.op s with
    | none => none
    | some (v, s) => match o.op with
      | .lal .. => some s
      | .lbx .. => some s
      | _ => s.put o.dst v

def runOps (call : Call) : List AOper → St → Option St
  | [], s => some s
  | o :: os, s => match stepO call o s with
    | none => none
    | some s => runOps call os s

/-- A round, again and again. -/
def rounds (f : St → Option (Out × St)) : Nat → St → Option (Out × St)
  | 0, _ => none
  | n + 1, s => match f s with
    | some (.norm, s) => rounds f n s
    | r => r

def exec (call : Call) (n : Nat) : ACode → St → Option (Out × St)
  | .skip, s => some (.norm, s)
  | .region m ops, s => match runOps call ops { s with rb := s.nx, nx := s.nx + m } with
    | none => none
    | some s => some (.norm, s)
  | .seq a b, s => match exec call n a s with
    | some (.norm, s) => exec call n b s
    | r => r
  | .cond x a b, s => match s.ev x with
    | .bool true => exec call n a s
    | .bool false => exec call n b s
    | _ => none
  | .block id c, s => match exec call n c s with
    | some (.exit i, s) => some (bif Nat.beq i id then .norm else .exit i, s)
    | r => r
  | .loop keep outs _ c, s => match rounds (fun s => exec call n c (s.keepO keep)) n s with
    | none => none
    | some (o, s) => some (o, s.keepO outs)
  | .exit id, s => some (.exit id, s)
  | .ret, s => some (.ret, s)
  | .keep l c, s => exec call n c (s.keep l)
  | .rangeF ps A B aA aB f, s => match s.ev f with
    | .func g caps =>
      match call (eOf g) (.yield (s.nx + 1) :: caps) ⟨(s.h.put s.nx (some (.dblk true))).put (s.nx + 1) (some (.loop 0 ps (clean s.e) A B aA aB 0)), s.nx + 2, s.ro⟩ with
      | none => none
      | some (_, hp) => match hp.h.get (s.nx + 1) with
        | some (.loop f1 p1 e1 A1 B1 a1 b1 0) =>
          some (.norm, { s with h := hp.h.put (s.nx + 1) (some (.loop f1 p1 e1 A1 B1 a1 b1 2)), nx := hp.nx, df := .mark s.nx :: s.df })
        | _ => none
    | _ => none
  | .fail, _ => none

def result (s : St) : ARes → Option AV
  | .tmp t => some (noL (s.ev (.t t)))
  | .cell t agg n => match s.ev (.t t) with
    | .lptr d off g => match s.e.get d with
      | some (.box g' cs) => bif Nat.beq g g' then part agg n off cs else none
      | _ => none
    | .ptr r off => match s.h.get r with
      | some (.box cs) => part agg n 0 (dp off cs)
      | _ => none
    | _ => none
def results (s : St) (rs : List ARes) : Option AV :=
  match mapO (result s) rs with
  | none => none
  | some [v] => some v
  | some vs => some (.tuple vs)

/-- The deferred calls, the last first; what they hand back is dropped. -/
def runDf (callD : FuncId → List AV → Hp → Option Hp) : List Df → Hp → Option Hp
  | [], hp => some hp
  | .call f args :: ds, hp => match callD f args hp with
    | none => none
    | some hp => runDf callD ds hp
  | .mark r :: ds, hp => match hp.h.get r with
    | some (.dblk true) => bif Nat.ble hp.ro r then runDf callD ds { hp with h := hp.h.put r (some (.dblk false)) } else none
    | _ => none

abbrev Tab := FuncId → Option AFunc

/-- A deferred call of a handler: nobody panics. -/
def callD (C : Tab) (call : Call) (n : Nat) (f : FuncId) (args : List AV) (hp : Hp) : Option Hp :=
  match C f with
  | none => none
  | some fn =>
    bif Nat.beq (len args) fn.np && fn.handler then
      match exec call n fn.body ⟨Tr.nil.ofList 0 args, hp.h, hp.nx, hp.nx, hp.ro, []⟩ with
      | none => none
      | some (.exit _, _) => none
      | some (_, s) => match s.df, results s fn.res with
        | [], some _ => some ⟨s.h, s.nx, s.ro⟩
        | _, _ => none
    else none

/-- A loop's body, called by its yield. -/
def callY (call : Call) (n : Nat) (l : Nat) (args : List AV) (hp : Hp) : Option (AV × Hp) :=
  match hp.h.get l with
  | some (.loop _ ps e _ _ aA aB 0) => bif Nat.ble hp.ro l && Nat.beq (len ps) (len args) then
      match exec call n aA ⟨putArgs e ps args, hp.h, hp.nx, hp.nx, hp.ro, []⟩ with
      | some (.norm, s1) => match s1.h.get l with
        | some (.loop f1 p1 e1 A1 B1 a1 b1 0) => match exec call n aB { s1 with h := s1.h.put l (some (.loop f1 p1 e1 A1 B1 a1 b1 1)) } with
          | some (.norm, s2) => match s2.h.get l with
            | some (.loop f2 p2 e2 A2 B2 a2 b2 1) => some (.bool true, ⟨s2.h.put l (some (.loop f2 p2 e2 A2 B2 a2 b2 0)), s2.nx, s2.ro⟩)
            | _ => none
          | _ => none
        | _ => none
      | _ => none
    else none
  | _ => none

/-- A function of the table. -/
def callF (C : Tab) (call : Call) (n : Nat) (f : FuncId) (args : List AV) (hp : Hp) : Option (AV × Hp) :=
  match C f with
  | none => none
  | some fn =>
    bif Nat.beq (len args) fn.np && !fn.handler then
      match exec call n fn.body ⟨Tr.nil.ofList 0 args, hp.h, hp.nx, hp.nx, hp.ro, []⟩ with
      | none => none
      | some (.exit _, _) => none
      | some (_, s) => match runDf (callD C call n) s.df ⟨s.h, s.nx, s.ro⟩ with
        | none => none
        | some hp => match results { s with h := hp.h, nx := hp.nx } fn.res with
          | none => none
          | some v => some (v, hp)
    else none

def callN (C : Tab) (nat : FuncId → Option Call) : Nat → Call
  | 0, _, _, _ => none
  | n + 1, f, args, hp =>
    bif Nat.ble ycode f then
      (bif Nat.beq ((f - ycode) % 2) 0 then callY (callN C nat n) n ((f - ycode) / 2) args hp else callF C (callN C nat n) n ((f - ycode) / 2) args hp)
    else match nat f with
      | some g => g f args hp
      | none => callF C (callN C nat n) n f args hp
end Go.Proofs.YtohncbgkiojlnaaGreatDoor.Am
