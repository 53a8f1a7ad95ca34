/- From the loaded program's code to the abstract machine's. What it does not take it refuses ('none'). -/
import Derived.Test.YtohncbgkiojlnaaGreatDoorAm2
namespace Go.Proofs.YtohncbgkiojlnaaGreatDoor.Am

mutual
def ofV : Nat → Value → Option AV
  | 0, _ => none
  | f + 1, v => match v with
    | .bool b => some (.bool b)
    | .int k n => some (.int k n)
    | .string s => some (.str s)
    | .pointer none => some .nilptr
    | .slice none 0 0 => some (.slice 0 [] .nil)
    | .map none => some .nilmap
    | .nilFunc => some .nilfunc
    | .func (.func g) ⟨[]⟩ ⟨[]⟩ => some (.func g [])
    | .nilIface => some .niliface
    | .iface t w => match ofV f w with
      | some w => some (.iface t w)
      | none => none
    | .agg cs => match ofVs f cs.toList with
      | some cs => bif allOne cs then some (.agg cs) else none
      | none => none
    | _ => none
def ofVs : Nat → List Value → Option (List AV)
  | 0, _ => none
  | _ + 1, [] => some []
  | f + 1, v :: vs => match ofV f v with
    | none => none
    | some v => match ofVs f vs with
      | none => none
      | some vs => some (v :: vs)
end
def ofC (v : Value) : Option AV := ofV 4096 v

/-- What is given beside the code: which slots are places of the frame, how callees are called, which rows are written, what lives at the loops' heads. -/
structure LoopHint where
  ins : Option (List Nat)
  outs : Option (List Nat)
  sh : List (Nat × Sh)
structure Hint where
  nt : Nat
  loc : List Nat
  vecs : List Nat
  modes : List (Nat × Nat)
  keeps : List LoopHint

def mem (n : Nat) : List Nat → Bool
  | [] => false
  | m :: ms => Nat.beq n m || mem n ms
def look (n : Nat) : List (Nat × Nat) → Option Nat
  | [] => none
  | (a, b) :: r => bif Nat.beq n a then some b else look n r

section
variable (P : Program) (modeOf : FuncId → Nat) (H : Hint)

def cX : Operand → Option X
  | .tmp t => some (.t t)
  | .const v => match ofC v with
    | some a => some (.c a)
    | none => none
  | .func f => some (.c (.func f []))
  | .global _ => none
def cXs (xs : List Operand) : Option (List X) := mapO cX xs
def cO : Option Operand → Option (Option X)
  | none => some none
  | some x => match cX x with
    | some x => some (some x)
    | none => none

def isAggD : TypeDesc → Bool
  | .struct _ => true
  | .array _ _ => true
  | _ => false
def szT (t : TypeId) : Option Nat := (P.info? t).map (·.size)
def isConst' : Operand → Bool
  | .const _ => true
  | _ => false
def aggT (t : TypeId) : Option Bool := (P.underlying t).map isAggD
def zeroT (t : TypeId) : Option AV := ((P.info? t).bind (·.zero)).bind ofC

/-- The place of the frame that an address comes of, looked up among the operations ahead. -/
def root (ops : List Oper) : Nat → Operand → Option Nat
  | 0, _ => none
  | f + 1, .tmp t => bif mem t H.loc then some t else
    match ops.find? (fun o => o.dst == some t) with
    | some o => match o.op with
      | .fieldAddr _ x _ => root ops f x
      | .nilCheck x => root ops f x
      | .move x => root ops f x
      | .indexAddr t' x _ => match P.underlying t' with
        | some (.array _ _) => root ops f x
        | _ => none
      | _ => none
    | none => none
  | _, _ => none
/-- Does an address come of an element of a slice? -/
def elemental (ops : List Oper) : Nat → Operand → Bool
  | 0, _ => false
  | f + 1, .tmp t => match ops.find? (fun o => o.dst == some t) with
    | some o => match o.op with
      | .fieldAddr _ x _ => elemental ops f x
      | .nilCheck x => elemental ops f x
      | .indexAddr t' x _ => match P.underlying t' with
        | some (.array _ _) => elemental ops f x
        | some (.slice _) => true
        | _ => false
      | _ => false
    | none => false
  | _, _ => false

mutual
/-- The kinds of a plain type's cells, in order. -/
def shapeT (P : Program) : Nat → TypeId → Option (List K)
  | 0, _ => none
  | f + 1, t => match P.underlying t with
    | some .bool => some [.b]
    | some (.int _) => some [.i]
    | some .string => some [.s]
    | some (.struct fs) => shapeFs P f 0 fs.toList
    | some (.array n e) => match shapeT P f e, P.info? e with
      | some ks, some i => bif Nat.beq (len ks) i.size then some ((rep n ks).flatten) else none
      | _, _ => none
    | _ => none
def shapeFs (P : Program) : Nat → Nat → List Field → Option (List K)
  | 0, _, _ => none
  | _ + 1, _, [] => some []
  | f + 1, off, x :: xs => bif x.name != "_" && Nat.beq x.offset off then
      match shapeT P f x.type, P.info? x.type with
      | some ks, some i => bif Nat.beq (len ks) i.size then (match shapeFs P f (off + len ks) xs with
        | some ls => some (app ks ls)
        | none => none) else none
      | _, _ => none
    else none
end

def cOp (draw : Bool) (ops : List Oper) (k : Nat) (o : Oper) : Option AOp :=
  match o.op with
  | .move x | .assign x => (cX x).map .mov
  | .pick c a b => do some (.pick (← cX c) (← cX a) (← cX b))
  | .alloc t => do
    let z := (← zeroT P t).cells
    match o.dst with
    | some d => some (bif mem d H.loc then .lal d z else .hal k z)
    | none => none
  | .box t x => do
    let n ← szT P t
    let x ← cX x
    match o.dst with
    | some d => some (bif mem d H.loc then .lbx d n x else .hbx k n x)
    | none => none
  | .build t ps => do
    let z := (← zeroT P t).cells
    match ← P.underlying t with
    | .struct fs => do
      let _ ← mapO (fun (f : Field) => szT P f.type) fs.toList
      let qs ← mapO (fun (p : Nat × Operand) => do
        let f ← fs[p.1]?
        some (f.offset, ← szT P f.type, ← cX p.2)) ps.toList
      some (.bld z qs)
    | _ => none
  | .buildSlice t n ps => do
    let .slice e ← P.underlying t | none
    let sz ← szT P e
    let z ← zeroT P e
    let qs ← mapO (fun (p : Nat × Operand) => do some (p.1, ← cX p.2)) ps.toList
    bif Nat.blt 0 sz && Nat.ble (n * sz) 16777216 && Nat.beq (len z.cells) sz then some (.lit sz n z qs) else none
  | .load t a => do
    let g ← aggT P t
    let n0 ← szT P t
    let n := bif g then n0 else 1
    let x ← cX a
    match root P H ops 64 a with
    | some d => some (.ldL d g n x)
    | none => some (bif draw then (bif elemental P ops 64 a then .ldE g n x else .ldO g n x) else .ldH g n x)
  | .store t a v => do
    let n ← szT P t
    let x ← cX a
    let v ← cX v
    bif Nat.beq n 0 then none else match root P H ops 64 a with
    | some d => some (.stL d n x v)
    | none => some (.stH n x v)
  | .nilCheck x => (cX x).map (.nilck (root P H ops 64 x))
  | .binOp op t x0 y0 _ => do
    let x ← cX x0
    let y ← cX y0
    match op with
    | .eql | .neq =>
      let neq := op matches .neq
      match ← P.underlying t with
      | .int _ | .string => some (.bin op x y)
      | .bool => some (.eqb neq x y)
      | .struct _ => do
        let ks ← shapeT P 64 t
        bif !(P.stoodInHeld t) && !(P.eqGuardType P.depth t) then some (.eqp ks neq x y) else none
      | .array _ _ => do
        let ks ← shapeT P 64 t
        bif !(P.eqGuardType P.depth t) then some (.eqp ks neq x y) else none
      | .pointer _ => some (.eqn .p neq x y)
      | .map _ _ => some (.eqn .m neq x y)
      | .func .. => some (.eqn .f neq x y)
      | .slice _ => some (.eqn .s neq x y)
      | .interface _ => bif isConst' x0 || isConst' y0 then some (.eqn .i neq x y) else none
      | _ => none
    | _ => match ← P.underlying t with
      | .int _ | .string => some (.bin op x y)
      | _ => none
  | .unOp op _ x => do some (.una op (← cX x))
  | .convert src dst x => do
    let x ← cX x
    match ← P.underlying src, ← P.underlying dst with
    | .int _, .int k => some (.cvi k x)
    | .string, .string => some (.cvs x)
    | .string, .slice e => match ← P.underlying e with
      | .int .u8 => some (.s2b x)
      | _ => none
    | .slice e, .string => match ← P.underlying e with
      | .int .u8 => some (.b2s x)
      | _ => none
    | _, _ => none
  | .makeInterface t x => match P.underlying t with
    | some (.interface _) => none
    | some _ => do some (.ifc t (← cX x))
    | none => none
  | .makeFunc (.func f) ⟨[]⟩ caps => do some (.fn f (← cXs caps.toList))
  | .fieldAddr t x f => do
    let .struct fs ← P.underlying t | none
    let f ← fs[f]?
    let n ← szT P f.type
    bif Nat.beq n 0 then none else some (.fad (root P H ops 64 x) f.offset (← cX x))
  | .field t x f => do
    let .struct fs ← P.underlying t | none
    let f ← fs[f]?
    let g ← aggT P f.type
    let n0 ← szT P f.type
    some (.fld g (bif g then n0 else 1) f.offset (← cX x))
  | .indexAddr t x0 i => do
    let x ← cX x0
    let i ← cX i
    match ← P.underlying t with
    | .slice e => do some (.iad (← szT P e) x i)
    | .array n e => do some (.iaa (root P H ops 64 x0) n (← szT P e) x i)
    | _ => none
  | .index t x i => do
    let x ← cX x
    let i ← cX i
    match ← P.underlying t with
    | .string => some (.idxs x i)
    | .array n e => do
      let g ← aggT P e
      let n0 ← szT P e
      bif g || Nat.beq n0 1 then some (.idxa g n0 n x i) else none
    | _ => none
  | .slice t x lo hi mx => match P.underlying t with
    | some .string => do some (.sli 0 (← cX x) (← cO lo) (← cO hi) (← cO mx))
    | some (.slice e) => do
      let n0 ← szT P e
      bif Nat.beq n0 0 || (mx.isSome && !hi.isSome) then none else some (.sli n0 (← cX x) (← cO lo) (← cO hi) (← cO mx))
    | _ => none
  | .lookup t m key ok => do
    let .map kt e ← P.underlying t | none
    let ks ← shapeT P 64 kt
    let g ← aggT P kt
    bif !(P.stoodInHeld kt) then some (.lku ks (!g) draw (← zeroT P e) ok (← cX m) (← cX key)) else none
  | .mapUpdate t m key v => do
    let .map kt _ ← P.underlying t | none
    let ks ← shapeT P 64 kt
    let g ← aggT P kt
    bif !(P.stoodInHeld kt) then some (.mup ks (!g) (← cX m) (← cX key) (← cX v)) else none
  | .makeMap _ none => some (.mkm k)
  | .makeSlice t l c => do
    let .slice e ← P.underlying t | none
    let i ← P.info? e
    let z ← zeroT P e
    bif Nat.blt 0 i.size then some (.mks k i.size i.bytes z (match o.dst with | some d => mem d H.vecs | none => false) (← cX l) (← cX c)) else none
  | .range t x => match P.underlying t with
    | some .string => do some (.rng k (← cX x))
    | _ => none
  | .next x s => do some (.nxt s (← cX x))
  | .typeAssert x _ t ok => match P.underlying t with
    | some (.interface _) => none
    | some _ => do some (.tas t (← zeroT P t) ok (← cX x))
    | none => none
  | .extract x i => do some (.ext i (← cX x))
  | .call c => match c.callee with
    | .builtin .len => do
      let x ← cX (← c.args[0]?)
      match ← P.underlying (← c.argTypes[0]?) with
      | .string => some (.len true x)
      | .slice _ => some (.len false x)
      | .map _ _ => some (.mlen draw x)
      | _ => none
    | .builtin .append => do
      let .slice e ← P.underlying (← c.argTypes[0]?) | none
      let i ← P.info? e
      let z ← zeroT P e
      let t1 ← P.underlying (← c.argTypes[1]?)
      match t1 with
      | .slice _ | .string =>
        bif Nat.blt 0 i.size && Nat.beq (len z.cells) i.size && Nat.beq c.args.size 2 && Nat.beq c.argTypes.size 2 then
          some (.app k i.size i.bytes (match o.dst with | some d => mem d H.vecs | none => false) (← cX (← c.args[0]?)) (← cX (← c.args[1]?)))
        else none
      | _ => none
    | .builtin .min => do
      let .int _ ← P.underlying (← c.argTypes[0]?) | none
      some (.minmax false (← cXs c.args.toList))
    | .builtin .max => do
      let .int _ ← P.underlying (← c.argTypes[0]?) | none
      some (.minmax true (← cXs c.args.toList))
    | .builtin .recover => some .rcv
    | .value (.func f) => do
      let m := match o.dst.bind (fun d => look d H.modes) with
        | some m => m
        | none => modeOf f
      some (.call m f (← cXs c.args.toList))
    | .value (.tmp t) => do
      let m := match o.dst.bind (fun d => look d H.modes) with
        | some m => m
        | none => 1
      some (.cav m (.t t) (← cXs c.args.toList))
    | _ => none
  | .defer c => match c.callee with
    | .value f => do some (.dfr (← cX f) (← cXs c.args.toList))
    | _ => none
  | _ => none

def allocates : AOp → Bool
  | .hal .. => true | .hbx .. => true | .app .. => true | .mks .. => true | .mkm .. => true | .rng .. => true
  | _ => false

/-- What has been proved of. -/
def provenOp : AOp → Bool
  | .eqp .. => false
  | .mlen .. => false
  | .call m _ _ => Nat.blt m 2
  | .cav m _ _ => Nat.blt m 2
  | .app _ _ _ vec _ _ => !vec
  | .mks .. => false
  | .mkm .. => false
  | .lku .. => false
  | .mup .. => false
  | .nxt b _ => b
  | .rcv => false
  | _ => true

mutual
/-- How a type's cells look, in order. -/
def cellSh (P : Program) : Nat → TypeId → List Sh0
  | 0, _ => []
  | f + 1, t => match P.underlying t with
    | some .bool => [.b]
    | some (.int k) => [.i k]
    | some .string => [.s]
    | some (.slice _) => [.sl]
    | some (.struct fs) => cellShs P f fs.toList
    | some (.array n e) => (rep n (cellSh P f e)).flatten
    | _ => [.any]
def cellShs (P : Program) : Nat → List Field → List Sh0
  | 0, _ => []
  | _ + 1, [] => []
  | f + 1, x :: xs => app (cellSh P f x.type) (cellShs P f xs)
end
def shT1 (P : Program) (t : TypeId) : Sh1 := match P.underlying t with
  | some .bool => .o .b
  | some (.int k) => .o (.i k)
  | some .string => .o .s
  | some (.slice _) => .o .sl
  | some (.struct _) => .agg (cellSh P 64 t)
  | some (.array _ _) => .agg (cellSh P 64 t)
  | _ => .o .any
def shT (P : Program) (t : TypeId) : Sh := match P.underlying t with
  | some (.tuple ts) => .tup (ts.toList.map (shT1 P))
  | _ => .v (shT1 P t)
def opShape (P : Program) (o : Oper) : Sh := match o.op with
  | .load t _ => shT P t
  | .call _ => shT P o.type
  | .lookup .. => shT P o.type
  | .index .. => shT P o.type
  | .typeAssert .. => shT P o.type
  | .indexAddr t _ _ => match P.underlying t with
    | some (.slice e) => shT P e
    | _ => .any
  | _ => .any

def cGuard (all : List Oper) : Option (Nat × Bool) → Option (Option (Nat × Bool))
  | none => some none
  | some (j, b) => match nth all j with
    | none => none
    | some oj => match oj.dst with
      | none => none
      | some d => some (some (d, b))
def cOps (draw : Bool) (all : List Oper) : Nat → List Oper → Option (Nat × List AOper)
  | k, [] => some (k, [])
  | k, o :: os => do
    let op := match cOp P modeOf H draw all k o with
      | some op => bif provenOp op then op else .fail
      | none => .fail
    let g ← cGuard all o.guard
    let (m, r) ← cOps draw all (bif allocates op then k + 1 else k) os
    bif (match o.dst with | some d => Nat.blt d H.nt | none => true) then some (m, { dst := o.dst, guard := g, ap := [], op, sh := opShape P o } :: r) else none

end

/-! ### Operations that may change places -/
def xSlots : X → List Nat
  | .t i => [i]
  | .c _ => []
def xsSlots : List X → List Nat
  | [] => []
  | x :: xs => app (xSlots x) (xsSlots xs)
def oSlots : Option X → List Nat
  | none => []
  | some x => xSlots x
/-- What is asked of the heap: nothing; told rows, boxes and maps are read ('r'; 'old' ones: 'o'); a new number alone ('a'); a chain grows ('c'); a call that makes new things alone ('q'); anything ('w'). -/
inductive HC where
  | n | r | o | a | c | q | w
def hc : AOp → HC
  | .ldH .. => .r | .ldO .. => .o
  | .mlen old _ => bif old then .o else .r
  | .lku _ _ old .. => bif old then .o else .r
  | .hal .. => .a | .hbx .. => .a | .mkm _ => .a | .mks .. => .a | .rng .. => .a
  | .app _ _ _ vec _ _ => bif vec then .w else .c
  | .stH .. => .w | .mup .. => .w | .nxt .. => .w | .dfr .. => .w
  | .call 0 .. => .r
  | .call 2 .. => .w
  | .call 3 .. => .w
  | .call 4 .. => .q
  | .call .. => .w
  | .cav 0 .. => .r
  | .cav 4 .. => .q
  | .cav .. => .w
  | _ => .n
def hcOk : HC → HC → Bool
  | .n, _ => true
  | _, .n => true
  | .r, .r => true | .r, .o => true | .o, .r => true | .o, .o => true
  | _, _ => false
def ins : AOp → List Nat
  | .mov x => xSlots x
  | .pick c a b => app (xSlots c) (app (xSlots a) (xSlots b))
  | .lal d _ => [d]
  | .lbx d _ x => d :: xSlots x
  | .hal .. => []
  | .hbx _ _ x => xSlots x
  | .bld _ ps => ps.flatMap fun p => xSlots p.2.2
  | .lit _ _ _ ps => ps.flatMap fun p => xSlots p.2
  | .ldL d _ _ x => d :: xSlots x
  | .ldE _ _ x => xSlots x
  | .ldH _ _ x => xSlots x
  | .ldO _ _ x => xSlots x
  | .stL d _ x v => d :: app (xSlots x) (xSlots v)
  | .stH _ x v => app (xSlots x) (xSlots v)
  | .nilck l x => app l.toList (xSlots x)
  | .bin _ x y => app (xSlots x) (xSlots y)
  | .eqb _ x y => app (xSlots x) (xSlots y)
  | .eqp _ _ x y => app (xSlots x) (xSlots y)
  | .eqn _ _ x y => app (xSlots x) (xSlots y)
  | .una _ x => xSlots x
  | .cvi _ x => xSlots x
  | .cvs x => xSlots x
  | .s2b x => xSlots x
  | .b2s x => xSlots x
  | .fn _ cs => xsSlots cs
  | .ifc _ x => xSlots x
  | .tas _ _ _ x => xSlots x
  | .ext _ x => xSlots x
  | .fld _ _ _ x => xSlots x
  | .fad l _ x => app l.toList (xSlots x)
  | .iad _ x i => app (xSlots x) (xSlots i)
  | .iaa l _ _ x i => app l.toList (app (xSlots x) (xSlots i))
  | .idxs x i => app (xSlots x) (xSlots i)
  | .idxa _ _ _ x i => app (xSlots x) (xSlots i)
  | .len _ x => xSlots x
  | .mlen _ x => xSlots x
  | .call _ _ as_ => xsSlots as_
  | .cav _ f as_ => app (xSlots f) (xsSlots as_)
  | .app _ _ _ _ s x => app (xSlots s) (xSlots x)
  | .mks _ _ _ _ _ l c => app (xSlots l) (xSlots c)
  | .sli _ x a b c => app (xSlots x) (app (oSlots a) (app (oSlots b) (oSlots c)))
  | .mkm _ => []
  | .lku _ _ _ _ _ m k => app (xSlots m) (xSlots k)
  | .mup _ _ m k v => app (xSlots m) (app (xSlots k) (xSlots v))
  | .minmax _ xs => xsSlots xs
  | .rng _ x => xSlots x
  | .nxt _ x => xSlots x
  | .dfr f as_ => app (xSlots f) (xsSlots as_)
  | .rcv => []
  | .fail => []
def outs (o : AOper) : List Nat :=
  match o.op with
  | .lal d _ => [d]
  | .lbx d _ _ => [d]
  | .stL d .. => match o.dst with
    | some t => [d, t]
    | none => [d]
  | _ => match o.dst with
    | some t => [t]
    | none => []
def insO (o : AOper) : List Nat :=
  match o.guard with
  | none => ins o.op
  | some (t, _) => t :: ins o.op
def apart : List Nat → List Nat → Bool
  | [], _ => true
  | a :: as_, bs => !mem a bs && apart as_ bs
def noPut : AOp → Bool
  | .lal .. => true
  | .lbx .. => true
  | _ => false
def plainO (a : AOper) : Bool := (match a.ap with | [] => true | _ => false) && (!noPut a.op || (match a.guard with | none => true | _ => false))
/-- Two operations that may change places: neither writes what the other names. -/
def swaps (a b : AOper) : Bool :=
  plainO a && plainO b && apart (outs a) (outs b) && apart (outs a) (insO b) && apart (outs b) (insO a) && hcOk (hc a.op) (hc b.op)

/-- Must the i-th operation stand ahead of the j-th, by the edges that bind in every mode? (the j-th's own row of bits) -/
def drawOk (before : List Nat) (ops : List AOper) : Bool :=
  (List.range (len ops)).all fun j =>
    match nth before j, nth ops j with
    | some b, some oj => (List.range j).all fun i => b.testBit i || (match nth ops i with
      | some oi => swaps oi oj
      | none => false)
    | _, _ => false

/-- The edges that bind in every mode lead back. -/
def edgesOk : Nat → List Oper → Bool
  | _, [] => true
  | i, o :: os => o.after.toList.all (fun e => !Region.binds .any e || Nat.blt e.on i) && edgesOk (i + 1) os

def isDfr : AOp → Bool
  | .dfr .. => true
  | _ => false

def noDfr : ACode → Bool
  | .region _ ops => ops.all fun o => !isDfr o.op
  | .seq a b => noDfr a && noDfr b
  | .cond _ a b => noDfr a && noDfr b
  | .block _ c => noDfr c
  | .loop _ _ _ c => noDfr c
  | .keep _ c => noDfr c
  | .rangeF .. => false
  | _ => true

section
variable (P : Program) (modeOf : FuncId → Nat) (H : Hint)
/-- The code; the loops take their rows of slots that live one after the other. -/
def cCode : Code → List LoopHint → Option (ACode × List LoopHint)
  | .skip, ks => some (.skip, ks)
  | .region _ ops draw, ks =>
    match cOps P modeOf H draw ops.toList 0 ops.toList with
    | none => none
    | some (m, r) => bif draw then (bif drawOk (Region.before ops).toList r && edgesOk 0 ops.toList && (P.follows .mixedOrders || !Region.departs ops) then some (.region m r, ks) else some (.fail, ks)) else some (.region m r, ks)
  | .seq a b, ks => match cCode a ks with
    | none => none
    | some (a, ks) => match cCode b ks with
      | none => none
      | some (b, ks) => some (.seq a b, ks)
  | .cond x a b, ks => match cX x, cCode a ks with
    | some x, some (a, ks) => match cCode b ks with
      | none => none
      | some (b, ks) => some (.cond x a b, ks)
    | _, _ => none
  | .block id c, ks => match cCode c ks with
    | none => none
    | some (c, ks) => some (.block id c, ks)
  | .loop c, ks =>
    let (k, ks) := match ks with
      | [] => ((⟨none, none, []⟩ : LoopHint), [])
      | k :: ks => (k, ks)
    match cCode c ks with
    | none => none
    | some (c, ks) => some (.loop k.ins k.outs k.sh c, ks)
  | .exit id, ks => some (.exit id, ks)
  | .ret, ks => some (.ret, ks)
  | .rangeFunc f ps A B, ks => match cX f, cCode A ks with
    | some x, some (aA, ks) => match cCode B ks with
      | none => none
      | some (aB, ks) => bif noDfr aA && noDfr aB && ps.toList.all (fun p => Nat.blt p H.nt) then some (.rangeF ps.toList A B aA aB x, ks) else some (.fail, ks)
    | _, _ => some (.fail, ks)
  | _, ks => some (.fail, ks)

def cRes : ResultVar → Option ARes
  | .tmp t => some (.tmp t)
  | .cell a t => do
    let g ← aggT P t
    let n0 ← szT P t
    some (.cell a g (bif g then n0 else 1))

def cFunc (f : Func) : Option AFunc := do
  let (b, _) ← cCode P modeOf H (← f.body) H.keeps
  let r ← mapO (cRes P) f.results.toList
  bif !(Nat.beq H.nt f.ntmps && Nat.ble (f.params.size + f.nfree) f.ntmps && (f.name != "runtime.NumGoroutine")) then none else some { np := f.params.size + f.nfree, body := b, res := r, loops := [], handler := false }

/-- A handler: the first thing that its body does is to recover. -/
def isRecover (o : Oper) : Option Nat :=
  match o.op, o.guard, o.dst with
  | .call c, none, some d => match c.callee with
    | .builtin .recover => some d
    | _ => none
  | _, _, _ => none
def pureOp : AOp → Bool
  | .lal .. => false
  | .lbx .. => false
  | .call .. => false
  | .cav .. => false
  | .dfr .. => false
  | _ => true
def cFuncH (f : Func) : Option AFunc :=
  match f.body with
  | some (.seq (.region _ ops false) rest) => match ops.toList with
    | o0 :: os => match isRecover o0, cOps P modeOf H false ops.toList 0 os, cCode P modeOf H rest H.keeps, mapO (cRes P) f.results.toList with
      | some d0, some (m, r), some (b, _), some res =>
        bif Nat.beq H.nt f.ntmps && Nat.ble (f.params.size + f.nfree) f.ntmps && (f.name != "runtime.NumGoroutine") && Nat.blt d0 H.nt && r.all (fun o => pureOp o.op) then
          some { np := f.params.size + f.nfree, body := .seq (.region m ({ dst := some d0, guard := none, ap := [], op := .rcv, sh := .any } :: r)) b, res, loops := [], handler := true }
        else none
      | _, _, _, _ => none
    | [] => none
  | _ => none
end
end Go.Proofs.YtohncbgkiojlnaaGreatDoor.Am
