/- More operations that only look. -/
import Derived.Test.YtohncbgkiojlnaaGreatDoorAm8
import Derived.StringKeys
set_option linter.unusedVariables false
namespace Go.Proofs.YtohncbgkiojlnaaGreatDoor.Am
open Go.RowKit (Below)

section
variable {P : Program} {F0 : Lab → Option HObj} {N : Nat} {w0 : World} {g : G} {F : Lab → Option HObj} {s s' : St} {a : Act} {w : World}

theorem eval_of {x : Operand} {x' : X} (hx : cX x = some x') (h : Rel F0 N w0 g F s a w) : VX g s.e a.tmps (s.ev x') (a.eval x) := cX_sound (P := default) hx h.er
theorem eval_int {x : Operand} {x' : X} (hx : cX x = some x') (h : Rel F0 N w0 g F s a w) {k : IntKind} {n : Int} (e : s.ev x' = .int k n) : a.eval x = .int k n := by
  have k1 := eval_of hx h
  rw [e] at k1
  generalize a.eval x = u at k1
  cases k1; rfl
theorem eval_idx {x : Operand} {x' : X} (hx : cX x = some x') (h : Rel F0 N w0 g F s a w) {n : Int} (e : s.idx x' = some n) : ∃ k, a.eval x = .int k n := by
  simp only [St.idx] at e
  split at e <;> try contradiction
  rename_i k m hm
  simp only [Option.some.injEq] at e; subst e
  exact ⟨k, eval_int hx h hm⟩
theorem eval_str {x : Operand} {x' : X} (hx : cX x = some x') (h : Rel F0 N w0 g F s a w) {b : ByteArray} (e : s.ev x' = .str b) : a.eval x = .string b := by
  have k1 := eval_of hx h
  rw [e] at k1
  generalize a.eval x = u at k1
  cases k1; rfl
theorem eval_bool {x : Operand} {x' : X} (hx : cX x = some x') (h : Rel F0 N w0 g F s a w) {b : Bool} (e : s.ev x' = .bool b) : a.eval x = .bool b := by
  have k1 := eval_of hx h
  rw [e] at k1
  generalize a.eval x = u at k1
  cases k1; rfl

theorem guard_int (op : BinOp) (t : TypeId) (x y : Operand) (k : IntKind) (n : Int) (v : Value) : (eqGuard op t x y (.int k n) v).run P w = .ok () w := by
  unfold eqGuard
  cases op <;> simp
theorem guard_str (op : BinOp) (t : TypeId) (x y : Operand) (b : ByteArray) (v : Value) : (eqGuard op t x y (.string b) v).run P w = .ok () w := by
  unfold eqGuard
  cases op <;> simp
theorem guard_bool (op : BinOp) (t : TypeId) (x y : Operand) (b : Bool) (v : Value) : (eqGuard op t x y (.bool b) v).run P w = .ok () w := by
  unfold eqGuard
  cases op <;> simp

theorem intOp_run {op : BinOp} {t : TypeId} {k : IntKind} {x y : Int} {v : AV} (h : intOp op k x y = some v) :
    ∃ u, (Go.binOp op t (.int k x) (.int k y)).run P w = .ok u w ∧ VR g v u := by
  cases op <;> simp only [intOp] at h
  case quo =>
    split at h <;> try contradiction
    rename_i hy
    simp only [Option.some.injEq] at h; subst h
    exact ⟨_, by simp [Go.binOp, Op.intDiv, hy], .int _ _⟩
  case rem =>
    split at h <;> try contradiction
    rename_i hy
    simp only [Option.some.injEq] at h; subst h
    exact ⟨_, by simp [Go.binOp, Op.intDiv, hy], .int _ _⟩
  all_goals try contradiction
  all_goals (simp only [Option.some.injEq] at h; subst h)
  case add => exact ⟨_, by simp [Go.binOp, Op.intArith], .int _ _⟩
  case sub => exact ⟨_, by simp [Go.binOp, Op.intArith], .int _ _⟩
  case mul => exact ⟨_, by simp [Go.binOp, Op.intArith], .int _ _⟩
  case and => exact ⟨_, by simp [Go.binOp, Op.intBits], .int _ _⟩
  case or => exact ⟨_, by simp [Go.binOp, Op.intBits], .int _ _⟩
  case xor => exact ⟨_, by simp [Go.binOp, Op.intBits], .int _ _⟩
  case andNot => exact ⟨_, by simp [Go.binOp, Op.intBits], .int _ _⟩
  case eql => exact ⟨_, by simp [Go.binOp, Op.intCmp], .bool _⟩
  case neq => exact ⟨_, by simp [Go.binOp, Op.intCmp], .bool _⟩
  case lss => exact ⟨_, by simp [Go.binOp, Op.intCmp], .bool _⟩
  case leq => exact ⟨_, by simp [Go.binOp, Op.intCmp], .bool _⟩
  case gtr => exact ⟨_, by simp [Go.binOp, Op.intCmp], .bool _⟩
  case geq => exact ⟨_, by simp [Go.binOp, Op.intCmp], .bool _⟩

theorem bytesLess_eq (a b : List UInt8) : Op.bytesLess a b = Am.bytesLess a b := by
  induction a generalizing b with
  | nil => cases b <;> rfl
  | cons x xs ih => cases b <;> simp [Op.bytesLess, Am.bytesLess, ih]

theorem strOp_run {op : BinOp} {t : TypeId} {x y : ByteArray} {v : AV} (h : strOp op x y = some v) :
    ∃ u, (Go.binOp op t (.string x) (.string y)).run P w = .ok u w ∧ VR g v u := by
  cases op <;> simp only [strOp] at h
  case add =>
    split at h <;> try contradiction
    rename_i hy
    simp only [Option.some.injEq] at h; subst h
    exact ⟨_, by simp only [Go.binOp, Op.stringOp]; rw [if_neg hy]; rfl, .str _⟩
  all_goals try contradiction
  all_goals (simp only [Option.some.injEq] at h; subst h)
  all_goals exact ⟨_, by simp [Go.binOp, Op.stringOp, ByteArray.toList_eq, bytesLess_eq], .bool _⟩

theorem binOp_run {op : BinOp} {t : TypeId} {x y : Operand} {p q : AV} {up uq : Value} {v : AV} (hp : VR g p up) (hq : VR g q uq) (h : Am.binOp op p q = some v) :
    ∃ u, (Go.binOp op t up uq).run P w = .ok u w ∧ (eqGuard op t x y up uq).run P w = .ok () w ∧ VR g v u := by
  unfold Am.binOp at h
  split at h <;> try contradiction
  · cases hp; cases hq
    rename_i k n l m
    split at h
    · simp only [shiftOp] at h
      split at h <;> try contradiction
      rename_i hm
      simp only [Option.some.injEq] at h; subst h
      exact ⟨_, by simp [Go.binOp, Op.shift, hm], guard_int .., .int _ _⟩
    · simp only [shiftOp] at h
      split at h <;> try contradiction
      rename_i hm
      simp only [Option.some.injEq] at h; subst h
      exact ⟨_, by simp [Go.binOp, Op.shift, hm], guard_int .., .int _ _⟩
    · split at h <;> try contradiction
      rename_i hkl
      subst hkl
      obtain ⟨u, h1, h2⟩ := intOp_run (P := P) (g := g) (w := w) (t := t) h
      exact ⟨u, h1, guard_int .., h2⟩
  · cases hp; cases hq
    obtain ⟨u, h1, h2⟩ := strOp_run (P := P) (g := g) (w := w) (t := t) h
    exact ⟨u, h1, guard_str .., h2⟩

theorem yields_bin {o : Oper} {op : BinOp} {t yt : TypeId} {x y : Operand} {x' y' : X} (ho : o.op = .binOp op t x y yt) (hx : cX x = some x') (hy : cX y = some y') (h : Rel F0 N w0 g F s a w)
    {v : AV} (hv : Am.binOp op (s.ev x') (s.ev y') = some v) : Yields P o g s a w v := by
  have k1 := eval_of hx h
  have k2 := eval_of hy h
  have p1 : isPlace (s.ev x') = false := by
    cases he : s.ev x' <;> rw [he] at hv <;> simp_all [Am.binOp, isPlace]
  have p2 : isPlace (s.ev y') = false := by
    cases he : s.ev y' <;> rw [he] at hv <;> first
      | rfl
      | (cases he' : s.ev x' <;> rw [he'] at hv <;> simp [Am.binOp] at hv)
  obtain ⟨u, h1, h2, h3⟩ := binOp_run (P := P) (w := w) (t := t) (x := x) (y := y) (k1.plain p1) (k2.plain p2) hv
  exact ⟨u, by simp [execOp, ho, h1, h2], VX.of_plain h3.place h3⟩

theorem yields_eqb {o : Oper} {op : BinOp} {t yt : TypeId} {x y : Operand} {x' y' : X} {neq : Bool} (ho : o.op = .binOp op t x y yt) (hop : op = (if neq then .neq else .eql)) (ht : P.underlying t = some .bool)
    (hx : cX x = some x') (hy : cX y = some y') (h : Rel F0 N w0 g F s a w) {p q : Bool} (h1 : s.ev x' = .bool p) (h2 : s.ev y' = .bool q) :
    Yields P o g s a w (.bool (bif neq then !(p == q) else (p == q))) := by
  have e1 := eval_bool hx h h1
  have e2 := eval_bool hy h h2
  refine ⟨.bool (bif neq then !(p == q) else (p == q)), ?_, VR.bool _⟩
  simp only [execOp, ho, e1, e2, Sem.run_bind, guard_bool, Result.andThen_ok]
  have he : ∀ x y : Bool, (Op.equal t (.bool x) (.bool y)).run P w = .ok (x == y) w := by
    intro x y
    have key : ∀ d, (Op.equalIn (d + 1) t (.bool x) (.bool y)).run P w = .ok (x == y) w := by
      intro d
      simp only [Op.equalIn, Sem.run_bind, run_underlying ht, Result.andThen_ok, Sem.run_pure]
    exact key 9999
  cases neq <;> subst hop <;> simp [Go.binOp, he]

theorem yields_una {o : Oper} {op : UnOp} {t : TypeId} {x : Operand} {x' : X} (ho : o.op = .unOp op t x) (hx : cX x = some x') (h : Rel F0 N w0 g F s a w) {call : Call} {v : AV}
    (hs : step call (.una op x') s = some (v, s')) : Yields P o g s a w v ∧ s' = s := by
  simp only [step] at hs
  split at hs <;> try contradiction
  · rename_i k n he
    simp only [Option.some.injEq, Prod.mk.injEq] at hs; obtain ⟨rfl, rfl⟩ := hs
    have e := eval_int hx h he
    exact ⟨⟨_, by simp [execOp, ho, e, Op.unary, Op.intArith], VR.int _ _⟩, rfl⟩
  · rename_i b he
    simp only [Option.some.injEq, Prod.mk.injEq] at hs; obtain ⟨rfl, rfl⟩ := hs
    have e := eval_bool hx h he
    exact ⟨⟨_, by simp [execOp, ho, e, Op.unary], VR.bool _⟩, rfl⟩
  · rename_i k n he
    simp only [Option.some.injEq, Prod.mk.injEq] at hs; obtain ⟨rfl, rfl⟩ := hs
    have e := eval_int hx h he
    exact ⟨⟨_, by simp [execOp, ho, e, Op.unary, Op.intBits], VR.int _ _⟩, rfl⟩

theorem yields_cvi {o : Oper} {src dst : TypeId} {x : Operand} {x' : X} {k l : IntKind} (ho : o.op = .convert src dst x) (hsrc : P.underlying src = some (.int l)) (hdst : P.underlying dst = some (.int k))
    (hx : cX x = some x') (h : Rel F0 N w0 g F s a w) {j : IntKind} {n : Int} (hv : s.ev x' = .int j n) : Yields P o g s a w (.int k (k.wrap n)) := by
  have e := eval_int hx h hv
  exact ⟨_, by simp [execOp, ho, e, convert, run_underlying hsrc, run_underlying hdst, Conv.intToInt], VR.int _ _⟩
theorem yields_cvs {o : Oper} {src dst : TypeId} {x : Operand} {x' : X} (ho : o.op = .convert src dst x) (hsrc : P.underlying src = some .string) (hdst : P.underlying dst = some .string)
    (hx : cX x = some x') (h : Rel F0 N w0 g F s a w) {b : ByteArray} (hv : s.ev x' = .str b) : Yields P o g s a w (.str b) := by
  have e := eval_str hx h hv
  exact ⟨_, by simp [execOp, ho, e, convert, run_underlying hsrc, run_underlying hdst], VR.str _⟩

theorem evs_len (s : St) (xs : List X) : (s.evs xs).length = xs.length := by induction xs <;> simp_all [St.evs]
theorem toldAll_eq {vs ws : List AV} (h : toldAll vs = some ws) : vs = ws := by
  induction vs generalizing ws with
  | nil => simp only [toldAll, mapO, Option.some.injEq] at h; exact h
  | cons v vs ih =>
    simp only [toldAll, mapO] at h
    split at h <;> try contradiction
    rename_i v' hv
    split at h <;> try contradiction
    rename_i vs' hvs
    simp only [Option.some.injEq] at h; subst h
    rw [ih hvs]
    congr 1
    cases v <;> simp_all [told]

theorem yields_fn {o : Oper} {f : FuncId} {caps : Array Operand} {cs : List X} (ho : o.op = .makeFunc (.func f) #[] caps) (hx : cXs caps.toList = some cs) (h : Rel F0 N w0 g F s a w)
    {vs : List AV} (hv : toldAll (s.evs cs) = some vs) : Yields P o g s a w (.func f vs) := by
  have k := cXs_sound (P := P) hx h.er
  rw [toldAll_eq hv] at k
  refine ⟨.func (.func f) #[] (caps.map a.eval), by simp [execOp, ho, Instr.makeFunc], ?_⟩
  have := VR.func (g := g) (f := f) k.1 k.2
  have e : (List.map a.eval caps.toList).toArray = caps.map a.eval := by apply Array.ext'; simp
  rw [e] at this
  exact this

theorem yields_ifc {o : Oper} {t : TypeId} {x : Operand} {x' : X} {d : TypeDesc} (ho : o.op = .makeInterface t x) (hd : P.underlying t = some d) (hn : ∀ ms, d ≠ .interface ms)
    (hx : cX x = some x') (h : Rel F0 N w0 g F s a w) {v : AV} (hv : told (s.ev x') = some v) : Yields P o g s a w (.iface t v) := by
  have k := (eval_of hx h).told hv
  refine ⟨.iface t (a.eval x), ?_, VR.iface k.2.1⟩
  simp only [execOp, ho, Sem.run_bind, Instr.makeInterface, run_underlying hd, Result.andThen_ok]
  cases d <;> first
    | rfl
    | exact absurd rfl (hn _)

theorem yields_ext {o : Oper} {i : Nat} {x : Operand} {x' : X} (ho : o.op = .extract x i) (hx : cX x = some x') (h : Rel F0 N w0 g F s a w) {vs : List AV} {v : AV}
    (he : s.ev x' = .tuple vs) (hv : nth vs i = some v) : Yields P o g s a w v := by
  have k := eval_of hx h
  rw [he] at k
  have k : VR g (.tuple vs) (a.eval x) := k
  generalize hu : a.eval x = u at k
  cases k
  rename_i us hl hh
  rw [nth_eq] at hv
  obtain ⟨u, h1, h2⟩ := VRs.get ⟨hl, hh⟩ hv
  exact ⟨u, by simp [execOp, ho, hu, Instr.extract, h1], VX.of_plain h2.place h2⟩

theorem agg_of {x : Operand} {x' : X} (hx : cX x = some x') (h : Rel F0 N w0 g F s a w) {cs : List AV} (he : s.ev x' = .agg cs) : ∃ us : Array Value, a.eval x = .agg us ∧ VRs g cs us.toList ∧ One us.toList := by
  have k := eval_of hx h
  rw [he] at k
  have k : VR g (.agg cs) (a.eval x) := k
  generalize a.eval x = u at k
  cases k with
  | @agg _ us hl hh h1 => exact ⟨us.toArray, rfl, ⟨hl, hh⟩, h1⟩

theorem yields_fld {o : Oper} {t : TypeId} {x : Operand} {x' : X} {i : Nat} {fs : Array Field} {f : Field} {d : TypeDesc} {ti : TypeInfo} (ho : o.op = .field t x i) (ht : P.underlying t = some (.struct fs)) (hf : fs[i]? = some f)
    (hd : P.underlying f.type = some d) (hi : P.info? f.type = some ti) (hx : cX x = some x') (h : Rel F0 N w0 g F s a w) {cs : List AV} {v : AV} (he : s.ev x' = .agg cs)
    (hv : Am.part (isAggD d) (bif isAggD d then ti.size else 1) f.offset cs = some v) : Yields P o g s a w v := by
  obtain ⟨us, e, k1, k2⟩ := agg_of hx h he
  obtain ⟨u, r1, r2⟩ := part_run (P := P) (w := w) hd hi k1 k2 hv
  refine ⟨u, ?_, VX.of_plain r2.place r2⟩
  simp [execOp, ho, e, Instr.field, run_underlying ht, hf, asAgg, r1]

theorem eval_idx' {x : Operand} {x' : X} (hx : cX x = some x') (h : Rel F0 N w0 g F s a w) {n : Int} (e : s.idx x' = some n) : ∃ k, a.eval x = .int k n := eval_idx hx h e

/-- A place moved on within its object. -/
theorem VX.shift {e : Tr AV} {tmps : Array Value} {v : AV} {u : Value} (h : VX g e tmps v u) (n : Nat) {v' : AV}
    (hv : v' = (match v with
      | .lptr d o g => .lptr d (o + n) g
      | .eptr cs => .eptr (dp n cs)
      | .ptr r o => .ptr r (o + n)
      | .vptr sz r ver i o => .vptr sz r ver i (o + n)
      | x => x)) (hk : match v with
      | .lptr .. => True | .eptr _ => True | .ptr .. => True | .vptr .. => True | _ => False) : 
    (∃ b o, u = ptrV b o ∧ VX g e tmps v' (ptrV b (o + n))) ∨ (∃ d o gen, v = .lptr d o gen) := by
  subst hv
  cases v <;> try contradiction
  case lptr d o gen => exact .inr ⟨d, o, gen, rfl⟩
  case ptr r o =>
    have h : VR g (.ptr r o) u := h
    cases h
    rename_i b x hl
    exact .inl ⟨b, o, rfl, VR.ptr hl⟩
  case eptr cs =>
    have h : VR g (.eptr cs) u := h
    cases h with
    | @eptr _ us b o hl hh h1 hf =>
    have m : VRs g (cs.drop n) (us.drop n) := VRs.drop ⟨hl, hh⟩ n
    refine .inl ⟨b, o, rfl, ?_⟩
    simp only [dp_eq]
    exact VR.eptr m.1 m.2 (h1.drop n) (fun i w hi => by
      rw [List.getElem?_drop] at hi
      rw [Nat.add_assoc]
      exact hf _ w hi)
  case vptr sz r ver i o =>
    have h : VR g (.vptr sz r ver i o) u := h
    cases h
    rename_i b cap hl
    refine .inl ⟨b, i * sz + o, rfl, ?_⟩
    have := VR.vptr (g := g) (sz := sz) (i := i) (off := o + n) hl
    rwa [← Nat.add_assoc] at this
end
end Go.Proofs.YtohncbgkiojlnaaGreatDoor.Am
