/- The machine by continuations: what cannot be told apart from the text stands in nodes. -/
import Derived.Test.YtohncbgkiojlnaaGreatDoorAk1
set_option linter.unusedVariables false
set_option linter.unusedSimpArgs false
namespace Go.Proofs.YtohncbgkiojlnaaGreatDoor.Am

section
variable {α β : Type}
/-! ### Nodes -/
def br (b : Bool) (x y : Option α) : Option α := bif b then x else y
def need (b : Bool) (x : Option α) : Option α := bif b then x else none
def bnd (o : Option β) (k : β → Option α) : Option α := match o with
  | none => none
  | some x => k x
def dB (v : AV) (k : Bool → Option α) : Option α := match v with
  | .bool x => k x
  | _ => none
def dI (q : IntKind) (v : AV) (k : Int → Option α) : Option α := match v with
  | .int q' n => if q' = q then k n else none
  | _ => none
def dS (v : AV) (k : ByteArray → Option α) : Option α := match v with
  | .str x => k x
  | _ => none
def dL (v : AV) (k : Nat → List AV → Own → Option α) : Option α := match v with
  | .slice sz xs own => k sz xs own
  | _ => none
def dP (v : AV) (k : Nat → Nat → Option α) : Option α := match v with
  | .ptr r off => k r off
  | _ => none
def dG (v : AV) (k : List AV → Option α) : Option α := match v with
  | .agg cs => k cs
  | _ => none
def dT (v : AV) (k : List AV → Option α) : Option α := match v with
  | .tuple cs => k cs
  | _ => none
def dX (g : Nat) (v : AV) (k : List AV → Option α) : Option α := match v with
  | .box g' cs => bif Nat.beq g' g then k cs else none
  | _ => none
def dC (l : List AV) (k : AV → List AV → Option α) : Option α := match l with
  | c :: r => k c r
  | [] => none
def dN (l : List AV) (x : Option α) : Option α := match l with
  | [] => x
  | _ :: _ => none
def onOut (o : Out) (x : Option α) (y : Nat → Option α) : Option α := match o with
  | .ret => x
  | .exit i => y i
  | .norm => none
def hbx (o : Option HObj) (k : List AV → Option α) : Option α := match o with
  | some (.box cs) => k cs
  | _ => none

def dfK (d : List Df) (x : Option α) : Option α := match d with
  | [] => x
  | _ :: _ => none
abbrev Lp := Option (List Nat) → Option (List Nat) → ACode → St → Option (Out × St)

/-! ### Shapes -/
def dst0 : Sh0 → AV → (AV → Option α) → Option α
  | .any, v, k => k v
  | .b, v, k => dB v fun x => k (.bool x)
  | .i q, v, k => dI q v fun x => k (.int q x)
  | .s, v, k => dS v fun x => k (.str x)
  | .sl, v, k => dL v fun a b c => k (.slice a b c)
  | .p, v, k => dP v fun a b => k (.ptr a b)
def dsts0 : List Sh0 → List AV → (List AV → Option α) → Option α
  | [], l, k => dN l (k [])
  | sh :: shs, l, k => dC l fun c r => dst0 sh c fun c => dsts0 shs r fun r => k (c :: r)
def dst1 : Sh1 → AV → (AV → Option α) → Option α
  | .o c, v, k => dst0 c v k
  | .agg l, v, k => dG v fun cs => dsts0 l cs fun cs => k (.agg cs)
def dsts1 : List Sh1 → List AV → (List AV → Option α) → Option α
  | [], l, k => dN l (k [])
  | sh :: shs, l, k => dC l fun c r => dst1 sh c fun c => dsts1 shs r fun r => k (c :: r)
def dst : Sh → AV → (AV → Option α) → Option α
  | .v x, v, k => dst1 x v k
  | .tup l, v, k => dT v fun cs => dsts1 l cs fun cs => k (.tuple cs)
  | .bx g l, v, k => dX g v fun cs => dsts0 l cs fun cs => k (.box g cs)

theorem dst0_sound {sh : Sh0} {v : AV} {k : AV → Option α} {r : α} (h : dst0 sh v k = some r) : k v = some r := by
  cases sh <;> simp only [dst0] at h
  case any => exact h
  case b => cases v <;> simp only [dB, reduceCtorEq] at h; exact h
  case s => cases v <;> simp only [dS, reduceCtorEq] at h; exact h
  case sl => cases v <;> simp only [dL, reduceCtorEq] at h; exact h
  case p => cases v <;> simp only [dP, reduceCtorEq] at h; exact h
  case i q =>
    cases v <;> simp only [dI, reduceCtorEq] at h
    split at h <;> try contradiction
    rename_i e; subst e; exact h
theorem dsts0_sound {shs : List Sh0} : ∀ {l : List AV} {k : List AV → Option α} {r : α}, dsts0 shs l k = some r → k l = some r := by
  induction shs with
  | nil => intro l k r h; cases l <;> simp only [dsts0, dN, reduceCtorEq] at h; exact h
  | cons sh shs ih =>
    intro l k r h
    cases l <;> simp only [dsts0, dC, reduceCtorEq] at h
    rename_i c l
    exact ih (k := fun r => k (c :: r)) (dst0_sound (k := fun c => dsts0 shs l fun r => k (c :: r)) h)
theorem dst1_sound {sh : Sh1} {v : AV} {k : AV → Option α} {r : α} (h : dst1 sh v k = some r) : k v = some r := by
  cases sh <;> simp only [dst1] at h
  · exact dst0_sound h
  · cases v <;> simp only [dG, reduceCtorEq] at h
    exact dsts0_sound (k := fun cs => k (.agg cs)) h
theorem dsts1_sound {shs : List Sh1} : ∀ {l : List AV} {k : List AV → Option α} {r : α}, dsts1 shs l k = some r → k l = some r := by
  induction shs with
  | nil => intro l k r h; cases l <;> simp only [dsts1, dN, reduceCtorEq] at h; exact h
  | cons sh shs ih =>
    intro l k r h
    cases l <;> simp only [dsts1, dC, reduceCtorEq] at h
    rename_i c l
    exact ih (k := fun r => k (c :: r)) (dst1_sound (k := fun c => dsts1 shs l fun r => k (c :: r)) h)
theorem dst_sound {sh : Sh} {v : AV} {k : AV → Option α} {r : α} (h : dst sh v k = some r) : k v = some r := by
  cases sh <;> simp only [dst] at h
  · exact dst1_sound h
  · cases v <;> simp only [dT, reduceCtorEq] at h
    exact dsts1_sound (k := fun cs => k (.tuple cs)) h
  · cases v <;> simp only [dX, reduceCtorEq] at h
    rename_i g' cs
    rw [cond_some_one] at h
    have := of_beq h.1
    subst this
    exact dsts0_sound (k := fun cs => k (.box _ cs)) h.2
theorem bnd_some {o : Option β} {k : β → Option α} {r : α} (h : bnd o k = some r) : ∃ x, o = some x ∧ k x = some r := by
  cases o with
  | none => simp [bnd] at h
  | some x => exact ⟨x, rfl, h⟩
theorem need_some {b : Bool} {x : Option α} {r : α} (h : need b x = some r) : b = true ∧ x = some r := by
  cases b <;> simp [need] at h; exact ⟨rfl, h⟩

/-! ### Steps -/
def St.setE (s : St) (t : Nat) (b : Bool) : St := { s with e := s.e.put t (some (.bool b)) }
def St.setX (s : St) (x : X) (b : Bool) : St := match x with
  | .t i => s.setE i b
  | .c _ => s
def putK (s : St) (d : Option Nat) (v : AV) (k : St → Option α) : Option α := match s.put d v with
  | none => none
  | some s => k s

def binK (op : BinOp) (x y : AV) (k : AV → Option α) : Option α :=
  match x, y with
  | .int q a, .int l b => match op with
    | .quo => if q = l then need (decide (b ≠ 0)) (k (.int q (q.wrap (a.tdiv b)))) else none
    | .rem => if q = l then need (decide (b ≠ 0)) (k (.int q (a.tmod b))) else none
    | .shl => need (decide (0 ≤ b)) (k (.int q (q.wrap (a * 2 ^ (min b.toNat q.bits)))))
    | .shr => need (decide (0 ≤ b)) (k (.int q (a.fdiv (2 ^ (min b.toNat q.bits)))))
    | o => bnd (binOp o (.int q a) (.int l b)) k
  | .str a, .str b => match op with
    | .add => need (decide (((a.size + b.size : Nat) : Int) ≤ IntKind.i64.max)) (k (.str (a ++ b)))
    | o => bnd (binOp o (.str a) (.str b)) k
  | x, y => bnd (binOp op x y) k

def callM (call : Call) (sh : Sh) (m : Nat) (f : FuncId) (args : List AV) (s : St) (k : AV → St → Option α) : Option α :=
  match m with
  | 0 => bnd (call f args ⟨.nil, s.nx, s.nx⟩) fun r => bnd (freeze r.2.h s.nx deep r.1) fun v => dst sh v fun v => k v s
  | 1 => bnd (call f args ⟨s.h, s.nx, s.ro⟩) fun r => dst sh r.1 fun v => k v { s with h := r.2.h, nx := r.2.nx }
  | _ => none

/-- Is a number free for a new thing? -/
def frb (h : Tr HObj) (nx rb ro k : Nat) : Bool := Nat.blt (rb + k) nx && Nat.ble ro rb && (match h.get (rb + k) with
  | none => true
  | some _ => false)
def stepK (call : Call) (sh : Sh) (o : AOp) (s : St) (k : AV → St → Option α) : Option α :=
  match o with
  | .pick c a b => match s.ev c with
    | .bool t => br t (k (s.ev a) s) (k (s.ev b) s)
    | _ => none
  | .bin op x y => binK op (s.ev x) (s.ev y) fun v => k v s
  | .iad sz x i => match s.ev x, s.ev i with
    | .slice sz' xs _, .int _ n => need (decide (0 ≤ n)) (bnd (nth xs n.toNat) fun v => need (Nat.beq sz sz') (dst sh v fun v => k (.eptr v.cells) s))
    | _, _ => none
  | .idxs x i => match s.ev x, s.ev i with
    | .str b, .int _ n => need (decide (0 ≤ n)) (bnd (nth b.data.toList n.toNat) fun c => k (.int .u8 c.toNat) s)
    | _, _ => none
  | .ldH agg n x => match s.ev x with
    | .ptr r off => hbx (s.h.get r) fun cs => bnd (part agg n 0 (dp off cs)) fun v => dst sh v fun v => k v s
    | _ => bnd (step call (.ldH agg n x) s) fun r => dst sh r.1 fun v => k v r.2
  | .stH n x v => match s.ev x, told (s.ev v) with
    | .ptr r off, some u => hbx (s.h.get r) fun cs => need (Nat.beq (len u.cells) n && Nat.ble (off + n) (len cs) && Nat.ble s.ro r) (k .undef { s with h := s.h.put r (some (.box (putCells cs off u.cells))) })
    | _, _ => none
  | .hal n z => need (frb s.h s.nx s.rb s.ro n) (k (.ptr (s.rb + n) 0) { s with h := s.h.put (s.rb + n) (some (.box z)) })
  | .hbx n m x => match told (s.ev x) with
    | some v => bif Nat.beq (len v.cells) m then need (frb s.h s.nx s.rb s.ro n) (k (.ptr (s.rb + n) 0) { s with h := s.h.put (s.rb + n) (some (.box v.cells)) }) else none
    | none => none
  | .call m f args => bif Nat.blt f ycode then callM call sh m f (s.evs args) s k else none
  | .cav m f args => match s.ev f with
    | .func g caps => bif Nat.blt g ycode then callM call sh m g (app (s.evs args) caps) s k else none
    | _ => none
  | o => bnd (step call o s) fun r => dst sh r.1 fun v => k v r.2

def stepOK (call : Call) (o : AOper) (s : St) (k : St → Option α) : Option α :=
  let run (s : St) : Option α := bif !apOk s o then none else match o.op with
    | .lal .. => stepK call o.sh o.op s fun _ s => k s
    | .lbx .. => stepK call o.sh o.op s fun _ s => k s
    | _ => stepK call o.sh o.op s fun v s => putK s o.dst v k
  match o.guard with
  | none => run s
  | some (t, b) => match s.e.get t with
    | some (.bool c) => bif b then br c (run (s.setE t true)) (putK (s.setE t false) o.dst (.tuple []) k) else br c (putK (s.setE t true) o.dst (.tuple []) k) (run (s.setE t false))
    | some (.tuple []) => putK s o.dst (.tuple []) k
    | _ => none

def runOpsK (call : Call) : List AOper → St → (St → Option α) → Option α
  | [], s, k => k s
  | o :: os, s, k => stepOK call o s fun s => runOpsK call os s k

/-- The slots behind a loop: those that it may write are told apart anew, the others are what they were. -/
def dstE (md : List Nat) (e0 : Tr AV) : List (Nat × Sh) → Tr AV → Tr AV → (Tr AV → Option α) → Option α
  | [], _, t, k => k t
  | (d, sh) :: l, e, t, k => bif mem d md then bnd (e.get d) fun v => dst sh v fun v => dstE md e0 l e (t.put d (some v)) k
    else bnd (e0.get d) fun v => bnd (e.get d) fun _ => dstE md e0 l e (t.put d (some v)) k
def defsO (o : AOper) : List Nat := app (outsOp o.op) o.dst.toList
def defsOs : List AOper → List Nat
  | [] => []
  | o :: os => app (defsO o) (defsOs os)
def defsC : ACode → List Nat
  | .region _ ops => defsOs ops
  | .seq a b => app (defsC a) (defsC b)
  | .cond _ a b => app (defsC a) (defsC b)
  | .block _ c => defsC c
  | .loop _ _ _ c => defsC c
  | .keep _ c => defsC c
  | _ => []
def exitsOf : ACode → List Nat → List Nat
  | .exit id, l => bif mem id l then l else id :: l
  | .seq a b, l => exitsOf b (exitsOf a l)
  | .cond _ a b, l => exitsOf b (exitsOf a l)
  | .block _ c, l => exitsOf c l
  | .loop _ _ _ c, l => exitsOf c l
  | .keep _ c, l => exitsOf c l
  | _, l => l
def exIds (i : Nat) : List Nat → (Out → Option α) → Option α
  | [], _ => none
  | j :: js, k => br (Nat.beq i j) (k (.exit j)) (exIds i js k)
def nodupB : List Nat → Bool
  | [] => true
  | x :: xs => !mem x xs && nodupB xs
def beqL : List Nat → List Nat → Bool
  | [], [] => true
  | x :: xs, y :: ys => Nat.beq x y && beqL xs ys
  | _, _ => false

def execK (call : Call) (lp : Option (List Nat) → Option (List Nat) → ACode → St → Option (Out × St)) : ACode → St → (Out → St → Option α) → Option α
  | .skip, s, k => k .norm s
  | .region m ops, s, k => runOpsK call ops { s with rb := s.nx, nx := s.nx + m } (k .norm)
  | .seq a b, s, k => execK call lp a s fun o s => match o with
    | .norm => execK call lp b s k
    | .exit i => k (.exit i) s
    | .ret => k .ret s
  | .cond x a b, s, k => match s.ev x with
    | .bool c => br c (execK call lp a (s.setX x true) k) (execK call lp b (s.setX x false) k)
    | _ => none
  | .block id c, s, k => execK call lp c s fun o s => match o with
    | .norm => k .norm s
    | .exit i => bif Nat.beq i id then k .norm s else k (.exit i) s
    | .ret => k .ret s
  | .loop keep outs sh c, s, k => match outs with
    | none => none
    | some l => bif nodupB l && beqL l (sh.map (·.1)) then
        bnd (lp keep (some l) c (s.keepO keep)) fun r => dstE (defsC c) (s.keepO keep).e sh r.2.e .nil fun e => onOut r.1 (k .ret { r.2 with e := e }) fun i => exIds i (exitsOf c []) fun o => k o { r.2 with e := e }
      else none
  | .exit id, s, k => k (.exit id) s
  | .ret, s, k => k .ret s
  | .keep l c, s, k => execK call lp c (s.keep l) k
  | .rangeF .., _, _ => none
  | .fail, _, _ => none
end

/-! ### What the nodes' run tells of the machine's -/
section
theorem Tr.put_same {β : Type} : ∀ (f : Nat) (t : Tr β) (i : Nat) (v : β), i < f → t.get i = some v → Tr.putF f t i (some v) = t := by
  intro f
  induction f with
  | zero => intro t i v h; omega
  | succ f ih =>
    intro t i v hi hg
    cases t with
    | nil => simp [Tr.get] at hg
    | nd l u r =>
      cases i with
      | zero =>
        simp only [Tr.get, Nat.beq_refl, cond_true] at hg
        simp only [Tr.putF, hg]
      | succ i =>
        simp only [Tr.get] at hg
        rw [show Nat.beq (i + 1) 0 = false from rfl] at hg
        simp only [cond_false] at hg
        simp only [Tr.putF]
        cases hb : Nat.beq ((i + 1) % 2) 1 with
        | true =>
          rw [hb] at hg
          simp only [cond_true] at hg ⊢
          rw [ih _ _ _ (by have := of_beq hb; omega) hg]
        | false =>
          rw [hb] at hg
          simp only [cond_false] at hg ⊢
          rw [ih _ _ _ (by omega) hg]
theorem setE_same {s : St} {t : Nat} {b : Bool} (h : s.e.get t = some (.bool b)) : s.setE t b = s := by
  obtain ⟨e, h', nx, rb, ro, df⟩ := s
  simp only [St.setE] at h ⊢
  rw [show e.put t (some (.bool b)) = e from Tr.put_same _ _ _ _ (by omega) h]
theorem setX_same {s : St} {x : X} {b : Bool} (h : s.ev x = .bool b) : s.setX x b = s := by
  cases x with
  | c v => rfl
  | t i =>
    simp only [St.setX]
    apply setE_same
    simp only [St.ev] at h
    split at h <;> try contradiction
    rename_i v hne hv
    rw [hv, h]

variable {α : Type} {call : Call} {lp : Option (List Nat) → Option (List Nat) → ACode → St → Option (Out × St)}

theorem callM_sound {sh : Sh} {m : Nat} {f : FuncId} {args : List AV} {s : St} {k : AV → St → Option α} {r : α} (h : callM call sh m f args s k = some r) : ∃ v s', doCall call s m f args = some (v, s') ∧ k v s' = some r := by
  unfold callM at h
  split at h
  · obtain ⟨x, h1, h⟩ := bnd_some h
    obtain ⟨v, h2, h⟩ := bnd_some h
    have h := dst_sound h
    exact ⟨v, s, by simp only [doCall, h1, h2], h⟩
  · obtain ⟨x, h1, h⟩ := bnd_some h
    have h := dst_sound h
    exact ⟨x.1, _, by simp only [doCall, h1], h⟩
  · contradiction

theorem binK_sound {op : BinOp} {x y : AV} {k : AV → Option α} {r : α} (h : binK op x y k = some r) : ∃ v, binOp op x y = some v ∧ k v = some r := by
  unfold binK at h
  split at h
  · split at h
    · split at h <;> try contradiction
      rename_i e; subst e
      obtain ⟨h1, h2⟩ := need_some h
      exact ⟨_, by simp only [binOp, intOp, if_true]; rw [if_neg (of_decide_eq_true h1)], h2⟩
    · split at h <;> try contradiction
      rename_i e; subst e
      obtain ⟨h1, h2⟩ := need_some h
      exact ⟨_, by simp only [binOp, intOp, if_true]; rw [if_neg (of_decide_eq_true h1)], h2⟩
    · obtain ⟨h1, h2⟩ := need_some h
      have := of_decide_eq_true h1
      exact ⟨_, by simp only [binOp, shiftOp]; rw [if_neg (by omega)], h2⟩
    · obtain ⟨h1, h2⟩ := need_some h
      have := of_decide_eq_true h1
      exact ⟨_, by simp only [binOp, shiftOp]; rw [if_neg (by omega)], h2⟩
    · exact bnd_some h
  · split at h
    · obtain ⟨h1, h2⟩ := need_some h
      have := of_decide_eq_true h1
      exact ⟨_, by simp only [binOp, strOp]; rw [if_neg (by omega)], h2⟩
    · exact bnd_some h
  · exact bnd_some h

theorem stepK_sound {sh : Sh} {o : AOp} {s : St} {k : AV → St → Option α} {r : α} (h : stepK call sh o s k = some r) : ∃ v s', step call o s = some (v, s') ∧ k v s' = some r := by
  have gen : ∀ {o : AOp}, (bnd (step call o s) fun r => dst sh r.1 fun v => k v r.2) = some r → ∃ v s', step call o s = some (v, s') ∧ k v s' = some r := by
    intro o h
    obtain ⟨x, h1, h2⟩ := bnd_some h
    exact ⟨x.1, x.2, h1, dst_sound (k := fun v => k v x.2) h2⟩
  cases o
  case pick c a b =>
    simp only [stepK] at h
    split at h <;> try contradiction
    rename_i t hc
    cases t with
    | true => exact ⟨_, _, by simp only [step, hc, cond_true], h⟩
    | false => exact ⟨_, _, by simp only [step, hc, cond_false], h⟩
  case bin op x y =>
    obtain ⟨v, h1, h2⟩ := binK_sound (k := fun v => k v s) (by exact h)
    exact ⟨v, s, by simp only [step, h1], h2⟩
  case iad sz x i =>
    simp only [stepK] at h
    split at h <;> try contradiction
    rename_i sz' xs own q n hx hi
    obtain ⟨h1, h⟩ := need_some h
    obtain ⟨v, h2, h⟩ := bnd_some h
    obtain ⟨h3, h⟩ := need_some h
    have h := dst_sound (k := fun v => k (.eptr v.cells) s) h
    refine ⟨_, _, ?_, h⟩
    simp only [step, hx, St.idx, hi]
    rw [if_pos (of_decide_eq_true h1)]
    simp only [h2, h3, cond_true]
  case idxs x i =>
    simp only [stepK] at h
    split at h <;> try contradiction
    rename_i b q n hx hi
    obtain ⟨h1, h⟩ := need_some h
    obtain ⟨c, h2, h⟩ := bnd_some h
    refine ⟨_, _, ?_, h⟩
    simp only [step, hx, St.idx, hi]
    rw [if_pos (of_decide_eq_true h1)]
    simp only [h2]
  case ldH agg n x =>
    simp only [stepK] at h
    split at h
    · rename_i rr off hx
      cases hg : s.h.get rr with
      | none => rw [hg] at h; simp [hbx] at h
      | some ob =>
        rw [hg] at h
        cases ob <;> simp only [hbx, reduceCtorEq] at h
        obtain ⟨v, h1, h⟩ := bnd_some h
        exact ⟨_, _, by simp only [step, St.at_, hx, hg, h1], dst_sound (k := fun v => k v s) h⟩
    · exact gen h
  case stH n x v =>
    simp only [stepK] at h
    split at h <;> try contradiction
    rename_i rr off u hx hu
    cases hg : s.h.get rr with
    | none => rw [hg] at h; simp [hbx] at h
    | some ob =>
      rw [hg] at h
      cases ob <;> simp only [hbx, reduceCtorEq] at h
      obtain ⟨h1, h⟩ := need_some h
      exact ⟨_, _, by simp only [step, hx, hu, hg, h1, cond_true], h⟩
  case hal n z =>
    simp only [stepK] at h
    obtain ⟨h1, h⟩ := need_some h
    have h1 : s.free n = true := h1
    exact ⟨_, _, by simp only [step, h1, cond_true], h⟩
  case hbx n m x =>
    simp only [stepK] at h
    split at h <;> try contradiction
    rename_i v hv
    rw [cond_some_one] at h
    obtain ⟨hl, h⟩ := h
    obtain ⟨h1, h⟩ := need_some h
    have h1 : s.free n = true := h1
    exact ⟨_, _, by simp only [step, hv, hl, h1, Bool.and_self, cond_true], h⟩
  case call m f as_ =>
    simp only [stepK] at h
    rw [cond_some_one] at h
    obtain ⟨v, s', h1, h2⟩ := callM_sound h.2
    exact ⟨v, s', by simp only [step]; rw [cond_some_one]; exact ⟨h.1, h1⟩, h2⟩
  case cav m f as_ =>
    simp only [stepK] at h
    split at h <;> try contradiction
    rename_i g caps hf
    rw [cond_some_one] at h
    obtain ⟨v, s', h1, h2⟩ := callM_sound h.2
    exact ⟨v, s', by simp only [step, hf]; rw [cond_some_one]; exact ⟨h.1, h1⟩, h2⟩
  all_goals exact gen h

theorem stepOK_sound {o : AOper} {s : St} {k : St → Option α} {r : α} (h : stepOK call o s k = some r) : ∃ s', stepO call o s = some s' ∧ k s' = some r := by
  have hrun : ∀ {s : St}, wanted s o.guard = some true → (bif !apOk s o then none else match o.op with
      | .lal .. => stepK call o.sh o.op s fun _ s => k s
      | .lbx .. => stepK call o.sh o.op s fun _ s => k s
      | _ => stepK call o.sh o.op s fun v s => putK s o.dst v k) = some r → ∃ s', stepO call o s = some s' ∧ k s' = some r := by
    intro s hw h
    cases hap : apOk s o with
    | false => rw [hap] at h; simp at h
    | true =>
      rw [hap] at h
      simp only [Bool.not_true, cond_false] at h
      split at h
      · rename_i d z ho
        obtain ⟨v, s', h1, h2⟩ := stepK_sound h
        refine ⟨s', ?_, h2⟩
        rw [ho] at h1
        simp only [stepO, hw, hap, Bool.not_true, cond_false, ho, h1]
      · rename_i d n x ho
        obtain ⟨v, s', h1, h2⟩ := stepK_sound h
        refine ⟨s', ?_, h2⟩
        rw [ho] at h1
        simp only [stepO, hw, hap, Bool.not_true, cond_false, ho, h1]
      · rename_i hn1 hn2
        obtain ⟨v, s', h1, h2⟩ := stepK_sound h
        simp only [putK] at h2
        split at h2 <;> try contradiction
        rename_i s2 hp
        refine ⟨s2, ?_, h2⟩
        simp only [stepO, hw, hap, Bool.not_true, cond_false, h1]
        exact hp
  have hskip : ∀ {s : St}, wanted s o.guard = some false → putK s o.dst (.tuple []) k = some r → ∃ s', stepO call o s = some s' ∧ k s' = some r := by
    intro s hw h
    simp only [putK] at h
    split at h <;> try contradiction
    rename_i s2 hp
    exact ⟨s2, by simp only [stepO, hw, hp], h⟩
  simp only [stepOK] at h
  cases hg : o.guard with
  | none =>
    simp only [hg] at h
    exact hrun (by simp [hg, wanted]) h
  | some tb =>
    obtain ⟨t, b⟩ := tb
    simp only [hg] at h
    split at h <;> try contradiction
    · rename_i c hc
      cases c with
      | true =>
        cases b with
        | true =>
          simp only [cond_true, br, setE_same hc] at h
          exact hrun (by rw [hg]; simp [wanted, hc]) h
        | false =>
          simp only [cond_true, cond_false, br, setE_same hc] at h
          exact hskip (by rw [hg]; simp [wanted, hc]) h
      | false =>
        cases b with
        | true =>
          simp only [cond_true, cond_false, br, setE_same hc] at h
          exact hskip (by rw [hg]; simp [wanted, hc]) h
        | false =>
          simp only [cond_true, cond_false, br, setE_same hc] at h
          exact hrun (by rw [hg]; simp [wanted, hc]) h
    · rename_i hc
      exact hskip (by rw [hg]; simp [wanted, hc]) h

theorem runOpsK_sound {os : List AOper} : ∀ {s : St} {k : St → Option α} {r : α}, runOpsK call os s k = some r → ∃ s', runOps call os s = some s' ∧ k s' = some r := by
  induction os with
  | nil => intro s k r h; exact ⟨s, rfl, h⟩
  | cons o os ih =>
    intro s k r h
    simp only [runOpsK] at h
    obtain ⟨s1, h1, h2⟩ := stepOK_sound h
    obtain ⟨s2, h3, h4⟩ := ih h2
    exact ⟨s2, by simp only [runOps, h1, h3], h4⟩

/-! ### What is not written stays -/
theorem mem_app {d : Nat} : ∀ {a b : List Nat}, mem d (app a b) = (mem d a || mem d b) := by
  intro a b
  induction a with
  | nil => rfl
  | cons x xs ih => simp only [app, mem, ih, Bool.or_assoc]
theorem mem_of_mem {d : Nat} {l : List Nat} (h : d ∈ l) : mem d l = true := by
  induction l with
  | nil => simp at h
  | cons x xs ih =>
    simp only [mem, Bool.or_eq_true]
    simp only [List.mem_cons] at h
    rcases h with rfl | h
    · exact .inl (Nat.beq_refl _)
    · exact .inr (ih h)
theorem stepO_frame {o : AOper} {s s1 : St} (h : stepO call o s = some s1) {d : Nat} (hd : mem d (defsO o) = false) : s1.e.get d = s.e.get d := by
  simp only [defsO, mem_app, Bool.or_eq_false_iff] at hd
  have hput : ∀ {s s1 : St} {v : AV}, s.put o.dst v = some s1 → s1.e.get d = s.e.get d := by
    intro s s1 v h
    obtain ⟨L, h1, h2, _⟩ := put_local h
    rw [h2]
    refine puts_get _ _ _ fun p hp e => ?_
    have := h1 p hp
    rw [e] at this
    rw [this] at hd
    simp [mem] at hd
  simp only [stepO] at h
  split at h <;> try contradiction
  · exact hput h
  · cases hap : apOk s o with
    | false => rw [hap] at h; simp at h
    | true =>
      rw [hap] at h
      simp only [Bool.not_true, cond_false] at h
      split at h <;> try contradiction
      rename_i v s2 hst
      obtain ⟨L, h1, h2, _⟩ := step_local o.op v s2 hst
      have h3 : s2.e.get d = s.e.get d := by
        rw [h2]
        refine puts_get _ _ _ fun p hp e => ?_
        have := h1 p hp
        rw [e] at this
        rw [mem_of_mem this] at hd
        simp at hd
      split at h
      · simp only [Option.some.injEq] at h; rw [← h]; exact h3
      · simp only [Option.some.injEq] at h; rw [← h]; exact h3
      · rw [hput h]; exact h3
theorem runOps_frame {os : List AOper} : ∀ {s s1 : St}, runOps call os s = some s1 → ∀ {d : Nat}, mem d (defsOs os) = false → s1.e.get d = s.e.get d := by
  induction os with
  | nil => intro s s1 h d _; simp only [runOps, Option.some.injEq] at h; rw [h]
  | cons o os ih =>
    intro s s1 h d hd
    simp only [defsOs, mem_app, Bool.or_eq_false_iff] at hd
    simp only [runOps] at h
    split at h <;> try contradiction
    rename_i s2 h2
    rw [ih h hd.2, stepO_frame h2 hd.1]
theorem keep_get (s : St) (k : Option (List Nat)) (d : Nat) : (s.keepO k).e.get d = none ∨ (s.keepO k).e.get d = s.e.get d := by
  cases k with
  | none => exact .inr rfl
  | some l =>
    simp only [St.keepO, St.keep]
    rcases (keepE_eff (e := s.e) l .nil d (.inl (Tr.get_nil d))).2 with h | h
    · exact .inl h
    · rw [h]
      cases hg : s.e.get d with
      | none => exact .inl rfl
      | some v => cases v <;> first | exact .inr rfl | exact .inl rfl
theorem rounds_frame {f : St → Option (Out × St)} {d : Nat} (hf : ∀ s o s', f s = some (o, s') → s'.e.get d = none ∨ s'.e.get d = s.e.get d) : ∀ (n : Nat) (s : St) (o : Out) (s' : St), rounds f n s = some (o, s') → s'.e.get d = none ∨ s'.e.get d = s.e.get d := by
  intro n
  induction n with
  | zero => intro s o s' h; simp [rounds] at h
  | succ n ih =>
    intro s o s' h
    simp only [rounds] at h
    split at h
    · rename_i s1 h1
      rcases ih _ _ _ h with h2 | h2
      · exact .inl h2
      · rw [h2]; exact hf _ _ _ h1
    · exact hf _ _ _ h
theorem exec_frame {n : Nat} {c : ACode} : ∀ {s : St} {o : Out} {s' : St}, exec call n c s = some (o, s') → ∀ d, mem d (defsC c) = false → s'.e.get d = none ∨ s'.e.get d = s.e.get d := by
  induction c with
  | skip => intro s o s' h d _; simp only [exec, Option.some.injEq, Prod.mk.injEq] at h; rw [← h.2]; exact .inr rfl
  | exit id => intro s o s' h d _; simp only [exec, Option.some.injEq, Prod.mk.injEq] at h; rw [← h.2]; exact .inr rfl
  | ret => intro s o s' h d _; simp only [exec, Option.some.injEq, Prod.mk.injEq] at h; rw [← h.2]; exact .inr rfl
  | fail => intro s o s' h; simp [exec] at h
  | region m ops =>
    intro s o s' h d hd
    simp only [exec] at h
    split at h <;> try contradiction
    rename_i s1 h1
    simp only [Option.some.injEq, Prod.mk.injEq] at h
    rw [← h.2]
    exact .inr (runOps_frame h1 hd)
  | seq a b iha ihb =>
    intro s o s' h d hd
    simp only [defsC, mem_app, Bool.or_eq_false_iff] at hd
    simp only [exec] at h
    split at h
    · rename_i s1 h1
      rcases ihb h d hd.2 with h2 | h2
      · exact .inl h2
      · rw [h2]; exact iha h1 d hd.1
    · exact iha h d hd.1
  | cond x a b iha ihb =>
    intro s o s' h d hd
    simp only [defsC, mem_app, Bool.or_eq_false_iff] at hd
    simp only [exec] at h
    split at h <;> try contradiction
    · exact iha h d hd.1
    · exact ihb h d hd.2
  | block id a iha =>
    intro s o s' h d hd
    simp only [exec] at h
    split at h
    · rename_i i s1 h1
      simp only [Option.some.injEq, Prod.mk.injEq] at h
      rw [← h.2]
      exact iha h1 d hd
    · exact iha h d hd
  | loop k ou sh a iha =>
    intro s o s' h d hd
    simp only [exec] at h
    split at h <;> try contradiction
    rename_i o1 s1 h1
    simp only [Option.some.injEq, Prod.mk.injEq] at h
    rw [← h.2]
    rcases keep_get s1 ou d with h2 | h2
    · exact .inl h2
    · rw [h2]
      exact rounds_frame (fun s o s' h => by
        rcases iha h d hd with h2 | h2
        · exact .inl h2
        · rw [h2]; exact keep_get s k d) _ _ _ _ h1
  | keep l a iha =>
    intro s o s' h d hd
    simp only [exec] at h
    rcases iha h d hd with h2 | h2
    · exact .inl h2
    · rw [h2]; exact keep_get s (some l) d
  | rangeF ps A B aA aB f _ _ =>
    intro s o s' h d hd
    simp only [exec] at h
    split at h <;> try contradiction
    split at h <;> try contradiction
    split at h <;> try contradiction
    simp only [Option.some.injEq, Prod.mk.injEq] at h
    rw [← h.2]
    exact .inr rfl

theorem exIds_sound {i : Nat} {ids : List Nat} {k : Out → Option α} {r : α} (h : exIds i ids k = some r) : k (.exit i) = some r := by
  induction ids with
  | nil => simp [exIds] at h
  | cons j js ih =>
    simp only [exIds] at h
    cases hb : Nat.beq i j with
    | true =>
      rw [hb] at h
      have := of_beq hb
      subst this
      exact h
    | false => rw [hb] at h; exact ih h

/-- Loops hand back the slots that they are to hand back. -/
def LpOk (lp : Option (List Nat) → Option (List Nat) → ACode → St → Option (Out × St)) : Prop := ∀ k l c s o s', lp k (some l) c s = some (o, s') → (∃ e, s'.e = keepE e l .nil) ∧ ∀ d, mem d (defsC c) = false → s'.e.get d = none ∨ s'.e.get d = s.e.get d

theorem dstE_puts {md : List Nat} {e0 e : Tr AV} (hf : ∀ d, mem d md = false → e.get d = none ∨ e.get d = e0.get d) : ∀ {sh : List (Nat × Sh)} {t : Tr AV} {k : Tr AV → Option α} {r : α}, dstE md e0 sh e t k = some r → ∃ vs, mapO (fun (p : Nat × Sh) => (e.get p.1).map fun v => (p.1, v)) sh = some vs ∧ k (puts t vs) = some r := by
  intro sh
  induction sh with
  | nil => intro t k r h; exact ⟨[], rfl, h⟩
  | cons p sh ih =>
    intro t k r h
    obtain ⟨d, sh0⟩ := p
    simp only [dstE] at h
    cases hm : mem d md with
    | true =>
      rw [hm] at h
      simp only [cond_true] at h
      obtain ⟨v, h1, h⟩ := bnd_some h
      obtain ⟨vs, h2, h3⟩ := ih (dst_sound (k := fun v => dstE md e0 sh e (t.put d (some v)) k) h)
      refine ⟨(d, v) :: vs, ?_, h3⟩
      simp only [mapO, h1, Option.map_some, h2]
    | false =>
      rw [hm] at h
      simp only [cond_false] at h
      obtain ⟨v, h1, h⟩ := bnd_some h
      obtain ⟨x, h4, h⟩ := bnd_some h
      obtain ⟨vs, h2, h3⟩ := ih h
      have hx : e.get d = some v := by
        rcases hf d hm with h5 | h5
        · rw [h5] at h4; cases h4
        · rw [h5, h1]
      refine ⟨(d, v) :: vs, ?_, h3⟩
      simp only [mapO, hx, Option.map_some, h2]
theorem keepE_none {e : Tr AV} {d : Nat} : ∀ (l : List Nat) (t : Tr AV), mem d l = false → (keepE e l t).get d = t.get d := by
  intro l
  induction l with
  | nil => intro t _; rfl
  | cons x xs ih =>
    intro t h
    simp only [mem, Bool.or_eq_false_iff] at h
    have hne : d ≠ x := by intro e; subst e; rw [Nat.beq_refl] at h; exact absurd h.1 (by simp)
    simp only [keepE]
    split
    · exact ih _ h.2
    · exact ih _ h.2
    · rw [ih _ h.2, Tr.get_put, if_neg hne]
theorem keepE_puts {e : Tr AV} : ∀ (l : List Nat) (t : Tr AV) (vs : List (Nat × AV)), nodupB l = true → (∀ d, mem d l = true → t.get d = none) → mapO (fun d => ((keepE e l t).get d).map fun v => (d, v)) l = some vs → puts t vs = keepE e l t := by
  intro l
  induction l with
  | nil => intro t vs _ _ h; simp only [mapO, Option.some.injEq] at h; subst h; rfl
  | cons x xs ih =>
    intro t vs hn ht h
    simp only [nodupB, Bool.and_eq_true, Bool.not_eq_true'] at hn
    simp only [mapO] at h
    split at h <;> try contradiction
    rename_i y hy
    split at h <;> try contradiction
    rename_i ys hys
    simp only [Option.some.injEq] at h; subst h
    obtain ⟨v, hv, rfl⟩ := Option.map_eq_some_iff.1 hy
    have htx : t.get x = none := ht x (by simp [mem])
    have key : ∃ u, e.get x = some u ∧ keepE e (x :: xs) t = keepE e xs (t.put x (some u)) ∧ v = u := by
      simp only [keepE] at hv
      split at hv
      · rw [keepE_none xs t hn.1, htx] at hv; cases hv
      · rw [keepE_none xs t hn.1, htx] at hv; cases hv
      · rename_i u hne hu
        rw [keepE_none xs _ hn.1, Tr.get_put, if_pos rfl] at hv
        simp only [Option.some.injEq] at hv
        refine ⟨u, hu, ?_, hv.symm⟩
        simp only [keepE]
        split
        · rename_i h0; rw [hu] at h0; cases h0
        · rename_i a b c h0; rw [hu] at h0; simp only [Option.some.injEq] at h0; exact absurd h0 (hne a b c)
        · rename_i h0; rw [hu] at h0; simp only [Option.some.injEq] at h0; subst h0; rfl
    obtain ⟨u, hu, hk, rfl⟩ := key
    rw [hk]
    simp only [puts]
    rw [hk] at hys
    refine ih _ ys hn.2 (fun d hd => ?_) hys
    rw [Tr.get_put]
    have hne : d ≠ x := by intro e; subst e; rw [hn.1] at hd; cases hd
    rw [if_neg hne]
    exact ht d (by simp [mem, hd])
theorem beqL_eq : ∀ {a b : List Nat}, beqL a b = true → a = b := by
  intro a
  induction a with
  | nil => intro b h; cases b <;> simp [beqL] at h; rfl
  | cons x xs ih =>
    intro b h
    cases b with
    | nil => simp [beqL] at h
    | cons y ys =>
      simp only [beqL, Bool.and_eq_true] at h
      rw [of_beq h.1, ih h.2]
theorem mapO_map {β γ δ : Type} (f : γ → Option δ) (g : β → γ) (l : List β) : mapO f (l.map g) = mapO (fun x => f (g x)) l := by
  induction l with
  | nil => rfl
  | cons x xs ih => simp only [List.map_cons, mapO, ih]

theorem execK_sound (hlp : LpOk lp) {c : ACode} : ∀ {s : St} {k : Out → St → Option α} {r : α}, execK call lp c s k = some r → ∃ o s', execL call lp c s = some (o, s') ∧ k o s' = some r := by
  induction c with
  | skip => intro s k r h; exact ⟨_, _, rfl, h⟩
  | exit id => intro s k r h; exact ⟨_, _, rfl, h⟩
  | ret => intro s k r h; exact ⟨_, _, rfl, h⟩
  | fail => intro s k r h; simp [execK] at h
  | rangeF ps A B aA aB f _ _ => intro s k r h; simp [execK] at h
  | region m ops =>
    intro s k r h
    simp only [execK] at h
    obtain ⟨s1, h1, h2⟩ := runOpsK_sound h
    exact ⟨_, _, by simp only [execL, h1], h2⟩
  | seq a b iha ihb =>
    intro s k r h
    simp only [execK] at h
    obtain ⟨o, s1, h1, h2⟩ := iha h
    cases o with
    | norm =>
      obtain ⟨o2, s2, h3, h4⟩ := ihb h2
      exact ⟨o2, s2, by simp only [execL, h1, h3], h4⟩
    | exit i => exact ⟨_, _, by simp only [execL, h1], h2⟩
    | ret => exact ⟨_, _, by simp only [execL, h1], h2⟩
  | cond x a b iha ihb =>
    intro s k r h
    simp only [execK] at h
    split at h <;> try contradiction
    rename_i c hc
    cases c with
    | true =>
      simp only [br, cond_true, setX_same hc] at h
      obtain ⟨o, s1, h1, h2⟩ := iha h
      exact ⟨o, s1, by simp only [execL, hc, h1], h2⟩
    | false =>
      simp only [br, cond_false, setX_same hc] at h
      obtain ⟨o, s1, h1, h2⟩ := ihb h
      exact ⟨o, s1, by simp only [execL, hc, h1], h2⟩
  | block id a iha =>
    intro s k r h
    simp only [execK] at h
    obtain ⟨o, s1, h1, h2⟩ := iha h
    cases o with
    | norm => exact ⟨_, _, by simp only [execL, h1], h2⟩
    | exit i =>
      refine ⟨_, _, by simp only [execL, h1]; rfl, ?_⟩
      cases hb : Nat.beq i id with
      | true => simp only [hb, cond_true] at h2 ⊢; exact h2
      | false => simp only [hb, cond_false] at h2 ⊢; exact h2
    | ret => exact ⟨_, _, by simp only [execL, h1], h2⟩
  | loop keep outs sh a iha =>
    intro s k r h
    simp only [execK] at h
    split at h <;> try contradiction
    rename_i l
    rw [cond_some_one] at h
    obtain ⟨hchk, h⟩ := h
    simp only [Bool.and_eq_true] at hchk
    obtain ⟨hnd, hbl⟩ := hchk
    have hl := beqL_eq hbl
    obtain ⟨x, h1, h⟩ := bnd_some h
    obtain ⟨o, s1⟩ := x
    obtain ⟨⟨e, he⟩, hfr⟩ := hlp _ _ _ _ _ _ h1
    obtain ⟨vs, h2, h3⟩ := dstE_puts hfr h
    have hs : puts .nil vs = s1.e := by
      have h2' : mapO (fun d => ((keepE e l .nil).get d).map fun v => (d, v)) l = some vs := by
        rw [← he]
        rw [hl, mapO_map]; exact h2
      rw [he]
      exact keepE_puts l .nil vs hnd (fun d _ => rfl) h2'
    rw [hs] at h3
    refine ⟨o, s1, by simp only [execL, h1], ?_⟩
    cases o with
    | norm => simp [onOut] at h3
    | ret => exact h3
    | exit i => exact exIds_sound (k := fun o => k o { s1 with e := s1.e }) h3
  | keep l a iha =>
    intro s k r h
    simp only [execK] at h
    obtain ⟨o, s1, h1, h2⟩ := iha h
    exact ⟨o, s1, by simp only [execL]; exact h1, h2⟩
end

theorem lpW_ok {C : Tab} {nat : FuncId → Option Call} : LpOk (lpW C nat) := by
  intro k l c s o s' h
  obtain ⟨n, hn⟩ := lpW_iff.1 h
  simp only [exec] at hn
  split at hn <;> try contradiction
  simp only [Option.some.injEq, Prod.mk.injEq] at hn
  obtain ⟨rfl, rfl⟩ := hn
  rename_i o1 s1 hr
  refine ⟨⟨_, rfl⟩, fun d hd => ?_⟩
  rcases keep_get s1 (some l) d with h1 | h1
  · exact .inl h1
  · rw [h1]
    exact rounds_frame (fun s o s' h => by
      rcases exec_frame h d hd with h2 | h2
      · exact .inl h2
      · rw [h2]
        exact keep_get s k d) _ _ _ _ hr

section
variable {C : Tab} {nat : FuncId → Option Call}
def res1K {α : Type} (s : St) (r : ARes) (k : AV → Option α) : Option α := match r with
  | .tmp t => k (noL (s.ev (.t t)))
  | .cell t agg n => match s.ev (.t t) with
    | .ptr r off => hbx (s.h.get r) fun cs => bnd (part agg n 0 (dp off cs)) k
    | _ => bnd (result s (.cell t agg n)) k
def resK {α : Type} (s : St) : List ARes → (List AV → Option α) → Option α
  | [], k => k []
  | r :: rs, k => res1K s r fun v => resK s rs fun vs => k (v :: vs)
def oneOf : List AV → AV
  | [v] => v
  | vs => .tuple vs
theorem res1K_sound {α : Type} {s : St} {r : ARes} {k : AV → Option α} {x : α} (h : res1K s r k = some x) : ∃ v, result s r = some v ∧ k v = some x := by
  cases r with
  | tmp t => exact ⟨_, rfl, h⟩
  | cell t agg n =>
    simp only [res1K] at h
    split at h
    · rename_i q off hev
      cases hg : s.h.get q with
      | none => rw [hg] at h; simp [hbx] at h
      | some ob =>
        rw [hg] at h
        cases ob <;> simp only [hbx, reduceCtorEq] at h
        obtain ⟨v, h1, h2⟩ := bnd_some h
        exact ⟨v, by simp only [result, hev, hg, h1], h2⟩
    · obtain ⟨v, h1, h2⟩ := bnd_some h
      exact ⟨v, h1, h2⟩
theorem resK_sound {α : Type} {s : St} : ∀ {rs : List ARes} {k : List AV → Option α} {x : α}, resK s rs k = some x → ∃ vs, mapO (result s) rs = some vs ∧ k vs = some x := by
  intro rs
  induction rs with
  | nil => intro k x h; exact ⟨[], rfl, h⟩
  | cons r rs ih =>
    intro k x h
    simp only [resK] at h
    obtain ⟨v, h1, h2⟩ := res1K_sound h
    obtain ⟨vs, h3, h4⟩ := ih h2
    exact ⟨v :: vs, by simp only [mapO, h1, h3], h4⟩
/-- A function's run by continuations. -/
def callK (call : Call) (lp : Option (List Nat) → Option (List Nat) → ACode → St → Option (Out × St)) (c : ACode) (rs : List ARes) (args : List AV) (hp : Hp) : Option (AV × Hp) :=
  execK call lp c ⟨Tr.nil.ofList 0 args, hp.h, hp.nx, hp.nx, hp.ro, []⟩ fun o s => match o with
    | .exit _ => none
    | _ => match s.df with
      | [] => resK s rs fun vs => some (oneOf vs, ⟨s.h, s.nx, s.ro⟩)
      | _ :: _ => none
/-- A round by continuations. -/
def roundK (call : Call) (lp : Option (List Nat) → Option (List Nat) → ACode → St → Option (Out × St)) (k o : Option (List Nat)) (c : ACode) (s : St) (next : St → Option (Out × St)) : Option (Out × St) :=
  execK call lp c (s.keepO k) fun out s => match out with
    | .norm => next (s.keepO k)
    | .exit i => some (.exit i, s.keepO o)
    | .ret => some (.ret, s.keepO o)

theorem runW_K {f : FuncId} {fn : AFunc} {args : List AV} {hp : Hp} {r : AV × Hp} (hC : C f = some fn) (hk : (!Nat.ble ycode f && (nat f).isNone && (Nat.beq (len args) fn.np && !fn.handler)) = true)
    (h : callK (runW C nat) (lpW C nat) fn.body fn.res args hp = some r) : runW C nat f args hp = some r := by
  simp only [Bool.and_eq_true, Bool.not_eq_true', Option.isNone_iff_eq_none] at hk
  obtain ⟨⟨h1, h2⟩, h3⟩ := hk
  obtain ⟨o, s, h4, h5⟩ := execK_sound lpW_ok h
  have hno : ∀ i, o ≠ .exit i := by
    intro i e; subst e; simp at h5
  have h6 : (match s.df with
      | [] => resK s fn.res fun vs => some (oneOf vs, (⟨s.h, s.nx, s.ro⟩ : Hp))
      | _ :: _ => none) = some r := by
    cases o with
    | exit i => exact absurd rfl (hno i)
    | norm => exact h5
    | ret => exact h5
  split at h6 <;> try contradiction
  rename_i hd
  obtain ⟨vs, h7, h8⟩ := resK_sound h6
  simp only [Option.some.injEq] at h8
  subst h8
  refine runW_of h1 h2 hC (by simp [h3]) h4 hno hd ?_
  simp only [results, h7]
  cases vs with
  | nil => rfl
  | cons x xs => cases xs <;> rfl

theorem lpW_K {k o : Option (List Nat)} {c : ACode} {s : St} {r : Out × St} (h : roundK (runW C nat) (lpW C nat) k o c s (fun s => lpW C nat k o c s) = some r) : lpW C nat k o c s = some r := by
  obtain ⟨out, s1, h1, h2⟩ := execK_sound lpW_ok h
  apply lpW_of
  rw [h1]
  cases out with
  | norm =>
    simp only at h2 ⊢
    rw [lpW_keep] at h2; exact h2
  | exit i => exact h2
  | ret => exact h2
end
end Go.Proofs.YtohncbgkiojlnaaGreatDoor.Am
