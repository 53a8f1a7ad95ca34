/- Calls: what a caller keeps, what a callee hands back. -/
import Derived.Test.YtohncbgkiojlnaaGreatDoorAm16
import Derived.RangeFuncCalls
import Derived.Conc.MuLone
set_option linter.unusedVariables false
set_option linter.unusedSimpArgs false
namespace Go.Proofs.YtohncbgkiojlnaaGreatDoor.Am
open Go.RowKit (Below)

/-- The heap at a call's door. -/
structure HR (g : G) (F : Lab → Option HObj) (w0 w : World) (hp : Hp) : Prop where
  wr : WR g F w0 w
  old : ∀ r o, hp.h.get r = some o → F (.hp r) = some o
  hx : ∀ r, hp.ro ≤ r → F (.hp r) = hp.h.get r
  fresh : ∀ r, hp.ro ≤ r → hp.h.get r = none → ∀ v, g.loc r v = none
  top : ∀ r, hp.nx ≤ r → hp.h.get r = none
  ronx : hp.ro ≤ hp.nx

def Fw (ro : Option Nat) : Fence := { Fence.wide with round := ro }

/-- What is known behind a call. -/
def Back (w0 : World) (g : G) (F : Lab → Option HObj) (hp hp' : Hp) (w : World) (v : AV) (u : Value) (w' : World) : Prop :=
  ∃ g' F', G.ext hp.ro g g' ∧ VR g' v u ∧ HR g' F' w0 w' hp' ∧ Frm F F' hp.ro w.heap.size ∧ hp'.ro = hp.ro ∧ hp.nx ≤ hp'.nx ∧ w.heap.size ≤ w'.heap.size

/-- A call goes through: the function is entered and returns, or it is one of the machine's own. -/
def Does (P : Program) (f : FuncId) (us : Array Value) (w : World) (R : Value → World → Prop) : Prop :=
  ((callFunc f us).run P w = .ok (.enter f us) w ∧ CallsIn Fence.wide 0 P f us w fun e w' => ∃ u, e = .returned u ∧ R u w') ∨
  ∃ u w', (callFunc f us).run P w = .ok (.value u) w' ∧ R u w'
theorem Does.mono {P : Program} {f : FuncId} {us : Array Value} {w : World} {R R' : Value → World → Prop} (h : Does P f us w R) (k : ∀ u w', R u w' → R' u w') : Does P f us w R' := by
  rcases h with ⟨h1, h2⟩ | ⟨u, w', h1, h2⟩
  · exact .inl ⟨h1, h2.mono fun e w' ⟨u, e1, e2⟩ => ⟨u, e1, k u w' e2⟩⟩
  · exact .inr ⟨u, w', h1, k u w' h2⟩

def CSound (P : Program) (w0 : World) (call : Call) : Prop :=
  ∀ f, f < ycode → ∀ args hp v hp', call f args hp = some (v, hp') → ∀ (g : G) (F : Lab → Option HObj) (us : List Value) (w : World), g.P = P → HR g F w0 w hp → VRs g args us → Does P f us.toArray w (Back w0 g F hp hp' w v)

/-- A loop's body is called through its yield; a function of the program's own text is entered. -/
def YSound (P : Program) (w0 : World) (call : Call) : Prop :=
  (∀ l args hp v hp', call (yOf l) args hp = some (v, hp') → ∀ (g : G) (F : Lab → Option HObj) (us : List Value) (w : World) (b x : Nat), g.P = P → HR g F w0 w hp → VRs g args us → g.loc l 0 = some (b, 0, x) →
    ∃ f tmps A B, (Instr.yield b us.toArray).run P w = .ok (.round b f tmps A B) w ∧ RoundIn Fence.wide 0 P b f tmps A B w fun e w' => ∃ u, e = .returned u ∧ Back w0 g F hp hp' w v u w') ∧
  ∀ f args hp v hp', call (eOf f) args hp = some (v, hp') → ∀ (g : G) (F : Lab → Option HObj) (us : List Value) (w : World), g.P = P → HR g F w0 w hp → VRs g args us →
    (callFunc f us.toArray).run P w = .ok (.enter f us.toArray) w ∧ CallsIn Fence.wide 0 P f us.toArray w fun e w' => ∃ u, e = .returned u ∧ Back w0 g F hp hp' w v u w'

/-! ### Values that name nothing above a number -/
inductive RB (n : Nat) : AV → Prop where
  | undef : RB n .undef
  | bool (b : Bool) : RB n (.bool b)
  | int (k : IntKind) (i : Int) : RB n (.int k i)
  | str (s : ByteArray) : RB n (.str s)
  | nilptr : RB n .nilptr
  | ptr {r off : Nat} (h : r < n) : RB n (.ptr r off)
  | eptr {cs : List AV} (h : ∀ (i : Nat) c, cs[i]? = some c → RB n c) : RB n (.eptr cs)
  | vptr {sz r ver i off : Nat} (h : r < n) : RB n (.vptr sz r ver i off)
  | slice {sz : Nat} {xs : List AV} {own : Own} (h : ∀ (i : Nat) c, (flat xs)[i]? = some c → RB n c) (ho : ∀ c e, own = .chain c e → c < n) : RB n (.slice sz xs own)
  | vec {sz r ver off l : Nat} (h : r < n) : RB n (.vec sz r ver off l)
  | map {r : Nat} (h : r < n) : RB n (.map r)
  | nilmap : RB n .nilmap
  | func {f : FuncId} {cs : List AV} (h : ∀ (i : Nat) c, cs[i]? = some c → RB n c) : RB n (.func f cs)
  | nilfunc : RB n .nilfunc
  | yield {l : Nat} (h : l < n) : RB n (.yield l)
  | iface {t : TypeId} {v : AV} (h : RB n v) : RB n (.iface t v)
  | niliface : RB n .niliface
  | agg {cs : List AV} (h : ∀ (i : Nat) c, cs[i]? = some c → RB n c) : RB n (.agg cs)
  | tuple {cs : List AV} (h : ∀ (i : Nat) c, cs[i]? = some c → RB n c) : RB n (.tuple cs)

theorem get_of_len {α β : Type} {l : List α} {m : List β} (h : l.length = m.length) {i : Nat} {x : α} (hx : l[i]? = some x) : ∃ y, m[i]? = some y := by
  have := (List.getElem?_eq_some_iff.1 hx).1
  exact ⟨m[i], List.getElem?_eq_getElem (by omega)⟩

theorem VR.rb {g : G} {n : Nat} (hn : ∀ r v x, g.loc r v = some x → r < n) {a : AV} {u : Value} (h : VR g a u) : RB n a := by
  induction h with
  | undef v => exact .undef
  | bool b => exact .bool b
  | int q n => exact .int q n
  | str s => exact .str s
  | nilptr => exact .nilptr
  | ptr h => exact .ptr (hn _ _ _ h)
  | eptr hl _ h1 hf ih => exact .eptr fun i c hc => let ⟨y, hy⟩ := get_of_len hl hc; ih i c y hc hy
  | vptr h => exact .vptr (hn _ _ _ h)
  | nils => exact .slice (fun i c hc => by simp [flat] at hc) (fun c e h => by cases h)
  | slice0 ho => exact .slice (fun i c hc => by simp [flat] at hc) (fun c e h => by rcases ho with rfl | rfl <;> cases h)
  | @slice sz xs own us b o n' cap hl hh h1 hs hn' hc hf ho ih =>
    refine .slice (fun i c hc => let ⟨y, hy⟩ := get_of_len hl hc; ih i c y hc hy) (fun c e he => ?_)
    subst he
    obtain ⟨b', e', h1, _⟩ := ho
    exact hn _ _ _ h1
  | vec h hc ho => exact .vec (hn _ _ _ h)
  | map h => exact .map (hn _ _ _ h)
  | nilmap => exact .nilmap
  | func hl _ ih => exact .func fun i c hc => let ⟨y, hy⟩ := get_of_len hl hc; ih i c y hc hy
  | nilfunc => exact .nilfunc
  | yield h => exact .yield (hn _ _ _ h)
  | iface _ ih => exact .iface ih
  | niliface => exact .niliface
  | agg hl _ h1 ih => exact .agg fun i c hc => let ⟨y, hy⟩ := get_of_len hl hc; ih i c y hc hy
  | tuple hl _ ih => exact .tuple fun i c hc => let ⟨y, hy⟩ := get_of_len hl hc; ih i c y hc hy

/-- The ghosts below a number. -/
def G.cut (g : G) (n : Nat) : G := { g with loc := fun r v => if r < n then g.loc r v else none }
theorem G.cut_loc {g : G} {n r v : Nat} {x : Nat × Nat × Nat} (h : g.loc r v = some x) (hr : r < n) : (g.cut n).loc r v = some x := by simp [G.cut, hr, h]

theorem VR.cut {g : G} {n : Nat} {a : AV} {u : Value} (h : VR g a u) : RB n a → VR (g.cut n) a u := by
  induction h with
  | undef v => exact fun _ => .undef v
  | bool b => exact fun _ => .bool b
  | int q n => exact fun _ => .int q n
  | str s => exact fun _ => .str s
  | nilptr => exact fun _ => .nilptr
  | ptr h => intro k; cases k with | ptr hr => exact .ptr (G.cut_loc h hr)
  | eptr hl _ h1 hf ih => intro k; cases k with | eptr hr => exact .eptr hl (fun i c u hc hu => ih i c u hc hu (hr i c hc)) h1 hf
  | vptr h => intro k; cases k with | vptr hr => exact .vptr (G.cut_loc h hr)
  | nils => exact fun _ => .nils
  | slice0 ho => exact fun _ => .slice0 ho
  | @slice sz xs own us b o n' cap hl hh h1 hs hn' hc hf ho ih =>
    intro k
    cases k with
    | slice hr hro =>
      refine .slice hl (fun i c u hc hu => ih i c u hc hu (hr i c hc)) h1 hs hn' hc hf ?_
      cases own with
      | chain c e =>
        obtain ⟨b', e', h1, h2⟩ := ho
        exact ⟨b', e', G.cut_loc h1 (hro c e rfl), h2⟩
      | _ => exact ho
  | vec h hc ho => intro k; cases k with | vec hr => exact .vec (G.cut_loc h hr) hc ho
  | map h => intro k; cases k with | map hr => exact .map (G.cut_loc h hr)
  | nilmap => exact fun _ => .nilmap
  | func hl _ ih => intro k; cases k with | func hr => exact .func hl (fun i c u hc hu => ih i c u hc hu (hr i c hc))
  | nilfunc => exact fun _ => .nilfunc
  | yield h => intro k; cases k with | yield hr => exact .yield (G.cut_loc h hr)
  | iface _ ih => intro k; cases k with | iface hr => exact .iface (ih hr)
  | niliface => exact fun _ => .niliface
  | agg hl _ h1 ih => intro k; cases k with | agg hr => exact .agg hl (fun i c u hc hu => ih i c u hc hu (hr i c hc)) h1
  | tuple hl _ ih => intro k; cases k with | tuple hr => exact .tuple hl (fun i c u hc hu => ih i c u hc hu (hr i c hc))

theorem VRs.split {g : G} {a b : List AV} {us : List Value} (h : VRs g (a ++ b) us) : VRs g a (us.take a.length) ∧ VRs g b (us.drop a.length) := by
  have h1 := h.take a.length
  have h2 := h.drop a.length
  rw [List.take_left] at h1
  rw [List.drop_left] at h2
  exact ⟨h1, h2⟩
theorem VRs.uncons {g : G} {x : AV} {a : List AV} {us : List Value} (h : VRs g (x :: a) us) : ∃ u vs, us = u :: vs ∧ VR g x u ∧ VRs g a vs := by
  cases us with
  | nil => have := h.1; simp at this
  | cons u vs => exact ⟨u, vs, rfl, h.2 0 x u rfl rfl, by have := h.1; simpa using this, fun i c u hc hu => h.2 (i + 1) c u (by simpa using hc) (by simpa using hu)⟩
theorem VRs.single {g : G} {x : AV} {us : List Value} (h : VRs g [x] us) : ∃ u, us = [u] ∧ VR g x u := by
  obtain ⟨u, vs, rfl, h1, h2⟩ := h.uncons
  have : vs = [] := List.eq_nil_of_length_eq_zero h2.1.symm
  subst this
  exact ⟨u, rfl, h1⟩
theorem VRs.one {g : G} {x : AV} {u : Value} (h : VR g x u) : VRs g [x] [u] := VRs.cons h (VRs.nil g)

theorem freeze_sound {g : G} {h : Tr HObj} {base : Nat} : ∀ (f : Nat),
    (∀ v v', freeze h base f v = some v' → (∀ u, VR g v u → VR g v' u ∧ RB base v') ∧ v'.cells.length = v.cells.length ∧ (∀ us, VRs g v.cells us → VRs g v'.cells us ∧ ∀ c ∈ v'.cells, RB base c)) ∧
    (∀ vs vs', freezes h base f vs = some vs' → vs'.length = vs.length ∧ (∀ us, VRs g vs us → VRs g vs' us ∧ ∀ c ∈ vs', RB base c) ∧ (∀ us, VRs g (flat vs) us → VRs g (flat vs') us ∧ ∀ c ∈ flat vs', RB base c) ∧
      ∀ sz, (∀ x ∈ vs, x.cells.length = sz) → ∀ x ∈ vs', x.cells.length = sz) := by
  intro f
  induction f with
  | zero => exact ⟨fun v v' h => by simp [freeze] at h, fun vs vs' h => by simp [freezes] at h⟩
  | succ f ih =>
    obtain ⟨ih1, ih2⟩ := ih
    have idx : ∀ {cs : List AV}, (∀ c ∈ cs, RB base c) → ∀ (i : Nat) c, cs[i]? = some c → RB base c := fun hh i c hc => hh c (List.mem_of_getElem? hc)
    have one : ∀ {v v' : AV}, v.cells = [v] → v'.cells = [v'] → (∀ u, VR g v u → VR g v' u ∧ RB base v') →
        (∀ u, VR g v u → VR g v' u ∧ RB base v') ∧ v'.cells.length = v.cells.length ∧ (∀ us, VRs g v.cells us → VRs g v'.cells us ∧ ∀ c ∈ v'.cells, RB base c) := by
      intro v v' e1 e2 hh
      refine ⟨hh, by rw [e1, e2]; rfl, fun us hus => ?_⟩
      rw [e1] at hus
      obtain ⟨u, rfl, hu⟩ := hus.single
      obtain ⟨k1, k2⟩ := hh u hu
      rw [e2]
      exact ⟨VRs.one k1, fun c hc => by simp at hc; subst hc; exact k2⟩
    refine ⟨fun v v' hv => ?_, fun vs vs' hv => ?_⟩
    · cases v <;> simp only [freeze, Option.some.injEq] at hv
      case undef => subst hv; exact one rfl rfl fun u hu => ⟨hu, .undef⟩
      case bool b => subst hv; exact one rfl rfl fun u hu => ⟨hu, .bool b⟩
      case int k n => subst hv; exact one rfl rfl fun u hu => ⟨hu, .int k n⟩
      case str b => subst hv; exact one rfl rfl fun u hu => ⟨hu, .str b⟩
      case nilptr => subst hv; exact one rfl rfl fun u hu => ⟨hu, .nilptr⟩
      case ptr r o =>
        cases hb : base.ble r with
        | true => rw [hb] at hv; simp at hv
        | false =>
          rw [hb] at hv; simp only [cond_false, Option.some.injEq] at hv; subst hv
          exact one rfl rfl fun u hu => ⟨hu, .ptr (by rcases Nat.lt_or_ge r base with h1 | h1; exact h1; rw [Nat.ble_eq_true_of_le h1] at hb; cases hb)⟩
      case eptr cs =>
        split at hv <;> try contradiction
        rename_i cs' hcs
        simp only [Option.some.injEq] at hv; subst hv
        refine one rfl rfl fun u hu => ?_
        cases hu with
        | eptr hl hh h1 hf =>
          obtain ⟨k1, k2⟩ := (ih2 _ _ hcs).2.1 _ ⟨hl, hh⟩
          exact ⟨.eptr k1.1 k1.2 h1 hf, .eptr (idx k2)⟩
      case lptr => subst hv; exact one rfl rfl fun u hu => ⟨.undef u, .undef⟩
      case vptr sz r ver i o =>
        cases hb : base.ble r with
        | true => rw [hb] at hv; simp at hv
        | false =>
          rw [hb] at hv; simp only [cond_false, Option.some.injEq] at hv; subst hv
          exact one rfl rfl fun u hu => ⟨hu, .vptr (by rcases Nat.lt_or_ge r base with h1 | h1; exact h1; rw [Nat.ble_eq_true_of_le h1] at hb; cases hb)⟩
      case slice sz xs own =>
        split at hv <;> try contradiction
        rename_i xs' hxs
        simp only [Option.some.injEq] at hv; subst hv
        refine one rfl rfl fun u hu => ?_
        cases hu with
        | nils =>
          have : xs' = [] := List.eq_nil_of_length_eq_zero (ih2 _ _ hxs).1
          subst this
          exact ⟨.nils, .slice (fun i c hc => by simp [flat] at hc) (fun c e h => by cases h)⟩
        | slice0 ho =>
          have : xs' = [] := List.eq_nil_of_length_eq_zero (ih2 _ _ hxs).1
          subst this
          rcases ho with rfl | rfl
          · exact ⟨.slice0 (.inl rfl), .slice (fun i c hc => by simp [flat] at hc) (fun c e h => by cases h)⟩
          · exact ⟨.slice0 (.inr rfl), .slice (fun i c hc => by simp [flat] at hc) (fun c e h => by cases h)⟩
        | @slice _ _ _ us b o n' cap hl hh h1 hs hn' hc hf ho =>
          obtain ⟨l1, _, l3, l4⟩ := ih2 _ _ hxs
          obtain ⟨k1, k2⟩ := l3 _ ⟨hl, hh⟩
          refine ⟨.slice k1.1 k1.2 h1 (l4 _ hs) (by rw [l1]; exact hn') hc hf ?_, .slice (idx k2) ?_⟩
          · cases own with
            | chain c e =>
              simp only
              cases hb : base.ble c with
              | true => exact True.intro
              | false => exact ho
            | _ => exact ho
          · intro c e he
            cases own with
            | chain c' e' =>
              simp only at he
              cases hb : base.ble c' with
              | true => rw [hb] at he; cases he
              | false =>
                rw [hb] at he; simp only [cond_false, Own.chain.injEq] at he
                obtain ⟨rfl, rfl⟩ := he
                rcases Nat.lt_or_ge c' base with h1 | h1
                · exact h1
                · rw [Nat.ble_eq_true_of_le h1] at hb; cases hb
            | _ => cases he
      case vec sz r ver off n =>
        cases hb : base.ble r with
        | true => rw [hb] at hv; simp at hv
        | false =>
          rw [hb] at hv; simp only [cond_false, Option.some.injEq] at hv; subst hv
          exact one rfl rfl fun u hu => ⟨hu, .vec (by rcases Nat.lt_or_ge r base with h1 | h1; exact h1; rw [Nat.ble_eq_true_of_le h1] at hb; cases hb)⟩
      case map r =>
        cases hb : base.ble r with
        | true => rw [hb] at hv; simp at hv
        | false =>
          rw [hb] at hv; simp only [cond_false, Option.some.injEq] at hv; subst hv
          exact one rfl rfl fun u hu => ⟨hu, .map (by rcases Nat.lt_or_ge r base with h1 | h1; exact h1; rw [Nat.ble_eq_true_of_le h1] at hb; cases hb)⟩
      case nilmap => subst hv; exact one rfl rfl fun u hu => ⟨hu, .nilmap⟩
      case func ff cs =>
        split at hv <;> try contradiction
        rename_i cs' hcs
        simp only [Option.some.injEq] at hv; subst hv
        refine one rfl rfl fun u hu => ?_
        cases hu with
        | func hl hh =>
          obtain ⟨k1, k2⟩ := (ih2 _ _ hcs).2.1 _ ⟨hl, hh⟩
          exact ⟨.func k1.1 k1.2, .func (idx k2)⟩
      case yield l =>
        cases hb : base.ble l with
        | true => rw [hb] at hv; simp at hv
        | false =>
          rw [hb] at hv; simp only [cond_false, Option.some.injEq] at hv; subst hv
          exact one rfl rfl fun u hu => ⟨hu, .yield (by rcases Nat.lt_or_ge l base with h1 | h1; exact h1; rw [Nat.ble_eq_true_of_le h1] at hb; cases hb)⟩
      case nilfunc => subst hv; exact one rfl rfl fun u hu => ⟨hu, .nilfunc⟩
      case iface t x =>
        split at hv <;> try contradiction
        rename_i x' hx
        simp only [Option.some.injEq] at hv; subst hv
        refine one rfl rfl fun u hu => ?_
        cases hu with
        | iface hq =>
          obtain ⟨k1, k2⟩ := (ih1 _ _ hx).1 _ hq
          exact ⟨.iface k1, .iface k2⟩
      case niliface => subst hv; exact one rfl rfl fun u hu => ⟨hu, .niliface⟩
      case agg cs =>
        split at hv <;> try contradiction
        rename_i cs' hcs
        simp only [Option.some.injEq] at hv; subst hv
        obtain ⟨l1, l2, _, _⟩ := ih2 _ _ hcs
        refine ⟨fun u hu => ?_, l1, fun us hus => l2 us hus⟩
        cases hu with
        | agg hl hh h1 =>
          obtain ⟨k1, k2⟩ := l2 _ ⟨hl, hh⟩
          exact ⟨.agg k1.1 k1.2 h1, .agg (idx k2)⟩
      case tuple cs =>
        split at hv <;> try contradiction
        rename_i cs' hcs
        simp only [Option.some.injEq] at hv; subst hv
        refine one rfl rfl fun u hu => ?_
        cases hu with
        | tuple hl hh =>
          obtain ⟨k1, k2⟩ := (ih2 _ _ hcs).2.1 _ ⟨hl, hh⟩
          exact ⟨.tuple k1.1 k1.2, .tuple (idx k2)⟩
      case box => subst hv; exact one rfl rfl fun u hu => by cases hu
    · cases vs with
      | nil =>
        simp only [freezes, Option.some.injEq] at hv; subst hv
        exact ⟨rfl, fun us hus => ⟨hus, fun c hc => by cases hc⟩, fun us hus => ⟨hus, fun c hc => by cases hc⟩, fun sz hs => hs⟩
      | cons v vs =>
        simp only [freezes] at hv
        split at hv <;> try contradiction
        rename_i x hx
        split at hv <;> try contradiction
        rename_i xs hxs
        simp only [Option.some.injEq] at hv; subst hv
        obtain ⟨a1, a2, a3⟩ := ih1 _ _ hx
        obtain ⟨b1, b2, b3, b4⟩ := ih2 _ _ hxs
        refine ⟨by simp [b1], fun us hus => ?_, fun us hus => ?_, fun sz hs y hy => ?_⟩
        · obtain ⟨u, us', rfl, h1, h2⟩ := hus.uncons
          obtain ⟨k1, k2⟩ := a1 u h1
          obtain ⟨k3, k4⟩ := b2 us' h2
          exact ⟨VRs.cons k1 k3, fun c hc => (List.mem_cons.1 hc).elim (fun e => e ▸ k2) (k4 c)⟩
        · simp only [flat] at hus ⊢
          obtain ⟨h1, h2⟩ := hus.split
          obtain ⟨k1, k2⟩ := a3 _ h1
          obtain ⟨k3, k4⟩ := b3 _ h2
          refine ⟨?_, fun c hc => (List.mem_append.1 hc).elim (k2 c) (k4 c)⟩
          have := k1.append k3
          rwa [List.take_append_drop] at this
        · rcases List.mem_cons.1 hy with rfl | hy
          · rw [a2]; exact hs v (by simp)
          · exact b4 sz (fun z hz => hs z (by simp [hz])) y hy

section
variable {P : Program} {F0 : Lab → Option HObj} {N : Nat} {w0 : World} {g : G} {F : Lab → Option HObj} {s s' : St} {a : Act} {w : World}

theorem WR.fr_lt (h : WR g F w0 w) {b : Nat} {o : HObj} (hF : F (.fr b) = some o) : b < w.heap.size := by
  have k := h.obj _ _ hF
  cases o with
  | box cs => obtain ⟨b', us, t, h1, h2, _⟩ := k; simp only [G.at_, Option.some.injEq, Prod.mk.injEq] at h1; obtain ⟨rfl, _⟩ := h1; exact lt_of_get h2
  | vec sz ver xs => obtain ⟨b', cap, us, cells, t, h1, h2, _⟩ := k; simp only [G.at_, Option.some.injEq, Prod.mk.injEq] at h1; obtain ⟨rfl, _⟩ := h1; exact lt_of_get h2
  | chain sz tip =>
    obtain ⟨b', e, sp, h1, h2, h3, h4⟩ := k
    simp only [G.at_] at h4
    have := h4 (tip + 1) (by omega)
    cases this
  | map es => obtain ⟨b', ents, clock, h1, h2, _⟩ := k; simp only [G.at_, Option.some.injEq, Prod.mk.injEq] at h1; obtain ⟨rfl, _⟩ := h1; exact lt_of_get h2
  | iter s pos => obtain ⟨b', h1, h2, _⟩ := k; simp only [G.at_, Option.some.injEq, Prod.mk.injEq] at h1; obtain ⟨rfl, _⟩ := h1; exact lt_of_get h2
  | miter _ _ => exact k.elim
  | loop f ps e A B aA aB st => obtain ⟨b', rec, h1, h2, _⟩ := k; simp only [G.at_, Option.some.injEq, Prod.mk.injEq] at h1; obtain ⟨rfl, _⟩ := h1; exact lt_of_get h2
  | dblk op => obtain ⟨b', h1, h2, _⟩ := k; simp only [G.at_, Option.some.injEq, Prod.mk.injEq] at h1; obtain ⟨rfl, _⟩ := h1; exact lt_of_get h2

theorem Rel.loc_lt (h : Rel F0 N w0 g F s a w) : ∀ r v x, g.loc r v = some x → r < s.nx := by
  intro r v x hx
  rcases Nat.lt_or_ge r s.nx with h1 | h1
  · exact h1
  · have hn := h.top r h1
    have := h.fresh r (Nat.le_trans h.rb (Nat.le_trans h.nx h1)) hn v
    rw [this] at hx; cases hx

theorem OR.cut {g : G} {n : Nat} {w : World} {l : Lab} {o : HObj} {g0 : G} {w1 : World} (hle : g0.le (g.cut n)) (hn : ∀ r v x, g0.loc r v = some x → r < n) (h0 : OR g0 w1 l o) (h : OR g w l o) : OR (g.cut n) w l o := by
  have hat : ∀ {v x}, g0.at_ l v = some x → g.at_ l v = some x → (g.cut n).at_ l v = some x := by
    intro v x h1 h2
    cases l with
    | hp r => exact G.cut_loc h2 (hn _ _ _ h1)
    | fr b => exact h2
  have hat2 : ∀ {v x y}, g0.at_ l v = some y → g.at_ l v = some x → (g.cut n).at_ l v = some x := by
    intro v x y h1 h2
    cases l with
    | hp r => exact G.cut_loc h2 (hn _ _ _ h1)
    | fr b => exact h2
  have hnone : ∀ {v}, g.at_ l v = none → (g.cut n).at_ l v = none := by
    intro v h1
    cases l with
    | hp r => simp only [G.at_, G.cut] at h1 ⊢; split <;> simp [h1]
    | fr b => exact h1
  have hvs : ∀ {cs us us'}, VRs g0 cs us → VRs g cs us' → VRs (g.cut n) cs us' := by
    intro cs us us' h1 h2
    refine ⟨h2.1, fun i c u hc hu => ?_⟩
    obtain ⟨y, hy⟩ := get_of_len h1.1 hc
    exact (h2.2 i c u hc hu).cut ((h1.2 i c y hc hy).rb hn)
  cases o with
  | box cs =>
    obtain ⟨b0, us0, t0, p1, p2, p3, p4, p5⟩ := h0
    obtain ⟨b, us, t, h1, h2, h3, h4, h5⟩ := h
    exact ⟨b, us, t, hat2 p1 h1, h2, hvs p3 h3, h4, h5⟩
  | vec sz ver xs =>
    obtain ⟨b0, cap0, us0, cells0, t0, p1, p2, p3, p4, p5, p6, p7, p8, p9, p10, p11⟩ := h0
    obtain ⟨b, cap, us, cells, t, h1, h2, h3, h4, h5, h6, h7, h8, h9, h10, h11⟩ := h
    exact ⟨b, cap, us, cells, t, hat2 p1 h1, h2, h3, h4, hvs p5 h5, h6, h7, h8, h9, h10, fun v hv => hnone (h11 v hv)⟩
  | chain sz tip =>
    obtain ⟨b0, e0, sp0, p1, p2, p3, p4⟩ := h0
    obtain ⟨b, e, sp, h1, h2, h3, h4⟩ := h
    exact ⟨b, e, sp, hat2 p1 h1, h2, h3, fun v hv => hnone (h4 v hv)⟩
  | map es =>
    obtain ⟨b0, ents0, clock0, p1, p2, p3, p4⟩ := h0
    obtain ⟨b, ents, clock, h1, h2, h3, h4⟩ := h
    refine ⟨b, ents, clock, hat2 p1 h1, h2, ⟨h3.1, fun i k v e hk he => ?_⟩, h4⟩
    have hlt : i < ents0.size := by have := (List.getElem?_eq_some_iff.1 hk).1; have := p3.1; omega
    obtain ⟨q1, q2⟩ := p3.2 i k v _ hk (Array.getElem?_eq_getElem hlt)
    obtain ⟨r1, r2⟩ := h3.2 i k v e hk he
    exact ⟨r1.cut (q1.rb hn), r2.cut (q2.rb hn)⟩
  | iter s pos =>
    obtain ⟨b0, p1, p2, p3⟩ := h0
    obtain ⟨b, h1, h2, h3⟩ := h
    exact ⟨b, hat2 p1 h1, h2, h3⟩
  | miter _ _ => exact h
  | loop f ps e A B aA aB st =>
    obtain ⟨b0, rec0, p1, p2, p3, p4, p5, _⟩ := h0
    obtain ⟨b, rec, h1, h2, h3, h4, h5, h6⟩ := h
    refine ⟨b, rec, hat2 p1 h1, h2, h3, h4, fun i v hi => ?_, h6⟩
    obtain ⟨u0, q1, q2⟩ := p5 i v hi
    obtain ⟨u, r1, r2⟩ := h5 i v hi
    exact ⟨u, r1, r2.cut (q2.rb hn)⟩
  | dblk op =>
    obtain ⟨b0, p1, p2, p3⟩ := h0
    obtain ⟨b, h1, h2, h3⟩ := h
    exact ⟨b, hat2 p1 h1, h2, h3⟩

theorem Frm.trans {Fa Fb Fc : Lab → Option HObj} {ro ro' N N' : Nat} (h : Frm Fa Fb ro N) (k : Frm Fb Fc ro' N') (h1 : ro ≤ ro') (h2 : N ≤ N') : Frm Fa Fc ro N :=
  ⟨fun r o hr ho => k.hp r o (by omega) (h.hp r o hr ho), fun b o hb ho => k.fr b o (by omega) (h.fr b o hb ho)⟩

theorem Rel.behind (h : Rel F0 N w0 g F s a w) {hp1 : Hp} {v : AV} {u : Value} {w' : World} (hb : Back w0 g F ⟨s.h, s.nx, s.ro⟩ hp1 w v u w') :
    ∃ g' F', Moves s { s with h := hp1.h, nx := hp1.nx } g g' ∧ VR g' v u ∧ Rel F0 N w0 g' F' { s with h := hp1.h, nx := hp1.nx } a w' := by
  obtain ⟨g', F', k1, k2, k3, k4, k5, k6, k7⟩ := hb
  simp only at k4 k5 k6
  have k5' : hp1.ro = s.ro := k5
  have k6' : s.nx ≤ hp1.nx := k6
  exact ⟨g', F', ⟨k1, rfl, k6'⟩, k2, h.er.mono k1.le (fun b cs _ hb => k4.fr b _ (h.wr.fr_lt hb) hb), h.df.mono k1.le, k3.wr, k3.old, fun r hr => k3.hx r (by rw [k5']; exact hr), fun r hr => k3.fresh r (by rw [k5']; exact hr), k3.top, h.rb, Nat.le_trans h.nx k6', h.frm.trans k4 (Nat.le_refl _) h.big, Nat.le_trans h.big k7⟩

theorem doCall_sound {call : Call} (hcall : CSound P w0 call) {m : Nat} {f : FuncId} {args : List AV} {us : List Value} {v : AV} (hff : f < ycode) (hgP : g.P = P) (hm : m < 2) (hs : doCall call s m f args = some (v, s')) (h : Rel F0 N w0 g F s a w) (hv : VRs g args us) :
    Does P f us.toArray w fun u w' => ∃ g' F', Moves s s' g g' ∧ VR g' v u ∧ s'.e = s.e ∧ Rel F0 N w0 g' F' s' a w' := by
  match m, hm with
  | 0, _ =>
    simp only [doCall] at hs
    split at hs <;> try contradiction
    rename_i v1 hp1 hc
    split at hs <;> try contradiction
    rename_i v2 hfz
    simp only [Option.some.injEq, Prod.mk.injEq] at hs
    obtain ⟨rfl, rfl⟩ := hs
    have hnx0 : s.ro ≤ s.nx := Nat.le_trans h.rb h.nx
    have hr0 : HR g F w0 w ⟨.nil, s.nx, s.nx⟩ := ⟨h.wr, fun r o hr => by simp [Tr.get_nil] at hr, fun r hr => by rw [h.hx r (by simp at hr; omega)]; exact h.top r hr, fun r hr _ v => h.fresh r (by simp at hr; omega) (h.top r hr) v, fun r _ => Tr.get_nil r, Nat.le_refl _⟩
    refine (hcall f hff args _ v1 hp1 hc g F us w hgP hr0 hv).mono fun u w' hb => ?_
    obtain ⟨g', F', k1, k2, k3, k4, k5, k6, k7⟩ := hb
    obtain ⟨q1, q2⟩ := ((freeze_sound deep).1 _ _ hfz).1 _ k2
    have hlt := h.loc_lt
    have hle : g.le (g'.cut s.nx) := ⟨k1.le.prog, k1.le.fz, fun r v x hx => G.cut_loc (k1.le.loc _ _ _ hx) (hlt _ _ _ hx)⟩
    have hsub : ∀ l o, F l = some o → F' l = some o := by
      intro l o hl
      cases l with
      | hp r =>
        rcases Nat.lt_or_ge r s.nx with h1 | h1
        · exact k4.hp r o h1 hl
        · rw [h.hx r (by omega), h.top r h1] at hl; cases hl
      | fr b => exact k4.fr b o (h.wr.fr_lt hl) hl
    have hwr : WR (g'.cut s.nx) F w0 w' := by
      refine ⟨k3.wr.below, k3.wr.fz, k3.wr.own, fun l o hl => ?_⟩
      exact OR.cut hle hlt (h.wr.obj l o hl) (k3.wr.obj l o (hsub l o hl))
    have hlo : ∀ r v, g.loc r v = none → (g'.cut s.nx).loc r v = none := by
      intro r v h0
      simp only [G.cut]
      split
      · exact k1.lo r v (by assumption) h0
      · rfl
    refine ⟨g'.cut s.nx, F, .of ⟨hle, fun r v _ h0 => hlo r v h0⟩ rfl rfl, q1.cut q2, rfl, h.er.mono hle (fun _ _ _ hh => hh), h.df.mono hle, hwr, h.hp, h.hx, fun r hr hn v => ?_, h.top, h.rb, h.nx, h.frm, Nat.le_trans h.big k7⟩
    exact hlo r v (h.fresh r hr hn v)
  | 1, _ =>
    simp only [doCall] at hs
    split at hs <;> try contradiction
    rename_i v1 hp1 hc
    simp only [Option.some.injEq, Prod.mk.injEq] at hs
    obtain ⟨rfl, rfl⟩ := hs
    have hnx0 : s.ro ≤ s.nx := Nat.le_trans h.rb h.nx
    have hr0 : HR g F w0 w ⟨s.h, s.nx, s.ro⟩ := ⟨h.wr, h.hp, h.hx, h.fresh, h.top, hnx0⟩
    refine (hcall f hff args _ v1 hp1 hc g F us w hgP hr0 hv).mono fun u w' hb => ?_
    obtain ⟨g', F', k1, k2, k3, k4, k5, k6, k7⟩ := hb
    simp only at k4 k5 k6
    have k5' : hp1.ro = s.ro := k5
    have k6' : s.nx ≤ hp1.nx := k6
    refine ⟨g', F', ⟨k1, rfl, k6'⟩, k2, rfl, h.er.mono k1.le (fun b cs _ hb => k4.fr b _ (h.wr.fr_lt hb) hb), h.df.mono k1.le, k3.wr, k3.old, fun r hr => k3.hx r (by rw [k5']; exact hr), fun r hr => k3.fresh r (by rw [k5']; exact hr), k3.top, h.rb, Nat.le_trans h.nx k6', h.frm.trans k4 (Nat.le_refl _) h.big, Nat.le_trans h.big k7⟩
end
end Go.Proofs.YtohncbgkiojlnaaGreatDoor.Am
