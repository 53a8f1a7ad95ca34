/- What an operation looks at and what it writes; two that may change places. -/
import Derived.Test.YtohncbgkiojlnaaGreatDoorAm20
set_option linter.unusedVariables false
set_option linter.unusedSimpArgs false
namespace Go.Proofs.YtohncbgkiojlnaaGreatDoor.Am

def St.sete (s : St) (e : Tr AV) : St := { s with e := e }
@[simp] theorem sete_e (s : St) (e : Tr AV) : (s.sete e).e = e := rfl
@[simp] theorem sete_h (s : St) (e : Tr AV) : (s.sete e).h = s.h := rfl
@[simp] theorem sete_nx (s : St) (e : Tr AV) : (s.sete e).nx = s.nx := rfl
@[simp] theorem sete_rb (s : St) (e : Tr AV) : (s.sete e).rb = s.rb := rfl
@[simp] theorem sete_ro (s : St) (e : Tr AV) : (s.sete e).ro = s.ro := rfl
@[simp] theorem sete_df (s : St) (e : Tr AV) : (s.sete e).df = s.df := rfl
@[simp] theorem sete_sete (s : St) (e f : Tr AV) : (s.sete e).sete f = s.sete f := rfl
@[simp] theorem sete_self (s : St) : s.sete s.e = s := rfl
@[simp] theorem sete_at (s : St) (e : Tr AV) (v : AV) : (s.sete e).at_ v = s.at_ v := rfl
@[simp] theorem sete_source (s : St) (e : Tr AV) (v : AV) : (s.sete e).source v = s.source v := rfl
@[simp] theorem sete_free (s : St) (e : Tr AV) (k : Nat) : (s.sete e).free k = s.free k := rfl
@[simp] theorem sete_snap (s : St) (e : Tr AV) (v : AV) : (s.sete e).snap v = s.snap v := rfl

def Agree (e f : Tr AV) (l : List Nat) : Prop := ∀ i ∈ l, e.get i = f.get i

theorem ev_eq {s : St} {e : Tr AV} {x : X} (h : Agree e s.e (xSlots x)) : (s.sete e).ev x = s.ev x := by
  cases x with
  | c v => rfl
  | t i =>
    have := h i (by simp [xSlots])
    simp only [St.ev, sete_e, this]
theorem Agree.left {e f : Tr AV} {l m : List Nat} (h : Agree e f (app l m)) : Agree e f l := fun i hi => h i (by rw [app_eq]; simp [hi])
theorem Agree.right {e f : Tr AV} {l m : List Nat} (h : Agree e f (app l m)) : Agree e f m := fun i hi => h i (by rw [app_eq]; simp [hi])
theorem Agree.tail {e f : Tr AV} {i : Nat} {m : List Nat} (h : Agree e f (i :: m)) : Agree e f m := fun j hj => h j (by simp [hj])
theorem Agree.head {e f : Tr AV} {i : Nat} {m : List Nat} (h : Agree e f (i :: m)) : e.get i = f.get i := h i (by simp)
theorem evs_eq {s : St} {e : Tr AV} {xs : List X} (h : Agree e s.e (xsSlots xs)) : (s.sete e).evs xs = s.evs xs := by
  induction xs with
  | nil => rfl
  | cons x xs ih =>
    simp only [xsSlots] at h
    simp only [St.evs, ev_eq h.left, ih h.right]
theorem opt_eq {s : St} {e : Tr AV} {x : Option X} (h : Agree e s.e (oSlots x)) : opt (s.sete e).ev x = opt s.ev x := by
  cases x with
  | none => rfl
  | some x => simp only [opt, ev_eq (show Agree e s.e (xSlots x) from h)]
theorem idx_eq {s : St} {e : Tr AV} {x : X} (h : Agree e s.e (xSlots x)) : (s.sete e).idx x = s.idx x := by
  simp only [St.idx, ev_eq h]
theorem here_eq {s : St} {e : Tr AV} {l : Option Nat} {d g : Nat} (h : Agree e s.e l.toList) : (s.sete e).here l d g = s.here l d g := by
  cases l with
  | none => rfl
  | some d' => simp only [St.here, sete_e, h d' (by simp)]
theorem fillParts_eq {s : St} {e : Tr AV} : ∀ {ps : List (Nat × Nat × X)} {cs : List AV}, (∀ p ∈ ps, Agree e s.e (xSlots p.2.2)) → fillParts (s.sete e) cs ps = fillParts s cs ps := by
  intro ps
  induction ps with
  | nil => intro cs _; rfl
  | cons p ps ih =>
    obtain ⟨off, n, x⟩ := p
    intro cs h
    simp only [fillParts]
    rw [ev_eq (h (off, n, x) (by simp))]
    cases told (s.ev x) with
    | none => rfl
    | some v =>
      simp only
      cases ((len v.cells).beq n && (off + n).ble (len cs)) with
      | false => rfl
      | true => exact ih (fun p hp => h p (by simp [hp]))
theorem fillElems_eq {s : St} {e : Tr AV} {sz : Nat} : ∀ {ps : List (Nat × X)} {cs : List AV}, (∀ p ∈ ps, Agree e s.e (xSlots p.2)) → fillElems (s.sete e) sz cs ps = fillElems s sz cs ps := by
  intro ps
  induction ps with
  | nil => intro cs _; rfl
  | cons p ps ih =>
    obtain ⟨i, x⟩ := p
    intro cs h
    simp only [fillElems]
    rw [ev_eq (h (i, x) (by simp))]
    cases told (s.ev x) with
    | none => rfl
    | some v =>
      simp only
      cases ((len v.cells).beq sz && Nat.blt i (len cs)) with
      | false => rfl
      | true => exact ih (fun p hp => h p (by simp [hp]))

def puts (e : Tr AV) : List (Nat × AV) → Tr AV
  | [] => e
  | (d, v) :: l => puts (e.put d (some v)) l

/-- What an operation writes of the frame's slots by itself. -/
def outsOp : AOp → List Nat
  | .lal d _ => [d]
  | .lbx d _ _ => [d]
  | .stL d .. => [d]
  | _ => []

/-- The step at another frame that agrees on what it looks at. -/
def Local (call : Call) (o : AOp) (s : St) : Prop :=
  ∀ v s1, step call o s = some (v, s1) → ∃ L : List (Nat × AV), (∀ p ∈ L, p.1 ∈ outsOp o) ∧ s1.e = puts s.e L ∧ ∀ e2, Agree e2 s.e (ins o) → step call o (s.sete e2) = some (v, s1.sete (puts e2 L))

/-- Of most operations: the frame's slots stay. -/
theorem Local.same {call : Call} {o : AOp} {s : St} (h : ∀ e2, Agree e2 s.e (ins o) → step call o (s.sete e2) = (step call o s).map fun r => (r.1, r.2.sete e2)) (he : ∀ v s1, step call o s = some (v, s1) → s1.e = s.e) : Local call o s := by
  intro v s1 hs
  refine ⟨[], by simp, he v s1 hs, fun e2 ha => ?_⟩
  rw [h e2 ha, hs]
  rfl

theorem doCall_eq {call : Call} {s : St} {m : Nat} {f : FuncId} {args : List AV} {e : Tr AV} : doCall call (s.sete e) m f args = (doCall call s m f args).map fun r => (r.1, r.2.sete e) := by
  unfold doCall
  split
  · simp only [sete_nx]
    split <;> try rfl
    split <;> rfl
  · simp only [sete_nx, sete_h, sete_ro]
    split <;> rfl
  · simp only [sete_nx]
    have : mapO (s.sete e).snap args = mapO s.snap args := rfl
    rw [this]
    split <;> try rfl
    split <;> try rfl
    rename_i v _ _
    cases scalars v <;> rfl
  · simp only [sete_nx, sete_h]
    split <;> try rfl
    split <;> rfl
  · simp only [sete_nx, sete_h]
    split <;> rfl
theorem doCall_e {call : Call} {s : St} {m : Nat} {f : FuncId} {args : List AV} {v : AV} {s1 : St} (h : doCall call s m f args = some (v, s1)) : s1.e = s.e := by
  unfold doCall at h
  split at h
  · split at h <;> try contradiction
    split at h <;> try contradiction
    simp only [Option.some.injEq, Prod.mk.injEq] at h
    rw [← h.2]
  · split at h <;> try contradiction
    simp only [Option.some.injEq, Prod.mk.injEq] at h
    rw [← h.2]
  · split at h <;> try contradiction
    split at h <;> try contradiction
    rw [cond_some] at h
    rw [← (Prod.mk.inj h.2).2]
  · split at h <;> try contradiction
    split at h <;> try contradiction
    simp only [Option.some.injEq, Prod.mk.injEq] at h
    rw [← h.2]
  · split at h <;> try contradiction
    simp only [Option.some.injEq, Prod.mk.injEq] at h
    rw [← h.2]
end Go.Proofs.YtohncbgkiojlnaaGreatDoor.Am
