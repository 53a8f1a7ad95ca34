/- Operations that ask nothing of the heap, and operations that only read it. -/
import Derived.Test.YtohncbgkiojlnaaGreatDoorAm22
set_option linter.unusedVariables false
set_option linter.unusedSimpArgs false
namespace Go.Proofs.YtohncbgkiojlnaaGreatDoor.Am
theorem ev_t {s t : St} {x : X} : (t.sete s.e).ev x = s.ev x := by cases x <;> rfl
theorem evs_t {s t : St} {xs : List X} : (t.sete s.e).evs xs = s.evs xs := by
  induction xs with
  | nil => rfl
  | cons x xs ih => simp only [St.evs, ev_t, ih]
theorem idx_t {s t : St} {x : X} : (t.sete s.e).idx x = s.idx x := by simp only [St.idx, ev_t]
theorem opt_t {s t : St} {x : Option X} : opt (t.sete s.e).ev x = opt s.ev x := by cases x <;> simp only [opt, ev_t]
theorem here_t {s t : St} {l : Option Nat} {d g : Nat} : (t.sete s.e).here l d g = s.here l d g := rfl
theorem fillParts_t {s t : St} : ∀ {ps : List (Nat × Nat × X)} {cs : List AV}, fillParts (t.sete s.e) cs ps = fillParts s cs ps := by
  intro ps
  induction ps with
  | nil => intro cs; rfl
  | cons p ps ih =>
    obtain ⟨off, n, x⟩ := p
    intro cs
    simp only [fillParts, ev_t]
    cases told (s.ev x) with
    | none => rfl
    | some v => simp only [ih]
theorem fillElems_t {s t : St} {sz : Nat} : ∀ {ps : List (Nat × X)} {cs : List AV}, fillElems (t.sete s.e) sz cs ps = fillElems s sz cs ps := by
  intro ps
  induction ps with
  | nil => intro cs; rfl
  | cons p ps ih =>
    obtain ⟨i, x⟩ := p
    intro cs
    simp only [fillElems, ev_t]
    cases told (s.ev x) with
    | none => rfl
    | some v => simp only [ih]

def isN : HC → Bool
  | .n => true
  | _ => false
def isRd : HC → Bool
  | .n => true
  | .r => true
  | .o => true
  | _ => false

theorem step_free {call : Call} {s t : St} (o : AOp) (hn : isN (hc o) = true) : step call o (t.sete s.e) = (step call o s).map fun r => (r.1, t.sete r.2.e) := by
  cases o
  case call m f as_ => match m with
    | 0 => simp [hc, isN] at hn
    | 1 => simp [hc, isN] at hn
    | 2 => simp [hc, isN] at hn
    | 3 => simp [hc, isN] at hn
    | 4 => simp [hc, isN] at hn
    | _ + 5 => simp [hc, isN] at hn
  case cav m f as_ => match m with
    | 0 => simp [hc, isN] at hn
    | 1 => simp [hc, isN] at hn
    | 2 => simp [hc, isN] at hn
    | 3 => simp [hc, isN] at hn
    | 4 => simp [hc, isN] at hn
    | _ + 5 => simp [hc, isN] at hn
  case mlen old x => cases old <;> simp [hc, isN] at hn
  case lku ks sc old z ok m key => cases old <;> simp [hc, isN] at hn
  case app k sz b vec d x => cases vec <;> simp [hc, isN] at hn
  case lal d z =>
    simp only [step, St.lay, sete_e]
    cases hg : s.e.get d with
    | none => simp only [Option.map_some]; rfl
    | some u => cases u <;> (simp only [Option.map_some]; rfl)
  case lbx d n x =>
    simp only [step, St.lay, sete_e, ev_t]
    cases told (s.ev x) with
    | none => rfl
    | some u =>
      simp only
      cases (len u.cells).beq n with
      | false => rfl
      | true =>
        cases hg : s.e.get d with
        | none => simp only [cond_true, Option.map_some]; rfl
        | some u => cases u <;> (simp only [cond_true, Option.map_some]; rfl)
  all_goals first
    | (simp [hc, isN] at hn; done)
    | skip
  all_goals
    simp only [step, ev_t, evs_t, idx_t, opt_t, here_t, fillParts_t, fillElems_t, sete_e, cond_ite]
  all_goals (repeat' split)
  all_goals first | rfl | (simp_all; done)

theorem doCall0 {call : Call} {s : St} {f : FuncId} {args : List AV} {v : AV} {s1 : St} (h : doCall call s 0 f args = some (v, s1)) : s1 = s := by
  simp only [doCall] at h
  split at h <;> try contradiction
  split at h <;> try contradiction
  simp only [Option.some.injEq, Prod.mk.injEq] at h
  exact h.2.symm

theorem step_reads {call : Call} {s : St} (o : AOp) (hn : isRd (hc o) = true) {v : AV} {s1 : St} (h : step call o s = some (v, s1)) : s1 = s.sete s1.e := by
  cases o
  case call m f as_ => match m with
    | 0 => simp only [step] at h; rw [cond_some_one] at h; rw [doCall0 h.2]; rfl
    | 1 => simp [hc, isRd] at hn
    | 2 => simp [hc, isRd] at hn
    | 3 => simp [hc, isRd] at hn
    | 4 => simp [hc, isRd] at hn
    | _ + 5 => simp [hc, isRd] at hn
  case cav m f as_ => match m with
    | 0 =>
      simp only [step] at h
      split at h <;> try contradiction
      rw [cond_some_one] at h
      rw [doCall0 h.2]; rfl
    | 1 => simp [hc, isRd] at hn
    | 2 => simp [hc, isRd] at hn
    | 3 => simp [hc, isRd] at hn
    | 4 => simp [hc, isRd] at hn
    | _ + 5 => simp [hc, isRd] at hn
  case app k sz b vec d x => cases vec <;> simp [hc, isRd] at hn
  case lal d z =>
    simp only [step, Option.some.injEq, Prod.mk.injEq] at h
    rw [← h.2]
    simp only [St.lay]
    split <;> rfl
  case lbx d n x =>
    simp only [step] at h
    split at h <;> try contradiction
    rw [cond_some] at h
    simp only [Prod.mk.injEq] at h
    rw [← h.2.2]
    simp only [St.lay]
    split <;> rfl
  all_goals first
    | (simp [hc, isRd] at hn; done)
    | skip
  all_goals
    simp only [step, cond_ite] at h
  all_goals repeat' (first | contradiction | (split at h))
  all_goals first
    | (simp only [Option.some.injEq, Prod.mk.injEq] at h; rw [← h.2]; rfl)
    | (simp at h; done)
end Go.Proofs.YtohncbgkiojlnaaGreatDoor.Am
