/- A table out of hints. -/
import Derived.Test.YtohncbgkiojlnaaGreatDoorAm29
set_option linter.unusedVariables false
set_option linter.unusedSimpArgs false
namespace Go.Proofs.YtohncbgkiojlnaaGreatDoor.Am

/-- The functions of a program that have a hint, compiled when they are called. -/
def tabOf (P : Program) (modeOf : FuncId → Nat) (hint : FuncId → Option (Bool × Hint)) : Tab := fun f => match hint f with
  | none => none
  | some (hd, H) => match P.funcs[f]? with
    | none => none
    | some fn => bif hd then cFuncH P modeOf H fn else cFunc P modeOf H fn

theorem cFunc_plain {P : Program} {modeOf : FuncId → Nat} {H : Hint} {f : Func} {fn : AFunc} (h : cFunc P modeOf H f = some fn) : fn.handler = false := by
  simp only [cFunc, Option.bind_eq_bind, Option.bind_eq_some_iff] at h
  obtain ⟨_, _, _, _, _, _, h⟩ := h
  rw [cond_some'] at h
  rw [← h.2]
theorem cFuncH_handler {P : Program} {modeOf : FuncId → Nat} {H : Hint} {f : Func} {fn : AFunc} (h : cFuncH P modeOf H f = some fn) : fn.handler = true := by
  simp only [cFuncH] at h
  split at h <;> try contradiction
  split at h <;> try contradiction
  split at h <;> try contradiction
  rw [cond_some] at h
  rw [← h.2]

theorem tabOk (P : Program) (modeOf : FuncId → Nat) (hint : FuncId → Option (Bool × Hint)) : TabOk P (tabOf P modeOf hint) := by
  intro f fn h
  simp only [tabOf] at h
  split at h <;> try contradiction
  rename_i hd H hh
  split at h <;> try contradiction
  rename_i fn0 hf
  refine ⟨fn0, modeOf, H, hf, ?_⟩
  cases hd with
  | false => exact .inl ⟨cFunc_plain h, h⟩
  | true => exact .inr ⟨cFuncH_handler h, h⟩
end Go.Proofs.YtohncbgkiojlnaaGreatDoor.Am
