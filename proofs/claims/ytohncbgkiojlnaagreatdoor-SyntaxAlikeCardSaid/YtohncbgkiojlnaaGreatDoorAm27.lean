/- The machine's own functions that are met. -/
import Derived.Test.YtohncbgkiojlnaaGreatDoorAm26
import Derived.Lib.Bytealg
set_option linter.unusedVariables false
set_option linter.unusedSimpArgs false
namespace Go.Proofs.YtohncbgkiojlnaaGreatDoor.Am

def natIdx : Call := fun _ args hp => match args with
  | [.str b, .int .u8 c] => some (.int .i64 (Lib.indexByte b.data.toList c.toNat.toUInt8), hp)
  | _ => none
def natCnt : Call := fun _ args hp => match args with
  | [.str b, .int .u8 c] => some (.int .i64 (Lib.countByte b.data.toList c.toNat.toUInt8), hp)
  | _ => none
def natTab (I C : List Nat) : FuncId → Option Call := fun f => bif mem f I then some natIdx else bif mem f C then some natCnt else none

/-- A function of no body whose entry is known. -/
def IsExt (P : Program) (f : FuncId) (e : Array Value → Sem Value) : Prop :=
  ∃ fn, P.funcs[f]? = some fn ∧ (fn.name == "runtime.NumGoroutine") = false ∧ fn.body.isNone = true ∧ Extern.findNext fn = none ∧ Extern.find fn = some e

theorem back_same {g : G} {F : Lab → Option HObj} {w0 w : World} {hp : Hp} (h : HR g F w0 w hp) {v : AV} {u : Value} (hv : VR g v u) : Back w0 g F hp hp w v u w :=
  ⟨g, F, G.ext.refl _ g, hv, h, ⟨fun _ _ _ h => h, fun _ _ _ h => h⟩, rfl, Nat.le_refl _, Nat.le_refl _⟩

theorem two_args {g : G} {b : ByteArray} {c : Int} {us : List Value} (h : VRs g [.str b, .int .u8 c] us) : us = [.string b, .int .u8 c] := by
  obtain ⟨u, vs, rfl, h1, h2⟩ := h.uncons
  obtain ⟨u2, rfl, h3⟩ := h2.single
  cases h1; cases h3; rfl

theorem natOk {P : Program} {w0 : World} {I C : List Nat} (hI : ∀ f ∈ I, IsExt P f Extern.BytealgIndexByte.indexByte) (hC : ∀ f ∈ C, IsExt P f Extern.BytealgCount.count) : NatOk P w0 (natTab I C) := by
  intro f nf hnf args hp v hp' hs g F us w hr hv
  simp only [natTab] at hnf
  cases h1 : mem f I with
  | true =>
    rw [h1] at hnf
    simp only [cond_true, Option.some.injEq] at hnf; subst hnf
    simp only [natIdx] at hs
    split at hs <;> try contradiction
    rename_i b c
    simp only [Option.some.injEq, Prod.mk.injEq] at hs
    obtain ⟨rfl, rfl⟩ := hs
    obtain rfl := two_args hv
    obtain ⟨fn, k1, k2, k3, k4, k5⟩ := hI f (mem_iff.1 h1)
    refine .inr ⟨_, w, ?_, back_same hr (.int .i64 _)⟩
    rw [run_callFunc_extern k1 k2 k3 k4 k5, Lib.run_indexByteString]
    rfl
  | false =>
    rw [h1] at hnf
    simp only [cond_false] at hnf
    rw [cond_some] at hnf
    obtain ⟨h2, rfl⟩ := hnf
    simp only [natCnt] at hs
    split at hs <;> try contradiction
    rename_i b c
    simp only [Option.some.injEq, Prod.mk.injEq] at hs
    obtain ⟨rfl, rfl⟩ := hs
    obtain rfl := two_args hv
    obtain ⟨fn, k1, k2, k3, k4, k5⟩ := hC f (mem_iff.1 h2)
    refine .inr ⟨_, w, ?_, back_same hr (.int .i64 _)⟩
    rw [run_callFunc_extern k1 k2 k3 k4 k5, Lib.run_countString]
    rfl
end Go.Proofs.YtohncbgkiojlnaaGreatDoor.Am
