/- Functions: entered, left, and calls to any depth. -/
import Derived.Test.YtohncbgkiojlnaaGreatDoorAm19
set_option linter.unusedVariables false
set_option linter.unusedSimpArgs false
namespace Go.Proofs.YtohncbgkiojlnaaGreatDoor.Am
open Go.RowKit (Below)
open Go.MuLone

def resF (tmps : Array Value) : ResultVar → Sem Value
  | .tmp t => pure (tmps.getD t undef)
  | .cell a t => do loadVar t (← asAddr (tmps.getD a undef))
theorem results_eq (fn : Func) (tmps : Array Value) : Go.results fn tmps = (do let vs ← fn.results.mapM (resF tmps); pure (if h : vs.size = 1 then vs[0] else .tuple vs)) := by
  unfold Go.results
  refine congrArg (fun m : Sem (Array Value) => m >>= _) ?_
  refine congrArg (fun f => Array.mapM f fn.results) ?_
  funext x
  cases x <;> rfl

section
variable {P : Program} {F0 : Lab → Option HObj} {N : Nat} {w0 : World} {g : G} {F : Lab → Option HObj} {s s' : St} {a : Act} {w : World}

theorem result_sound {rv : ResultVar} {ar : ARes} {v : AV} (hc : cRes P rv = some ar) (h : Rel F0 N w0 g F s a w) (hr : result s ar = some v) :
    ∃ u, (resF a.tmps rv).run P w = .ok u w ∧ VR g v u := by
  cases rv with
  | tmp t =>
    simp only [cRes, Option.some.injEq] at hc; subst hc
    simp only [result, Option.some.injEq] at hr; subst hr
    exact ⟨_, rfl, (h.er.slot t).noL⟩
  | cell ad t =>
    simp only [cRes, Option.bind_eq_bind, Option.bind_eq_some_iff, Option.some.injEq] at hc
    obtain ⟨ag, hag, n, hn, rfl⟩ := hc
    obtain ⟨d, hd, rfl⟩ := aggT_some hag
    obtain ⟨i, hi, rfl⟩ := szT_some hn
    have ks := h.er.slot ad
    simp only [result] at hr
    split at hr <;> try contradiction
    · rename_i dd off gen hev
      split at hr <;> try contradiction
      rename_i gen' cs hb
      cases hg : gen.beq gen' with
      | false => rw [hg] at hr; simp at hr
      | true =>
        rw [hg] at hr
        simp only [cond_true] at hr
        simp only [Nat.beq_eq] at hg
        subst hg
        rw [hev] at ks
        obtain ⟨b, m1, m2⟩ := ks.here hb
        obtain ⟨b', n1, n2, n3⟩ := h.er.box _ _ _ hb
        rw [m1] at n1
        simp only [ptrV, Option.some.injEq, Value.pointer.injEq, Addr.mk.injEq] at n1
        obtain ⟨rfl, _⟩ := n1
        obtain ⟨us, q1, q2, q3⟩ := (h.wr.obj _ _ n2).box_at (show g.at_ (.fr b) 0 = some (b, 0, 0) from rfl)
        obtain ⟨u, r1, r2⟩ := loadVar_run (P := P) hd hi q1 q2 q3 hr
        rw [Nat.zero_add] at r1
        refine ⟨u, ?_, r2⟩
        simp only [resF, m2, ptrV, Sem.run_bind, asAddr, Sem.run_pure, Result.andThen_ok, r1]
    · rename_i r off hev
      split at hr <;> try contradiction
      rename_i cs hb
      rw [hev] at ks
      have ks : VR g (.ptr r off) (a.tmps.getD ad undef) := ks
      obtain ⟨b, o, us, e, q1, q2, q3⟩ := at_sound h ks (cs := dp off cs) (by simp only [St.at_, hb])
      obtain ⟨u, r1, r2⟩ := loadVar_run (P := P) hd hi q1 q2 q3 hr
      rw [Nat.add_zero] at r1
      refine ⟨u, ?_, r2⟩
      simp only [resF, e, ptrV, Sem.run_bind, asAddr, Sem.run_pure, Result.andThen_ok, r1]

theorem results_sound {fn : Func} {rs : List ARes} {v : AV} (hc : mapO (cRes P) fn.results.toList = some rs) (h : Rel F0 N w0 g F s a w) (hr : results s rs = some v) : ∃ u, (Go.results fn a.tmps).run P w = .ok u w ∧ VR g v u := by
  have key : ∀ (l : List ResultVar) rs vs, mapO (cRes P) l = some rs → mapO (result s) rs = some vs → ∃ us : List Value, (l.mapM (resF a.tmps)).run P w = .ok us w ∧ VRs g vs us := by
    intro l
    induction l with
    | nil =>
      intro rs vs h1 h2
      simp only [mapO, Option.some.injEq] at h1; subst h1
      simp only [mapO, Option.some.injEq] at h2; subst h2
      exact ⟨[], rfl, VRs.nil g⟩
    | cons x xs ih =>
      intro rs vs h1 h2
      simp only [mapO] at h1
      split at h1 <;> try contradiction
      rename_i y hy
      split at h1 <;> try contradiction
      rename_i ys hys
      simp only [Option.some.injEq] at h1; subst h1
      simp only [mapO] at h2
      split at h2 <;> try contradiction
      rename_i z hz
      split at h2 <;> try contradiction
      rename_i zs hzs
      simp only [Option.some.injEq] at h2; subst h2
      obtain ⟨u, k1, k2⟩ := result_sound hy h hz
      obtain ⟨us, k3, k4⟩ := ih _ _ hys hzs
      exact ⟨u :: us, by simp only [List.mapM_cons, Sem.run_bind, k1, Result.andThen_ok, k3, Sem.run_pure], VRs.cons k2 k4⟩
  have hcase : ∃ vs, mapO (result s) rs = some vs ∧ ((∃ x, vs = [x] ∧ v = x) ∨ ((∀ x, vs ≠ [x]) ∧ v = .tuple vs)) := by
    simp only [Am.results] at hr
    split at hr <;> try contradiction
    · rename_i x hvs
      simp only [Option.some.injEq] at hr
      exact ⟨_, hvs, .inl ⟨x, rfl, hr.symm⟩⟩
    · rename_i vs hne hvs
      simp only [Option.some.injEq] at hr
      exact ⟨_, hvs, .inr ⟨fun x e => hne x (by rw [e]), hr.symm⟩⟩
  obtain ⟨vs, hvs, hv⟩ := hcase
  obtain ⟨us, k1, k2⟩ := key _ _ _ hc hvs
  have hrun : (Go.results fn a.tmps).run P w = .ok (if h : us.toArray.size = 1 then us.toArray[0] else .tuple us.toArray) w := by
    simp only [results_eq, Array.mapM_eq_mapM_toList, Sem.run_bind, Sem.run_map]
    rw [k1]
    simp only [Result.andThen_ok, Sem.run_pure]
  refine ⟨_, hrun, ?_⟩
  rcases hv with ⟨x, rfl, rfl⟩ | ⟨hne, rfl⟩
  · obtain ⟨u, rfl, hu⟩ := k2.single
    exact hu
  · have hn : ¬ us.toArray.size = 1 := by
      intro e
      have e2 : vs.length = 1 := by rw [k2.1]; simpa using e
      obtain ⟨x, rfl⟩ := List.length_eq_one_iff.1 e2
      exact hne x rfl
    rw [dif_neg hn]
    exact VR.tuple k2.1 k2.2

/-- What the machine's own functions do. -/
def NatOk (P : Program) (w0 : World) (nat : FuncId → Option Call) : Prop :=
  ∀ f nf, nat f = some nf → ∀ args hp v hp', nf f args hp = some (v, hp') → ∀ (g : G) (F : Lab → Option HObj) (us : List Value) (w : World), HR g F w0 w hp → VRs g args us → Does P f us.toArray w (Back w0 g F hp hp' w v)
end
end Go.Proofs.YtohncbgkiojlnaaGreatDoor.Am
