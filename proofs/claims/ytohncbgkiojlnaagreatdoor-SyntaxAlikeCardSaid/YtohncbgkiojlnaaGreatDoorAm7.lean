/- The frame's relation turns: a slot is written, a place of the frame is laid. -/
import Derived.Test.YtohncbgkiojlnaaGreatDoorAm6
set_option linter.unusedVariables false
namespace Go.Proofs.YtohncbgkiojlnaaGreatDoor.Am
open Go.RowKit (Below)

section
variable {F0 : Lab → Option HObj} {N : Nat} {w0 : World} {g g' : G} {F F' : Lab → Option HObj} {s s' : St} {a : Act} {w w' : World}

theorem VX.mono {e : Tr AV} {tmps : Array Value} (k : g.le g') {v : AV} {u : Value} (h : VX g e tmps v u) : VX g' e tmps v u := by
  cases v <;> first
    | exact h
    | exact VR.mono k h
theorem ER.mono {e : Tr AV} {tmps : Array Value} (k : g.le g') (hF : ∀ b cs, N ≤ b → F (.fr b) = some (.box cs) → F' (.fr b) = some (.box cs)) (h : ER g F N e tmps) : ER g' F' N e tmps :=
  ⟨fun i v h1 h2 => let ⟨u, a, b⟩ := h.val i v h1 h2; ⟨u, a, b.mono k⟩, fun i gen cs h1 => let ⟨b, x, y, z⟩ := h.box i gen cs h1; ⟨b, x, hF _ _ z y, z⟩, h.inj, h.lp⟩

theorem put_get {tmps : Array Value} {d i : Nat} {u : Value} (hd : d < tmps.size) : (tmps.setIfInBounds d u)[i]? = if i = d then some u else tmps[i]? := by
  rw [Array.getElem?_setIfInBounds]
  by_cases h : d = i
  · subst h; simp [hd]
  · rw [if_neg h, if_neg (Ne.symm h)]

/-- A slot is written. -/
theorem ER.put {e : Tr AV} {tmps : Array Value} (h : ER g F N e tmps) {d : Nat} {v : AV} {u : Value} (hv : VX g e tmps v u) (hd : d < tmps.size)
    (hb : ∀ gen cs, e.get d ≠ some (.box gen cs)) : ER g F N (e.put d (some v)) (tmps.setIfInBounds d u) := by
  have hnb : ∀ gen cs, v ≠ .box gen cs := by
    intro gen cs e; subst e; exact hv
  refine ⟨fun i x hi hp => ?_, fun i gen cs hi => ?_, fun i j gi ci gj cj b hi hj k1 k2 => ?_, fun i d0 off gen hi => ?_⟩
  · rw [Tr.get_put] at hi
    rw [put_get hd]
    by_cases e : i = d
    · rw [if_pos e] at hi ⊢
      injection hi with hi
      subst hi
      exact ⟨u, rfl, hv.plain hp⟩
    · rw [if_neg e] at hi ⊢
      exact h.val i x hi hp
  · rw [Tr.get_put] at hi
    by_cases e : i = d
    · rw [if_pos e] at hi; injection hi with hi; exact absurd hi (hnb gen cs)
    · rw [if_neg e] at hi
      rw [put_get hd, if_neg e]
      exact h.box i gen cs hi
  · rw [Tr.get_put] at hi hj
    by_cases e1 : i = d
    · rw [if_pos e1] at hi; injection hi with hi; exact absurd hi (hnb gi ci)
    · by_cases e2 : j = d
      · rw [if_pos e2] at hj; injection hj with hj; exact absurd hj (hnb gj cj)
      · rw [if_neg e1] at hi; rw [if_neg e2] at hj
        rw [put_get hd, if_neg e1] at k1
        rw [put_get hd, if_neg e2] at k2
        exact h.inj i j gi ci gj cj b hi hj k1 k2
  · rw [Tr.get_put] at hi
    by_cases e : i = d
    · rw [if_pos e] at hi; injection hi with hi
      subst hi
      obtain ⟨gen', cs, h1, h2, h3⟩ := hv
      have hdd : d0 ≠ d := by intro e; subst e; exact hb _ _ h1
      refine ⟨gen', cs, by rw [Tr.get_put, if_neg hdd]; exact h1, h2, fun eg => ?_⟩
      obtain ⟨b, k1, k2⟩ := h3 eg
      exact ⟨b, by rw [put_get hd, if_neg hdd]; exact k1, by rw [put_get hd, if_pos e, k2]⟩
    · rw [if_neg e] at hi
      obtain ⟨gen', cs, h1, h2, h3⟩ := h.lp i d0 off gen hi
      have hdd : d0 ≠ d := by intro e; subst e; exact hb _ _ h1
      refine ⟨gen', cs, by rw [Tr.get_put, if_neg hdd]; exact h1, h2, fun eg => ?_⟩
      obtain ⟨b, k1, k2⟩ := h3 eg
      exact ⟨b, by rw [put_get hd, if_neg hdd]; exact k1, by rw [put_get hd, if_neg e]; exact k2⟩

theorem Rel.put (h : Rel F0 N w0 g F s a w) {d : Option Nat} {v : AV} {u : Value} (hv : VX g s.e a.tmps v u) (hs : s.put d v = some s') (hd : ∀ i, d = some i → i < a.tmps.size) :
    Rel F0 N w0 g F s' (a.put d u) w := by
  cases d with
  | none => simp only [St.put, Option.some.injEq] at hs; subst hs; exact h
  | some d =>
    simp only [St.put] at hs
    split at hs
    · cases hs
    · rename_i hnb
      simp only [Option.some.injEq] at hs; subst hs
      exact ⟨h.er.put hv (hd d rfl) (fun gen cs e => hnb gen cs e), h.df, h.wr, h.hp, h.hx, h.fresh, h.top, h.rb, h.nx, h.frm, h.big⟩

def F_set (F : Lab → Option HObj) (l : Lab) (o : HObj) : Lab → Option HObj := fun l' => if l' = l then some o else F l'

/-- A place of the frame is laid: a new block. -/
theorem Rel.lay (h : Rel F0 N w0 g F s a w) {d : Nat} {cs : List AV} {us : List Value} {t : TypeId} (hv : VRs g cs us) (h1 : One us) (hd : d < a.tmps.size) :
    ∃ g', G.ext s.ro g g' ∧ Rel F0 N w0 g' (F_set F (.fr w.heap.size) (.box cs)) (s.lay d cs) (a.put (some d) (ptrV w.heap.size 0)) (addB w (.cells us.toArray t)) := by
  have hle := G.grow_le h.wr (ow := fun i => if i < us.length then some (Lab.fr w.heap.size) else none) (fz := fun _ => none) (loc := g.loc) (fun _ _ _ h => h)
  refine ⟨_, ⟨hle, fun _ _ _ h => h⟩, ?_⟩
  have hold : ∀ i gen ds, s.e.get i = some (.box gen ds) → ∃ b, a.tmps[i]? = some (ptrV b 0) ∧ F (.fr b) = some (.box ds) ∧ N ≤ b ∧ b < w.heap.size := by
    intro i gen ds hi
    obtain ⟨b, k1, k2, k3⟩ := h.er.box i gen ds hi
    obtain ⟨b', us', t', e1, e2, _⟩ := h.wr.obj _ _ k2
    simp only [G.at_, Option.some.injEq, Prod.mk.injEq] at e1
    obtain ⟨rfl, _⟩ := e1
    exact ⟨b, k1, k2, k3, lt_of_get e2⟩
  have hwr : WR (g.grow w.heap.size (fun i => if i < us.length then some (Lab.fr w.heap.size) else none) (fun _ => none) g.loc) (F_set F (.fr w.heap.size) (.box cs)) w0 (addB w (.cells us.toArray t)) := by
    refine h.wr.grow (fun _ _ _ h => h) (fun o v hv => by cases hv) (fun o l _ => rfl) (fun l o hl => ?_)
    by_cases e : l = .fr w.heap.size
    · subst e
      simp only [F_set, if_true, Option.some.injEq] at hl
      subst hl
      refine .inr ⟨w.heap.size, us, t, rfl, by rw [addB_get, if_pos rfl], hv.mono hle, h1, fun i hi => ?_⟩
      simp [G.grow, hi]
    · simp only [F_set, if_neg e] at hl
      refine .inl ⟨hl, fun v hv => ?_⟩
      cases l with
      | hp r => exact hv
      | fr b => exact hv
  have hE : ∃ gen, (∀ i, (s.lay d cs).e.get i = if i = d then some (.box gen cs) else s.e.get i) ∧ (∀ g0 c0, s.e.get d = some (.box g0 c0) → g0 < gen) ∧
      ((s.lay d cs).h = s.h ∧ (s.lay d cs).nx = s.nx ∧ (s.lay d cs).rb = s.rb ∧ (s.lay d cs).ro = s.ro ∧ (s.lay d cs).df = s.df) := by
    simp only [St.lay]
    split
    · rename_i g0 c0 hg
      exact ⟨g0 + 1, fun i => by simp [Tr.get_put], fun g1 c1 h1 => by rw [hg] at h1; simp only [Option.some.injEq, AV.box.injEq] at h1; omega, rfl, rfl, rfl, rfl, rfl⟩
    · rename_i hno
      exact ⟨0, fun i => by simp [Tr.get_put], fun g1 c1 h1 => absurd h1 (by simpa using hno g1 c1), rfl, rfl, rfl, rfl, rfl⟩
  obtain ⟨gen, hget, hgen, eh, en, erb, ero, edf⟩ := hE
  have hFr : ∀ (b : Nat) (o : HObj), b ≠ w.heap.size → (F_set F (.fr w.heap.size) (.box cs)) (.fr b) = F (.fr b) := fun b o hb => by simp [F_set, hb]
  refine ⟨⟨fun i x hi hp => ?_, fun i gi ci hi => ?_, fun i j gi ci gj cj b hi hj k1 k2 => ?_, fun i d0 off g0 hi => ?_⟩, ?_, hwr, fun r o hr => ?_, fun r hr => ?_, fun r hr hn v => ?_, fun r hr => ?_, ?_, ?_, ⟨fun r o hr ho => ?_, fun b o hb ho => ?_⟩, ?_⟩
  · rw [hget] at hi
    by_cases e : i = d
    · rw [if_pos e] at hi; injection hi with hi; subst hi; cases hp
    · rw [if_neg e] at hi
      obtain ⟨u, k1, k2⟩ := h.er.val i x hi hp
      exact ⟨u, by simp only [Act.put]; rw [put_get hd, if_neg e]; exact k1, k2.mono hle⟩
  · rw [hget] at hi
    simp only [Act.put]
    by_cases e : i = d
    · rw [if_pos e] at hi; injection hi with hi; injection hi with _ hi; subst hi
      exact ⟨w.heap.size, by rw [put_get hd, if_pos e], by simp [F_set], h.big⟩
    · rw [if_neg e] at hi
      obtain ⟨b, k1, k2, k3, k4⟩ := hold i gi ci hi
      exact ⟨b, by rw [put_get hd, if_neg e]; exact k1, by rw [hFr b (.box ci) (by omega)]; exact k2, k3⟩
  · rw [hget] at hi hj
    simp only [Act.put] at k1 k2
    rw [put_get hd] at k1 k2
    by_cases e1 : i = d
    · by_cases e2 : j = d
      · omega
      · rw [if_pos e1] at k1; rw [if_neg e2] at hj k2
        obtain ⟨b', m1, m2, m3, m4⟩ := hold j gj cj hj
        simp only [ptrV, Option.some.injEq, Value.pointer.injEq, Addr.mk.injEq] at k1
        rw [m1] at k2
        simp only [ptrV, Option.some.injEq, Value.pointer.injEq, Addr.mk.injEq] at k2
        omega
    · by_cases e2 : j = d
      · rw [if_pos e2] at k2; rw [if_neg e1] at hi k1
        obtain ⟨b', m1, m2, m3, m4⟩ := hold i gi ci hi
        simp only [ptrV, Option.some.injEq, Value.pointer.injEq, Addr.mk.injEq] at k2
        rw [m1] at k1
        simp only [ptrV, Option.some.injEq, Value.pointer.injEq, Addr.mk.injEq] at k1
        omega
      · rw [if_neg e1] at hi k1; rw [if_neg e2] at hj k2
        exact h.er.inj i j gi ci gj cj b hi hj k1 k2
  · rw [hget] at hi
    by_cases e : i = d
    · rw [if_pos e] at hi; cases hi
    · rw [if_neg e] at hi
      obtain ⟨gen', ds, m1, m2, m3⟩ := h.er.lp i d0 off g0 hi
      simp only [Act.put]
      by_cases e2 : d0 = d
      · subst e2
        refine ⟨gen, cs, by rw [hget, if_pos rfl], by have := hgen _ _ m1; omega, fun e3 => ?_⟩
        have := hgen _ _ m1
        omega
      · refine ⟨gen', ds, by rw [hget, if_neg e2]; exact m1, m2, fun e3 => ?_⟩
        obtain ⟨b, n1, n2⟩ := m3 e3
        exact ⟨b, by rw [put_get hd, if_neg e2]; exact n1, by rw [put_get hd, if_neg e]; exact n2⟩
  · rw [edf]; exact h.df.mono hle
  · rw [eh] at hr
    have := h.hp r o hr
    simpa [F_set] using this
  · rw [eh]; rw [ero] at hr
    have := h.hx r hr
    simpa [F_set] using this
  · rw [eh] at hn; rw [ero] at hr
    exact h.fresh r hr hn v
  · rw [eh]; rw [en] at hr; exact h.top r hr
  · rw [ero, erb]; exact h.rb
  · rw [erb, en]; exact h.nx
  · rw [ero] at hr
    have := h.frm.hp r o hr ho
    simpa [F_set] using this
  · have := h.frm.fr b o hb ho
    rw [hFr b o (by have := h.big; omega)]; exact this
  · rw [addB_size]; have := h.big; omega
end
end Go.Proofs.YtohncbgkiojlnaaGreatDoor.Am
