/- What a call leaves behind; objects of the heap's own that turn, or are laid. -/
import Derived.Test.YtohncbgkiojlnaaGreatDoorAm18
import Derived.RangeFuncRecord
import Derived.RangeFuncIn
set_option linter.unusedVariables false
set_option linter.unusedSimpArgs false
namespace Go.Proofs.YtohncbgkiojlnaaGreatDoor.Am
open Go.RowKit (Below)

section
variable {P : Program} {F0 : Lab → Option HObj} {N : Nat} {w0 : World} {g : G} {F : Lab → Option HObj} {s s' : St} {a : Act} {w : World}

/-- What is known behind a call whose result counts for nothing. -/
def BackD (w0 : World) (g : G) (F : Lab → Option HObj) (hp hp' : Hp) (w w' : World) : Prop :=
  ∃ g' F', G.ext hp.ro g g' ∧ HR g' F' w0 w' hp' ∧ Frm F F' hp.ro w.heap.size ∧ hp'.ro = hp.ro ∧ hp.nx ≤ hp'.nx ∧ w.heap.size ≤ w'.heap.size

/-- An object of the heap's own, no row of cells, becomes another. -/
theorem HR.turn {hp : Hp} (h : HR g F w0 w hp) {r b : Nat} {ob ob' : Obj} {o o' : HObj} (hget : hp.h.get r = some o) (hro : hp.ro ≤ r) (hb : w.heap[b]? = some ob) (hno : ∀ cs t fr, ob ≠ .cells cs t fr) (hon : g.ow b 0 = some (.hp r))
    (hor : OR g (setB w b ob') (.hp r) o') : BackD w0 g F hp { hp with h := hp.h.put r (some o') } w (setB w b ob') := by
  refine ⟨g, F_set F (.hp r) o', G.ext.refl _ g, ⟨?_, fun r' o2 hr' => ?_, fun r' hr' => ?_, fun r' hr' hn' v => ?_, fun r' hr' => ?_, h.ronx⟩, ⟨fun r' o2 hr' ho2 => ?_, fun b1 o2 hb1 ho2 => ?_⟩, rfl, Nat.le_refl _, by rw [setB_size]; exact Nat.le_refl _⟩
  · refine h.wr.turn (l0 := .hp r) hb hno hon (fun l o2 hl => ?_)
    by_cases e : l = .hp r
    · subst e
      rw [F_set_same] at hl
      simp only [Option.some.injEq] at hl; subst hl
      exact .inr hor
    · rw [F_set_other F _ e] at hl
      exact .inl ⟨e, hl⟩
  · simp only [Tr.get_put] at hr'
    by_cases e : r' = r
    · subst e; rw [if_pos rfl] at hr'; rw [F_set_same]; exact hr'
    · rw [if_neg e] at hr'; rw [F_set_other F _ (by simp [e])]; exact h.old r' o2 hr'
  · simp only [Tr.get_put]
    by_cases e : r' = r
    · subst e; rw [if_pos rfl, F_set_same]
    · rw [if_neg e, F_set_other F _ (by simp [e])]; exact h.hx r' hr'
  · simp only [Tr.get_put] at hn'
    by_cases e : r' = r
    · rw [if_pos e] at hn'; cases hn'
    · rw [if_neg e] at hn'; exact h.fresh r' hr' hn' v
  · simp only [Tr.get_put]
    rw [if_neg]
    · exact h.top r' hr'
    · intro e; subst e
      have := h.top r' hr'
      rw [hget] at this; cases this
  · have : r' ≠ r := by omega
    rw [F_set_other F _ (by simp [this])]; exact ho2
  · rw [F_set_other F _ (by simp)]; exact ho2

theorem BackD.trans {g : G} {F : Lab → Option HObj} {hp hp1 hp2 : Hp} {w w1 w2 : World} {g1 : G} {F1 : Lab → Option HObj} (a1 : G.ext hp.ro g g1) (a3 : Frm F F1 hp.ro w.heap.size) (a4 : hp1.ro = hp.ro) (a5 : hp.nx ≤ hp1.nx) (a6 : w.heap.size ≤ w1.heap.size)
    (k : BackD w0 g1 F1 hp1 hp2 w1 w2) : BackD w0 g F hp hp2 w w2 := by
  obtain ⟨g2, F2, b1, b2, b3, b4, b5, b6⟩ := k
  rw [a4] at b1 b3 b4
  exact ⟨g2, F2, a1.trans b1 (Nat.le_refl _), b2, a3.trans b3 (Nat.le_refl _) a6, b4, by omega, by omega⟩

/-- The frame behind calls that went through. -/
theorem Rel.afterG (h : Rel F0 N w0 g F s a w) {hp : Hp} {w' : World} {g' : G} {F' : Lab → Option HObj} (k1 : G.ext s.ro g g') (k3 : HR g' F' w0 w' hp) (k4 : Frm F F' s.ro w.heap.size) (k5' : hp.ro = s.ro) (k6' : s.nx ≤ hp.nx) (k7 : w.heap.size ≤ w'.heap.size) :
    Moves s { s with h := hp.h, nx := hp.nx } g g' ∧ Rel F0 N w0 g' F' { s with h := hp.h, nx := hp.nx } a w' :=
  ⟨⟨k1, rfl, k6'⟩, h.er.mono k1.le (fun b cs _ hb => k4.fr b _ (h.wr.fr_lt hb) hb), h.df.mono k1.le, k3.wr, k3.old, fun r hr => k3.hx r (by rw [k5']; exact hr), fun r hr => k3.fresh r (by rw [k5']; exact hr), k3.top, h.rb, Nat.le_trans h.nx k6',
    h.frm.trans k4 (Nat.le_refl _) h.big, Nat.le_trans h.big k7⟩
theorem Rel.after (h : Rel F0 N w0 g F s a w) {hp : Hp} {w' : World} (k : BackD w0 g F ⟨s.h, s.nx, s.ro⟩ hp w w') : ∃ g' F', Moves s { s with h := hp.h, nx := hp.nx } g g' ∧ hp.ro = s.ro ∧ Rel F0 N w0 g' F' { s with h := hp.h, nx := hp.nx } a w' := by
  obtain ⟨g', F', k1, k3, k4, k5, k6, k7⟩ := k
  obtain ⟨m, r⟩ := h.afterG k1 k3 k4 k5 k6 k7
  exact ⟨g', F', m, k5, r⟩
/-- A mark is pushed. -/
theorem Rel.mark (h : Rel F0 N w0 g F s a w) {r b x : Nat} (hl : g.loc r 0 = some (b, 0, x)) :
    Rel F0 N w0 g F { s with df := .mark r :: s.df } { a with defers := { target := .collected b, args := #[] } :: a.defers } w := by
  refine ⟨h.er, ⟨by simp [h.df.1], fun i e2 d2 hi1 hi2 => ?_⟩, h.wr, h.hp, h.hx, h.fresh, h.top, h.rb, h.nx, h.frm, h.big⟩
  cases i with
  | zero =>
    simp only [List.getElem?_cons_zero, Option.some.injEq] at hi1 hi2
    subst hi1
    subst hi2
    exact ⟨b, x, rfl, hl⟩
  | succ i =>
    simp only [List.getElem?_cons_succ] at hi1 hi2
    exact h.df.2 i e2 d2 hi1 hi2

def stOf : Nat → LoopState
  | 0 => .ready
  | 1 => .busy
  | _ => .exhausted

/-- A loop's state turned. -/
theorem loop_turn {hp : Hp} (h : HR g F w0 w hp) {l b x : Nat} {f : FuncId} {ps : List Nat} {e : Tr AV} {A B : Code} {aA aB : ACode} {st st' : Nat} (hget : hp.h.get l = some (.loop f ps e A B aA aB st)) (hro : hp.ro ≤ l) (hloc : g.loc l 0 = some (b, 0, x)) :
    ∃ rec, w.heap[b]? = some (.loop rec) ∧ rec.state = stOf st ∧ rec.pending = none ∧
      ∀ rec', rec'.params = rec.params → rec'.assign = rec.assign → rec'.body = rec.body → rec'.tmps = rec.tmps → rec'.pending = none → rec'.state = stOf st' →
        BackD w0 g F hp { hp with h := hp.h.put l (some (.loop f ps e A B aA aB st')) } w (w.putObj b (.loop rec')) := by
  obtain ⟨b2, rec, q1, q2, q3, ⟨c1, c2, c3, c4, c5, c6⟩, q5, q6⟩ := h.wr.obj _ _ (h.old l _ hget)
  simp only [G.at_] at q1
  rw [hloc] at q1
  simp only [Option.some.injEq, Prod.mk.injEq] at q1
  obtain ⟨rfl, _, rfl⟩ := q1
  refine ⟨rec, q2, c6, c5, fun rec' r2 r3 r4 r5 r6 r7 => ?_⟩
  refine h.turn hget hro q2 (by simp) q3 ⟨b, rec', hloc, by rw [setB_get, if_pos rfl, if_pos (lt_of_get q2)], q3, ⟨by rw [r5]; exact c1, by rw [r2]; exact c2, r3.trans c3, r4.trans c4, r6, r7⟩, by rw [r5]; exact q5, by rw [r5]; exact q6⟩


/-- A new object is laid that is no row of cells. -/
theorem HR.lay {hp : Hp} (h : HR g F w0 w hp) {r : Nat} (hr : hp.nx ≤ r) {ob : Obj} {o' : HObj} (hno : ∀ cs t fr, ob ≠ .cells cs t fr)
    (hor : ∀ g', g.le g' → g'.loc r 0 = some (w.heap.size, 0, 0) → g'.ow w.heap.size 0 = some (.hp r) → OR g' (addB w ob) (.hp r) o') :
    ∃ g' F', G.ext hp.ro g g' ∧ HR g' F' w0 (addB w ob) ⟨hp.h.put r (some o'), r + 1, hp.ro⟩ ∧ Frm F F' hp.ro w.heap.size ∧ g'.loc r 0 = some (w.heap.size, 0, 0) := by
  have hrr : hp.ro ≤ r := Nat.le_trans h.ronx hr
  have hfr : ∀ v, g.loc r v = none := h.fresh r hrr (h.top r hr)
  have hl : ∀ r' v x, g.loc r' v = some x → (if r' = r ∧ v = 0 then some (w.heap.size, 0, 0) else g.loc r' v) = some x := by
    intro r' v x hx
    rw [if_neg]
    · exact hx
    · rintro ⟨e, _⟩; subst e; rw [hfr v] at hx; cases hx
  have hle := G.grow_le h.wr (ow := fun i => if i = 0 then some (Lab.hp r) else none) (fz := fun _ => none) (loc := fun r' v => if r' = r ∧ v = 0 then some (w.heap.size, 0, 0) else g.loc r' v) hl
  refine ⟨_, F_set F (.hp r) o', ⟨hle, fun r' v hr' hn => ?_⟩, ⟨?_, fun r' o2 hr' => ?_, fun r' hr' => ?_, fun r' hr' hn' v => ?_, fun r' hr' => ?_, by show hp.ro ≤ r + 1; omega⟩, ⟨fun r' o2 hr' ho2 => ?_, fun b1 o2 hb1 ho2 => ?_⟩, by simp [G.grow]⟩
  · simp only [G.grow]
    rw [if_neg (by omega)]; exact hn
  · refine h.wr.grow hl (fun o v hv => by cases hv) (fun o l _ => rfl) (fun l o hlo => ?_)
    by_cases e : l = .hp r
    · subst e
      rw [F_set_same] at hlo
      simp only [Option.some.injEq] at hlo; subst hlo
      exact .inr (hor _ hle (by simp [G.grow]) (by simp [G.grow]))
    · rw [F_set_other F _ e] at hlo
      refine .inl ⟨hlo, fun v hv => ?_⟩
      cases l with
      | fr b => exact hv
      | hp r' =>
        simp only [G.at_, G.grow] at hv ⊢
        rw [if_neg]
        · exact hv
        · rintro ⟨e2, _⟩; subst e2; exact e rfl
  · simp only [Tr.get_put] at hr'
    by_cases e : r' = r
    · subst e; rw [if_pos rfl] at hr'; rw [F_set_same]; exact hr'
    · rw [if_neg e] at hr'; rw [F_set_other F _ (by simp [e])]; exact h.old r' o2 hr'
  · simp only [Tr.get_put]
    by_cases e : r' = r
    · subst e; rw [if_pos rfl, F_set_same]
    · rw [if_neg e, F_set_other F _ (by simp [e])]; exact h.hx r' hr'
  · simp only [Tr.get_put] at hn'
    by_cases e : r' = r
    · rw [if_pos e] at hn'; cases hn'
    · rw [if_neg e] at hn'
      simp only [G.grow]
      rw [if_neg (fun q => e q.1)]
      exact h.fresh r' hr' hn' v
  · simp only [Tr.get_put]
    have hr2 : r + 1 ≤ r' := hr'
    rw [if_neg (by omega)]
    exact h.top r' (by omega)
  · have : r' ≠ r := by omega
    rw [F_set_other F _ (by simp [this])]; exact ho2
  · rw [F_set_other F _ (by simp)]; exact ho2
end
end Go.Proofs.YtohncbgkiojlnaaGreatDoor.Am
