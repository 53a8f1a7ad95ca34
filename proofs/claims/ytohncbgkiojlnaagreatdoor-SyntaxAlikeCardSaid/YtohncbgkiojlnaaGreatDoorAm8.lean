/- Operations that only look: what the machine computes is what the abstract machine says. -/
import Derived.Test.YtohncbgkiojlnaaGreatDoorAm7
set_option linter.unusedVariables false
namespace Go.Proofs.YtohncbgkiojlnaaGreatDoor.Am
open Go.RowKit (Below)

/-! ### Cells read -/
def CellsAt (w : World) (b o : Nat) (us : List Value) : Prop := ∀ (i : Nat) u, us[i]? = some u → w.cell? ⟨b, o + i, none⟩ = some u
theorem CellsAt.drop {w : World} {b o : Nat} {us : List Value} (h : CellsAt w b o us) (n : Nat) : CellsAt w b (o + n) (us.drop n) := fun i u hi => by
  rw [List.getElem?_drop] at hi
  rw [Nat.add_assoc]
  exact h _ u hi
theorem CellsAt.take {w : World} {b o : Nat} {us : List Value} (h : CellsAt w b o us) (n : Nat) : CellsAt w b o (us.take n) := fun i u hi => by
  rw [List.getElem?_take] at hi
  split at hi
  · exact h _ u hi
  · cases hi

section
variable {P : Program} {F0 : Lab → Option HObj} {N : Nat} {w0 : World} {g : G} {F : Lab → Option HObj} {s s' : St} {a : Act} {w : World}

theorem VR.place {v : AV} {u : Value} (h : VR g v u) : isPlace v = false := by cases h <;> rfl

theorem Fz.cells (h : WR g F w0 w) {b o : Nat} {us : List Value} (k : Fz g b o us) : CellsAt w b o us := fun i u hi => h.fz _ _ _ (k i u hi)

theorem OR.box_at {cs : List AV} {l : Lab} (h : OR g w l (.box cs)) {b c : Nat} (hl : g.at_ l 0 = some (b, 0, c)) : ∃ us, VRs g cs us ∧ One us ∧ CellsAt w b 0 us := by
  obtain ⟨b', us, t, h1, h2, h3, h4, h5⟩ := h
  rw [hl] at h1
  simp only [Option.some.injEq, Prod.mk.injEq] at h1
  obtain ⟨rfl, _⟩ := h1
  refine ⟨us, h3, h4, fun i u hi => ?_⟩
  rw [Nat.zero_add, cell_of h2]
  simpa using hi
theorem OR.vec_at {sz ver : Nat} {xs : List AV} {l : Lab} (h : OR g w l (.vec sz ver xs)) {b c : Nat} (hl : g.at_ l ver = some (b, 0, c)) :
    0 < sz ∧ (∀ x ∈ xs, x.cells.length = sz) ∧ xs.length ≤ c ∧ ∃ us, VRs g (flat xs) us ∧ One us ∧ CellsAt w b 0 us := by
  obtain ⟨b', cap, us, cells, t, h1, h2, h3, h4, h5, h6, h7, h8, h9, _, _⟩ := h
  rw [hl] at h1
  simp only [Option.some.injEq, Prod.mk.injEq] at h1
  obtain ⟨rfl, _, rfl⟩ := h1
  refine ⟨h4, h7, h8, us, h5, h6, fun i u hi => ?_⟩
  rw [Nat.zero_add, cell_of h2]
  exact h9 i u hi

/-- The cells of the i-th element. -/
theorem elem_cells {sz : Nat} {xs : List AV} (hs : ∀ x ∈ xs, x.cells.length = sz) {i : Nat} {x : AV} (hi : xs[i]? = some x) : ((flat xs).drop (i * sz)).take sz = x.cells := by
  have hx := hs x (List.mem_of_getElem? hi)
  apply List.ext_getElem?
  intro j
  rw [List.getElem?_take]
  by_cases hj : j < sz
  · rw [if_pos hj, List.getElem?_drop, flat_get hs hi hj]
  · rw [if_neg hj, List.getElem?_eq_none (by omega)]

theorem at_sound (h : Rel F0 N w0 g F s a w) {v : AV} {u : Value} {cs : List AV} (hv : VR g v u) (hs : s.at_ v = some cs) :
    ∃ b o us, u = ptrV b o ∧ VRs g cs us ∧ One us ∧ CellsAt w b o us := by
  cases hv <;> simp only [St.at_] at hs <;> try contradiction
  case ptr r off b x hl =>
    split at hs <;> try contradiction
    rename_i ds hget
    simp only [Option.some.injEq, dp_eq] at hs; subst hs
    obtain ⟨us, k1, k2, k3⟩ := (h.wr.obj _ _ (h.hp r _ hget)).box_at (show g.at_ (.hp r) 0 = some (b, 0, x) from hl)
    refine ⟨b, off, us.drop off, rfl, k1.drop off, k2.drop off, ?_⟩
    have := k3.drop off
    rwa [Nat.zero_add] at this
  case eptr us b o hl hh h1 hf =>
    simp only [Option.some.injEq] at hs; subst hs
    exact ⟨b, o, us, rfl, ⟨hl, hh⟩, h1, hf.cells h.wr⟩
  case vptr sz r ver i off b cap hl =>
    split at hs <;> try contradiction
    rename_i sz' ver' xs hget
    cases hc : (Nat.beq sz sz' && Nat.beq ver ver') with
    | false => rw [hc] at hs; cases hs
    | true =>
      rw [hc] at hs
      simp only [Bool.and_eq_true] at hc
      have e1 := of_beq hc.1; have e2 := of_beq hc.2
      subst e1; subst e2
      simp only [cond_true] at hs
      split at hs <;> try contradiction
      rename_i x hx
      simp only [Option.some.injEq, dp_eq] at hs; subst hs
      rw [nth_eq] at hx
      obtain ⟨k0, k1, k2, us, k3, k4, k5⟩ := (h.wr.obj _ _ (h.hp r _ hget)).vec_at (show g.at_ (.hp r) ver = some (b, 0, cap) from hl)
      have m := (((k3.drop (i * sz)).take sz).drop off)
      rw [elem_cells k1 hx] at m
      refine ⟨b, i * sz + off, _, rfl, m, ((k4.drop _).take _).drop _, ?_⟩
      have := ((k5.drop (i * sz)).take sz).drop off
      rwa [Nat.zero_add] at this

/-- A variable loaded. -/
theorem loadVar_run {t : TypeId} {d : TypeDesc} {i : TypeInfo} (hd : P.underlying t = some d) (hi : P.info? t = some i) {b o : Nat} {cs : List AV} {us : List Value} (hv : VRs g cs us) (h1 : One us)
    (hc : CellsAt w b o us) {v : AV} {off : Nat} (hp : part (isAggD d) (bif isAggD d then i.size else 1) off cs = some v) :
    ∃ u, (loadVar t ⟨b, o + off, none⟩).run P w = .ok u w ∧ VR g v u := by
  have hagg : (isAgg t).run P w = .ok (isAggD d) w := by
    simp only [isAgg, Sem.run_bind, run_underlying hd, Result.andThen_ok]
    cases d <;> rfl
  have hsz : (sizeOf t).run P w = .ok i.size w := by
    simp only [sizeOf, typeInfo, Sem.run_bind, run_program, Result.andThen_ok, hi]
    rfl
  cases hg : isAggD d with
  | true =>
    rw [hg] at hp
    simp only [part, cond_true, tk_eq, dp_eq, len_eq] at hp
    cases hl : Nat.beq ((cs.drop off).take i.size).length i.size with
    | false => rw [hl] at hp; cases hp
    | true =>
      rw [hl] at hp
      simp only [cond_true, Option.some.injEq] at hp; subst hp
      have hl := of_beq hl
      have m := (hv.drop off).take i.size
      refine ⟨.agg ((us.drop off).take i.size).toArray, ?_, .agg m.1 m.2 ((h1.drop _).take _)⟩
      simp only [loadVar, Sem.run_bind, hagg, hg, Result.andThen_ok, if_true, hsz]
      have hlen : ((us.drop off).take i.size).length = i.size := by rw [← m.1]; exact hl
      have hrun := run_loadCells_list (P := P) (w := w) ⟨b, o + off, none⟩ ((us.drop off).take i.size) (fun j v hj => by
        rw [add_plain]
        exact ((hc.drop off).take i.size) j v hj)
      rw [hlen] at hrun
      rw [hrun]
      rfl
  | false =>
    rw [hg] at hp
    simp only [part, cond_false, nth_eq] at hp
    obtain ⟨u, k1, k2⟩ := hv.get hp
    refine ⟨u, ?_, k2⟩
    simp only [loadVar, Sem.run_bind, hagg, hg, Result.andThen_ok, Bool.false_eq_true, if_false, run_load, hc off u k1]

/-- Part of an aggregate. -/
theorem part_run {t : TypeId} {d : TypeDesc} {i : TypeInfo} (hd : P.underlying t = some d) (hi : P.info? t = some i) {cs : List AV} {us : Array Value} (hv : VRs g cs us.toList) (h1 : One us.toList)
    {v : AV} {off : Nat} (hp : Am.part (isAggD d) (bif isAggD d then i.size else 1) off cs = some v) :
    ∃ u, (Go.part t us off).run P w = .ok u w ∧ VR g v u := by
  have hagg : (isAgg t).run P w = .ok (isAggD d) w := by
    simp only [isAgg, Sem.run_bind, run_underlying hd, Result.andThen_ok]
    cases d <;> rfl
  have hsz : (sizeOf t).run P w = .ok i.size w := by
    simp only [sizeOf, typeInfo, Sem.run_bind, run_program, Result.andThen_ok, hi]
    rfl
  cases hg : isAggD d with
  | true =>
    rw [hg] at hp
    simp only [Am.part, cond_true, tk_eq, dp_eq, len_eq] at hp
    cases hl : Nat.beq ((cs.drop off).take i.size).length i.size with
    | false => rw [hl] at hp; cases hp
    | true =>
      rw [hl] at hp
      simp only [cond_true, Option.some.injEq] at hp; subst hp
      have m := (hv.drop off).take i.size
      refine ⟨.agg ((us.toList.drop off).take i.size).toArray, ?_, .agg m.1 m.2 ((h1.drop _).take _)⟩
      simp only [Go.part, Sem.run_bind, hagg, hg, Result.andThen_ok, if_true, hsz, Sem.run_pure]
      congr 2
      apply Array.ext'
      simp [Array.toList_extract, List.extract_eq_take_drop]
  | false =>
    rw [hg] at hp
    simp only [Am.part, cond_false, nth_eq] at hp
    obtain ⟨u, k1, k2⟩ := hv.get hp
    refine ⟨u, ?_, k2⟩
    have k1' : us[off]? = some u := by simpa using k1
    simp only [Go.part, Sem.run_bind, hagg, hg, Result.andThen_ok, Bool.false_eq_true, if_false, k1', Sem.run_pure]

/-- An operation yields a value, and leaves all as it is. -/
def Yields (P : Program) (o : Oper) (g : G) (s : St) (a : Act) (w : World) (v : AV) : Prop :=
  ∃ u, (execOp a.eval o).run P w = .ok (.value u) w ∧ VX g s.e a.tmps v u

theorem yields_move {o : Oper} {x : Operand} {y : X} (ho : o.op = .move x ∨ o.op = .assign x) (hx : cX x = some y) (h : Rel F0 N w0 g F s a w) : Yields P o g s a w (s.ev y) := by
  refine ⟨a.eval x, ?_, cX_sound (P := P) hx h.er⟩
  rcases ho with ho | ho <;> simp [execOp, ho]

theorem yields_pick {o : Oper} {c x y : Operand} {c' x' y' : X} (ho : o.op = .pick c x y) (hc : cX c = some c') (hx : cX x = some x') (hy : cX y = some y') (h : Rel F0 N w0 g F s a w)
    {t : Bool} (ht : s.ev c' = .bool t) : Yields P o g s a w (bif t then s.ev x' else s.ev y') := by
  have k := cX_sound (P := P) hc h.er
  rw [ht] at k
  have e : a.eval c = .bool t := by
    generalize a.eval c = u at k
    cases k; rfl
  refine ⟨if t then a.eval x else a.eval y, ?_, ?_⟩
  · simp [execOp, ho, e, asBool]
  · cases t
    · exact cX_sound (P := P) hy h.er
    · exact cX_sound (P := P) hx h.er

theorem yields_ldL {o : Oper} {t : TypeId} {x : Operand} {x' : X} {d : TypeDesc} {i : TypeInfo} (ho : o.op = .load t x) (hx : cX x = some x') (hd : P.underlying t = some d) (hi : P.info? t = some i)
    (h : Rel F0 N w0 g F s a w) {dd off gen : Nat} {cs : List AV} (hp : s.ev x' = .lptr dd off gen) (hb : s.e.get dd = some (.box gen cs)) {v : AV}
    (hpart : part (isAggD d) (bif isAggD d then i.size else 1) off cs = some v) : Yields P o g s a w v := by
  have k := cX_sound (P := P) hx h.er
  rw [hp] at k
  obtain ⟨gen', cs', k1, k2, k3⟩ := k
  rw [hb] at k1
  simp only [Option.some.injEq, AV.box.injEq] at k1
  obtain ⟨rfl, rfl⟩ := k1
  obtain ⟨b, m1, m2⟩ := k3 rfl
  obtain ⟨b', n1, n2, n3⟩ := h.er.box _ _ _ hb
  rw [m1] at n1
  simp only [ptrV, Option.some.injEq, Value.pointer.injEq, Addr.mk.injEq] at n1
  obtain ⟨rfl, _⟩ := n1
  obtain ⟨us, q1, q2, q3⟩ := (h.wr.obj _ _ n2).box_at (show g.at_ (.fr b) 0 = some (b, 0, 0) from rfl)
  obtain ⟨u, r1, r2⟩ := loadVar_run (P := P) hd hi q1 q2 q3 hpart
  rw [Nat.zero_add] at r1
  exact ⟨u, by simp [execOp, ho, m2, ptrV, Instr.loadAt, Instr.sureAddr, r1], VX.of_plain r2.place r2⟩

theorem yields_ld {o : Oper} {t : TypeId} {x : Operand} {x' : X} {d : TypeDesc} {i : TypeInfo} (ho : o.op = .load t x) (hx : cX x = some x') (hd : P.underlying t = some d) (hi : P.info? t = some i)
    (h : Rel F0 N w0 g F s a w) {cs : List AV} (hp : s.at_ (s.ev x') = some cs) {v : AV}
    (hpart : part (isAggD d) (bif isAggD d then i.size else 1) 0 cs = some v) : Yields P o g s a w v := by
  have k := cX_sound (P := P) hx h.er
  have hpl : isPlace (s.ev x') = false := by
    cases he : s.ev x' <;> rw [he] at hp <;> simp_all [St.at_, isPlace]
  obtain ⟨b, off, us, e, q1, q2, q3⟩ := at_sound h (k.plain hpl) hp
  obtain ⟨u, r1, r2⟩ := loadVar_run (P := P) hd hi q1 q2 q3 hpart
  rw [Nat.add_zero] at r1
  exact ⟨u, by simp [execOp, ho, e, ptrV, Instr.loadAt, Instr.sureAddr, r1], VX.of_plain r2.place r2⟩

/-- A place of the frame that is named outright is there. -/
theorem VX.here {e : Tr AV} {tmps : Array Value} {d off gen : Nat} {cs : List AV} {u : Value} (h : VX g e tmps (.lptr d off gen) u) (hb : e.get d = some (.box gen cs)) : ∃ b, tmps[d]? = some (ptrV b 0) ∧ u = ptrV b off := by
  obtain ⟨gen', cs', k1, k2, k3⟩ := h
  rw [hb] at k1
  simp only [Option.some.injEq, AV.box.injEq] at k1
  obtain ⟨rfl, rfl⟩ := k1
  exact k3 rfl

theorem here_sound {l : Option Nat} {d off gen : Nat} {u : Value} (h : VX g s.e a.tmps (.lptr d off gen) u) (hh : s.here l d gen = true) : ∃ b, a.tmps[d]? = some (ptrV b 0) ∧ u = ptrV b off := by
  simp only [St.here] at hh
  split at hh <;> try contradiction
  rename_i d'
  simp only [Bool.and_eq_true] at hh
  obtain ⟨h1, h2⟩ := hh
  have := of_beq h1; subst this
  split at h2 <;> try contradiction
  rename_i g' cs hb
  have := of_beq h2; subst this
  exact h.here hb

theorem yields_nilck {o : Oper} {x : Operand} {x' : X} {l : Option Nat} (ho : o.op = .nilCheck x) (hx : cX x = some x') (h : Rel F0 N w0 g F s a w) {call : Call} {v : AV}
    (hs : step call (.nilck l x') s = some (v, s')) : Yields P o g s a w v ∧ s' = s := by
  have k := cX_sound (P := P) hx h.er
  simp only [step] at hs
  have hgoal : ∀ u : Value, a.eval x = u → (∀ y, y = u → (y ≠ .pointer none ∧ y ≠ .nilIface ∧ y ≠ .nilFunc ∧ ∀ n f c, y ≠ .func (.method n) f c)) → (execOp a.eval o).run P w = .ok (.value u) w := by
    intro u hu hn
    obtain ⟨n1, n2, n3, n4⟩ := hn u rfl
    simp only [execOp, ho, hu]
    cases u with
    | pointer q => cases q with
      | none => exact absurd rfl n1
      | some q => rfl
    | func fn f c => cases fn with
      | method n => exact absurd rfl (n4 _ _ _)
      | _ => rfl
    | nilIface => exact absurd rfl n2
    | nilFunc => exact absurd rfl n3
    | _ => rfl
  cases hy : s.ev x' <;> rw [hy] at hs k <;> simp only [Option.some.injEq, Prod.mk.injEq] at hs <;> try contradiction
  case lptr d off gen =>
    cases hh : s.here l d gen with
    | false => rw [hh] at hs; cases hs
    | true =>
      rw [hh] at hs
      simp only [cond_true, Option.some.injEq, Prod.mk.injEq] at hs
      obtain ⟨rfl, rfl⟩ := hs
      obtain ⟨b, k1, k2⟩ := here_sound k hh
      exact ⟨⟨_, hgoal _ rfl (fun y e => by subst e; rw [k2]; simp [ptrV]), k⟩, rfl⟩
  all_goals
    obtain ⟨rfl, rfl⟩ := hs
    refine ⟨⟨_, hgoal _ rfl (fun y e => ?_), k⟩, rfl⟩
    subst e
    generalize a.eval x = u at k
    cases k
    simp

end
end Go.Proofs.YtohncbgkiojlnaaGreatDoor.Am
