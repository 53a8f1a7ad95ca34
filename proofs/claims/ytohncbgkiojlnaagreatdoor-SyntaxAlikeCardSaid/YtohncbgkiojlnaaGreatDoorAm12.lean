/- Operations that lay or write memory. -/
import Derived.Test.YtohncbgkiojlnaaGreatDoorAm11
set_option linter.unusedVariables false
namespace Go.Proofs.YtohncbgkiojlnaaGreatDoor.Am
open Go.RowKit (Below)

section
variable {P : Program} {F0 : Lab → Option HObj} {N : Nat} {w0 : World} {g : G} {F : Lab → Option HObj} {s s' : St} {a : Act} {w : World}

/-- An operation yields a value; the world and the ghosts go on, the frame's slots stay. -/
def Turns (P : Program) (F0 : Lab → Option HObj) (N : Nat) (w0 : World) (o : Oper) (g : G) (s : St) (a : Act) (w : World) (v : AV) (s' : St) : Prop :=
  ∃ u g' F' w', ((execOp a.eval o).run P w = .ok (.value u) w' ∨ (u = undef ∧ (execOp a.eval o).run P w = .ok .skip w')) ∧ Moves s s' g g' ∧ VX g' s'.e a.tmps v u ∧ Rel F0 N w0 g' F' s' a w'

theorem Turns.of_yields {o : Oper} {v : AV} (h : Rel F0 N w0 g F s a w) (k : Yields P o g s a w v) : Turns P F0 N w0 o g s a w v s := by
  obtain ⟨u, h1, h2⟩ := k
  exact ⟨u, g, F, w, .inl h1, .same g rfl rfl, h2, h⟩

theorem newRow_run (t : TypeId) (cs : Array Value) : (newRow t cs).run P w = .ok ⟨w.heap.size, 0, none⟩ (addB w (.cells cs t)) := by
  simp only [newRow, Sem.run_bind, run_newObj, Result.andThen_ok, Sem.run_pure]
  rfl

/-! ### A told row: a literal -/
theorem Rel.litF (h : Rel F0 N w0 g F s a w) {us : Array Value} (t : TypeId) (fr : Nat × Nat) :
    ∃ g', G.ext s.ro g g' ∧ Fz g' w.heap.size 0 us.toList ∧ Rel F0 N w0 g' F s a (addB w (.cells us t fr)) := by
  have hle := G.grow_le h.wr (ow := fun _ => none) (fz := fun i => us.toList[i]?) (loc := g.loc) (fun _ _ _ h => h)
  refine ⟨_, ⟨hle, fun _ _ _ h => h⟩, fun i u hi => by simp [G.grow]; simpa using hi, ?_⟩
  refine ⟨h.er.mono hle (fun b cs _ h => h), h.df.mono hle, ?_, h.hp, h.hx, h.fresh, h.top, h.rb, h.nx, h.frm, by rw [addB_size]; have := h.big; omega⟩
  refine h.wr.grow (fun _ _ _ h => h) (fun i v hv => ⟨us, t, fr, rfl, by simpa using hv⟩) (fun o l hl => by cases hl) (fun l o hl => .inl ⟨hl, fun v hv => ?_⟩)
  cases l with
  | hp r => exact hv
  | fr b => exact hv

theorem Rel.lit (h : Rel F0 N w0 g F s a w) {cs : List AV} {us : Array Value} (t : TypeId) :
    ∃ g', G.ext s.ro g g' ∧ Fz g' w.heap.size 0 us.toList ∧ Rel F0 N w0 g' F s a (addB w (.cells us t)) := h.litF t (0, 0)

theorem flat_rep (n : Nat) (z : AV) : flat (List.replicate n z) = (List.replicate n z.cells).flatten := by
  induction n with
  | zero => rfl
  | succ n ih => simp [List.replicate_succ, flat, ih]
theorem zero_row {zc : List AV} {zu : Array Value} (h : VRs g zc zu.toList) (h1 : One zu.toList) {sz : Nat} (hs : zc.length = sz) (h0 : 0 < sz) (n : Nat) :
    VRs g ((List.replicate n zc).flatten) (((Array.range (n * sz)).map fun i => zu[i % zu.size]!).toList) ∧ One (((Array.range (n * sz)).map fun i => zu[i % zu.size]!).toList) := by
  have hz : zu.size = sz := by have := h.1; simp at this; omega
  have hval : ∀ i, ∃ u, zu[i % sz]? = some u ∧ zu[i % zu.size]! = u := by
    intro i
    have hlt : i % sz < zu.size := by rw [hz]; exact Nat.mod_lt _ h0
    refine ⟨zu[i % sz], Array.getElem?_eq_getElem hlt, ?_⟩
    rw [hz, getElem!_pos zu (i % sz) hlt]
  refine ⟨⟨by simp [List.length_flatten, hs], fun i c u hc hu => ?_⟩, fun u hu => ?_⟩
  · have hi : i < n * sz := by
      rcases Nat.lt_or_ge i (n * sz) with h | h
      · exact h
      · rw [List.getElem?_eq_none (by simp [List.length_flatten, hs]; omega)] at hc; cases hc
    have hc' : c ∈ zc ∧ zc[i % sz]? = some c := by
      have : ∀ (n i : Nat), i < n * sz → ((List.replicate n zc).flatten)[i]? = zc[i % sz]? := by
        intro n
        induction n with
        | zero => intro i hi; omega
        | succ n ih =>
          intro i hi
          rw [Nat.succ_mul] at hi
          simp only [List.replicate_succ, List.flatten_cons]
          by_cases hlt : i < sz
          · rw [List.getElem?_append_left (by omega), Nat.mod_eq_of_lt hlt]
          · rw [List.getElem?_append_right (by omega), hs, ih (i - sz) (by omega)]
            congr 1
            rw [Nat.mod_eq_sub_mod (by omega : sz ≤ i)]
      rw [this n i hi] at hc
      exact ⟨List.mem_of_getElem? hc, hc⟩
    obtain ⟨u', k1, k2⟩ := hval i
    have hu' : u = u' := by
      simp only [Array.getElem?_toList, Array.getElem?_map, Array.getElem?_range, hi, if_true, Option.map_some, Option.some.injEq] at hu
      rw [← hu, k2]
    subst hu'
    exact h.2 _ c u hc'.2 (by simpa using k1)
  · simp only [Array.toList_map, List.mem_map] at hu
    obtain ⟨i, _, rfl⟩ := hu
    obtain ⟨u', k1, k2⟩ := hval i
    rw [k2]
    exact h1 u' (by have := Array.mem_of_getElem? k1; simpa using this)

/-! ### A new thing of the heap -/
def locSet (loc : Nat → Nat → Option (Nat × Nat × Nat)) (r ver : Nat) (x : Nat × Nat × Nat) : Nat → Nat → Option (Nat × Nat × Nat) :=
  fun r' v' => if r' = r ∧ v' = ver then some x else loc r' v'
theorem free_sound {k : Nat} (h : s.free k = true) : s.rb + k < s.nx ∧ s.ro ≤ s.rb + k ∧ s.h.get (s.rb + k) = none := by
  simp only [St.free, Bool.and_eq_true] at h
  obtain ⟨⟨h1, h2⟩, h3⟩ := h
  have h1 : s.rb + k < s.nx := Nat.le_of_ble_eq_true h1
  have h2 := Nat.le_of_ble_eq_true h2
  refine ⟨h1, by omega, ?_⟩
  split at h3
  · assumption
  · cases h3

theorem locSet_lo {n r ver : Nat} {x : Nat × Nat × Nat} {loc : Nat → Nat → Option (Nat × Nat × Nat)} (hr : n ≤ r) : ∀ r' v, r' < n → loc r' v = none → locSet loc r ver x r' v = none := by
  intro r' v h1 h2
  simp only [locSet]
  rw [if_neg (by omega)]; exact h2

theorem Rel.hnew' (h : Rel F0 N w0 g F s a w) {r ver : Nat} {x : Nat × Nat × Nat} (hr : s.ro ≤ r) (hlt : r < s.nx) (hfresh : g.loc r ver = none) {ob : Obj} {ow : Nat → Option Lab} {fz : Nat → Option Value} {o : HObj}
    (hfz : ∀ i v, fz i = some v → ∃ cs t fr, ob = .cells cs t fr ∧ cs[i]? = some v) (hof : ∀ i l, ow i = some l → fz i = none)
    (hor : G.le g (g.grow w.heap.size ow fz (locSet g.loc r ver x)) → OR (g.grow w.heap.size ow fz (locSet g.loc r ver x)) (addB w ob) (.hp r) o) :
    G.le g (g.grow w.heap.size ow fz (locSet g.loc r ver x)) ∧
      Rel F0 N w0 (g.grow w.heap.size ow fz (locSet g.loc r ver x)) (F_set F (.hp r) o) { s with h := s.h.put r (some o) } a (addB w ob) := by
  have hl : ∀ r' v y, g.loc r' v = some y → locSet g.loc r ver x r' v = some y := by
    intro r' v y hy
    simp only [locSet]
    rw [if_neg]
    · exact hy
    · rintro ⟨rfl, rfl⟩
      rw [hfresh] at hy; cases hy
  have hle := G.grow_le h.wr (ow := ow) (fz := fz) hl
  have hFfr : ∀ b, (F_set F (.hp r) o) (.fr b) = F (.fr b) := fun b => by simp [F_set]
  have hFhp : ∀ r', r' ≠ r → (F_set F (.hp r) o) (.hp r') = F (.hp r') := fun r' hr' => by simp [F_set, hr']
  refine ⟨hle, h.er.mono hle (fun b cs _ hb => by rw [hFfr]; exact hb), h.df.mono hle, ?_, fun r' o' ho' => ?_, fun r' hr' => ?_, fun r' hr' hn' v => ?_, fun r' hr' => ?_, h.rb, h.nx, ⟨fun r' o' hr' ho' => ?_, fun b o' hb ho' => ?_⟩, ?_⟩
  · refine h.wr.grow hl hfz hof (fun l o' hlo => ?_)
    by_cases e : l = .hp r
    · subst e
      simp only [F_set, if_true, Option.some.injEq] at hlo
      subst hlo
      exact .inr (hor hle)
    · simp only [F_set, if_neg e] at hlo
      refine .inl ⟨hlo, fun v hv => ?_⟩
      cases l with
      | hp r' =>
        have : r' ≠ r := fun e' => e (by rw [e'])
        simp only [G.at_, G.grow, locSet]
        rw [if_neg (fun hh => this hh.1)]
        exact hv
      | fr b => exact hv
  · simp only [Tr.get_put] at ho'
    by_cases e : r' = r
    · subst e
      rw [if_pos rfl] at ho'
      simpa [F_set] using ho'
    · rw [if_neg e] at ho'
      rw [hFhp r' e]; exact h.hp r' o' ho'
  · simp only [Tr.get_put]
    by_cases e : r' = r
    · subst e; simp [F_set]
    · rw [if_neg e, hFhp r' e]; exact h.hx r' hr'
  · simp only [Tr.get_put] at hn'
    by_cases e : r' = r
    · rw [if_pos e] at hn'; cases hn'
    · rw [if_neg e] at hn'
      simp only [G.grow, locSet]
      rw [if_neg (fun hh => e hh.1)]
      exact h.fresh r' hr' hn' v
  · simp only [Tr.get_put]
    rw [if_neg (by simp at hr'; omega)]
    exact h.top r' hr'
  · have : r' ≠ r := by simp at hr'; omega
    rw [hFhp r' this]; exact h.frm.hp r' o' hr' ho'
  · rw [hFfr]; exact h.frm.fr b o' hb ho'
  · rw [addB_size]; have := h.big; omega

theorem Rel.hnew (h : Rel F0 N w0 g F s a w) {r ver : Nat} {x : Nat × Nat × Nat} (hr : s.ro ≤ r) (hlt : r < s.nx) (hn : s.h.get r = none) {ob : Obj} {ow : Nat → Option Lab} {fz : Nat → Option Value} {o : HObj}
    (hfz : ∀ i v, fz i = some v → ∃ cs t fr, ob = .cells cs t fr ∧ cs[i]? = some v) (hof : ∀ i l, ow i = some l → fz i = none)
    (hor : G.le g (g.grow w.heap.size ow fz (locSet g.loc r ver x)) → OR (g.grow w.heap.size ow fz (locSet g.loc r ver x)) (addB w ob) (.hp r) o) :
    G.le g (g.grow w.heap.size ow fz (locSet g.loc r ver x)) ∧
      Rel F0 N w0 (g.grow w.heap.size ow fz (locSet g.loc r ver x)) (F_set F (.hp r) o) { s with h := s.h.put r (some o) } a (addB w ob) :=
  h.hnew' hr hlt (h.fresh r hr hn ver) hfz hof hor

/-- A new box. -/
theorem Rel.hbox (h : Rel F0 N w0 g F s a w) {k : Nat} (hk : s.free k = true) {cs : List AV} {us : List Value} (t : TypeId) (hv : VRs g cs us) (h1 : One us) :
    ∃ g' F', G.ext s.ro g g' ∧ VR g' (.ptr (s.rb + k) 0) (ptrV w.heap.size 0) ∧ Rel F0 N w0 g' F' { s with h := s.h.put (s.rb + k) (some (.box cs)) } a (addB w (.cells us.toArray t)) := by
  obtain ⟨k1, k2, k3⟩ := free_sound hk
  have := h.hnew (ver := 0) (x := (w.heap.size, 0, 0)) k2 k1 k3 (ob := .cells us.toArray t) (ow := fun i => if i < us.length then some (.hp (s.rb + k)) else none) (fz := fun _ => none) (o := .box cs)
    (fun i v hv => by cases hv) (fun i l _ => rfl)
    (fun hle => ⟨w.heap.size, us, t, by simp [G.at_, G.grow, locSet], by rw [addB_get, if_pos rfl], hv.mono hle, h1, fun i hi => by simp [G.grow, hi]⟩)
  exact ⟨_, _, ⟨this.1, locSet_lo k2⟩, .ptr (x := 0) (by simp [G.grow, locSet]), this.2⟩

theorem turns_hal {o : Oper} {t : TypeId} {z : AV} {k : Nat} (ho : o.op = .alloc t) (hz : zeroT P t = some z) (h : Rel F0 N w0 g F s a w) (hk : s.free k = true) :
    Turns P F0 N w0 o g s a w (.ptr (s.rb + k) 0) { s with h := s.h.put (s.rb + k) (some (.box z.cells)) } := by
  obtain ⟨i, zv, k1, k2, k3, k4, k5⟩ := zeroT_sound g hz
  obtain ⟨g', F', m1, m2, m3⟩ := h.hbox hk t k4 k5
  refine ⟨_, g', F', _, .inl ?_, .of m1 rfl rfl, VX.of_plain m2.place m2, m3⟩
  simp only [execOp, ho, Instr.alloc, Sem.run_bind, zeroValue_run k1 k2, Result.andThen_ok, newVar, newRow_run, Sem.run_pure, Array.toArray_toList]
  rfl
theorem turns_hbx {o : Oper} {t : TypeId} {x : Operand} {x' : X} {k : Nat} {v : AV} (ho : o.op = .box t x) (hx : cX x = some x') (h : Rel F0 N w0 g F s a w) (hv : told (s.ev x') = some v) (hk : s.free k = true) :
    Turns P F0 N w0 o g s a w (.ptr (s.rb + k) 0) { s with h := s.h.put (s.rb + k) (some (.box v.cells)) } := by
  obtain ⟨_, k1, k2, k3⟩ := (eval_of hx h).told hv
  obtain ⟨g', F', m1, m2, m3⟩ := h.hbox hk t k2 k3
  refine ⟨_, g', F', _, .inl ?_, .of m1 rfl rfl, VX.of_plain m2.place m2, m3⟩
  simp only [execOp, ho, Instr.box, Sem.run_bind, Result.andThen_ok, newVar, newRow_run, Sem.run_pure, Array.toArray_toList]
  rfl

/-! ### Stores -/
theorem storeCells_run {b off : Nat} {ty : TypeId} {fr : Nat × Nat} : ∀ (us : List Value) (i : Nat) (cells : Array Value) (w : World), w.heap[b]? = some (.cells cells ty fr) → One us → off + i + us.length ≤ cells.size →
    (∀ j, off + i ≤ j → j < off + i + us.length → (decide (fr.1 ≤ j) && decide (j < fr.2)) = false) →
    (storeCells ⟨b, off, none⟩ us i).run P w = .ok () (setB w b (.cells (putA cells (off + i) us) ty fr)) := by
  intro us
  induction us with
  | nil =>
    intro i cells w hb _ _ _
    simp only [storeCells, putA, Sem.run_pure]
    congr 1
    have : w.heap.setIfInBounds b (.cells cells ty fr) = w.heap := by
      apply Array.ext_getElem?
      intro j
      rw [Array.getElem?_setIfInBounds]
      by_cases e : b = j
      · subst e; rw [if_pos rfl, if_pos (lt_of_get hb), hb]
      · rw [if_neg e]
    simp only [setB, this]
  | cons u us ih =>
    intro i cells w hb h1 hl hf
    simp only [List.length_cons] at hl hf
    have hc : w.cell? ⟨b, off + i, none⟩ = some cells[off + i] := by rw [cell_of hb, Array.getElem?_eq_getElem (by omega)]
    have hfr : w.frozen? ⟨b, off + i, none⟩ = false := by rw [frozen_of hb]; exact hf (off + i) (Nat.le_refl _) (by omega)
    have h1u : u.oneCell' = true := by
      have := h1 u (by simp)
      cases u <;> simp_all [oneC, Value.oneCell']
    have hst : (store ⟨b, off + i, none⟩ u).run P w = .ok () (setB w b (.cells (cells.setIfInBounds (off + i) u) ty fr)) := by
      rw [run_store P w _ u .plain h1u, hc]
      simp only [hfr, Bool.false_eq_true, if_false]
      congr 1
      simp only [World.setCell, setB]
      congr 1
      apply Array.ext_getElem?
      intro j
      rw [Array.getElem?_modify, Array.getElem?_setIfInBounds]
      by_cases e : b = j
      · subst e; rw [if_pos rfl, if_pos rfl, if_pos (lt_of_get hb), hb]; rfl
      · rw [if_neg e, if_neg e]
    have hb' : (setB w b (.cells (cells.setIfInBounds (off + i) u) ty fr)).heap[b]? = some (.cells (cells.setIfInBounds (off + i) u) ty fr) := by rw [setB_get, if_pos rfl, if_pos (lt_of_get hb)]
    have := ih (i + 1) _ _ hb' (fun x hx => h1 x (by simp [hx])) (by simp; omega) (fun j hj1 hj2 => hf j (by omega) (by omega))
    simp only [storeCells, add_plain, Sem.run_bind, hst, Result.andThen_ok, this, setB_setB, putA]
    rfl

theorem storeVar_run {t : TypeId} {i : TypeInfo} {b off : Nat} {u : Value} {cells : Array Value} {ty : TypeId} (hi : P.info? t = some i) (hs : u.cells.size = i.size) (hb : w.heap[b]? = some (.cells cells ty (0, 0)))
    (h1 : One u.cells.toList) (hl : off + i.size ≤ cells.size) : (storeVar t ⟨b, off, none⟩ u).run P w = .ok () (setB w b (.cells (putA cells off u.cells.toList) ty (0, 0))) := by
  have := storeCells_run (P := P) (off := off) u.cells.toList 0 cells w hb h1 (by simp; omega) (fun j _ _ => by simp)
  simp only [storeVar, Sem.run_bind, sizeOf_run hi, Result.andThen_ok]
  rw [if_neg (by omega)]
  exact this

theorem F_set_same (F : Lab → Option HObj) (l : Lab) (o : HObj) : F_set F l o l = some o := by simp [F_set]
theorem F_set_other (F : Lab → Option HObj) {l l' : Lab} (o : HObj) (h : l' ≠ l) : F_set F l o l' = F l' := by simp [F_set, h]

/-- A box's cells are written. -/
theorem WR.box_write (h : WR g F w0 w) {l : Lab} {cs vs : List AV} {us : List Value} {off : Nat} (hF : F l = some (.box cs)) (hv : VRs g vs us) (h1 : One us) (hne : us ≠ []) (hl : off + vs.length ≤ cs.length) :
    ∃ b cells t, g.at_ l 0 = some (b, 0, 0) ∧ w.heap[b]? = some (.cells cells t (0, 0)) ∧ off + us.length ≤ cells.size ∧ WR g (F_set F l (.box (putCells cs off vs))) w0 (setB w b (.cells (putA cells off us) t (0, 0))) := by
  obtain ⟨b, ws, t, k1, k2, k3, k4, k5⟩ := h.obj _ _ hF
  have hsz : off + us.length ≤ ws.length := by rw [← k3.1, ← hv.1]; exact hl
  refine ⟨b, ws.toArray, t, k1, k2, by simpa using hsz, ?_⟩
  refine h.write (l0 := l) k2 (fun i _ hi => k5 i (by omega)) (fun l' o hl' => ?_) hne
  by_cases e : l' = l
  · subst e
    rw [F_set_same] at hl'
    simp only [Option.some.injEq] at hl'; subst hl'
    refine .inr ⟨b, (putA ws.toArray off us).toList, t, k1, ?_, ?_, ?_, fun i hi => ?_⟩
    · rw [setB_get, if_pos rfl, if_pos (lt_of_get k2)]
    · exact put_sound (us := ws.toArray) (by simpa using k3) hv off
    · exact put_one (us := ws.toArray) (by simpa using k4) h1 off
    · simp only [Array.length_toList, putA_size] at hi
      exact k5 i (by simpa using hi)
  · rw [F_set_other F _ e] at hl'
    exact .inl ⟨e, hl'⟩

theorem turns_stL {o : Oper} {t : TypeId} {x y : Operand} {x' y' : X} {i : TypeInfo} {d off gen : Nat} {cs : List AV} {u : AV} (ho : o.op = .store t x y) (hx : cX x = some x') (hy : cX y = some y') (hi : P.info? t = some i)
    (h : Rel F0 N w0 g F s a w) (hp : s.ev x' = .lptr d off gen) (hb : s.e.get d = some (.box gen cs)) (hu : told (s.ev y') = some u) (hn : u.cells.length = i.size) (h0 : i.size ≠ 0) (hl : off + i.size ≤ cs.length) :
    Turns P F0 N w0 o g s a w .undef { s with e := s.e.put d (some (.box gen (putCells cs off u.cells))) } := by
  have kx := eval_of hx h
  rw [hp] at kx
  obtain ⟨b, m1, m2⟩ := kx.here hb
  obtain ⟨b', n1, n2, n3⟩ := h.er.box _ _ _ hb
  rw [m1] at n1
  simp only [ptrV, Option.some.injEq, Value.pointer.injEq, Addr.mk.injEq] at n1
  obtain ⟨rfl, _⟩ := n1
  obtain ⟨_, k1, k2, k3⟩ := (eval_of hy h).told hu
  have hlen : (a.eval y).cells.size = i.size := by have := k2.1; simp at this; omega
  obtain ⟨b2, cells, ty, q1, q2, q3, q4⟩ := h.wr.box_write (us := (a.eval y).cells.toList) (off := off) n2 k2 k3 (fun e => by have h9 : (a.eval y).cells.size = 0 := (by simpa using congrArg List.length e); omega) (by omega)
  simp only [G.at_, Option.some.injEq, Prod.mk.injEq] at q1
  obtain ⟨rfl, _⟩ := q1
  have hst := storeVar_run (P := P) (off := off) hi hlen q2 k3 (by simp at q3; omega)
  refine ⟨undef, g, F_set F (.fr b) (.box (putCells cs off u.cells)), setB w b (.cells (putA cells off (a.eval y).cells.toList) ty (0, 0)), .inr ⟨rfl, ?_⟩, .same g rfl rfl, VR.undef _, ?_⟩
  · simp only [execOp, ho, m2, ptrV, Instr.storeAt, Instr.sureAddr, Sem.run_bind, Sem.run_pure, Result.andThen_ok, hst]
  · refine ⟨⟨fun j v hj hpl => ?_, fun j g1 c1 hj => ?_, fun j1 j2 g1 c1 g2 c2 b1 hj1 hj2 k1 k2 => ?_, fun j d0 o0 g1 hj => ?_⟩, h.df, q4, fun r o' hr => ?_, fun r hr => ?_, h.fresh, h.top, h.rb, h.nx, ⟨fun r o' hr ho' => ?_, fun b1 o' hb1 ho' => ?_⟩, by rw [setB_size]; exact h.big⟩
    · simp only [Tr.get_put] at hj
      by_cases e : j = d
      · rw [if_pos e] at hj; injection hj with hj; subst hj; cases hpl
      · rw [if_neg e] at hj; exact h.er.val j v hj hpl
    · simp only [Tr.get_put] at hj
      by_cases e : j = d
      · rw [if_pos e] at hj; injection hj with hj; injection hj with e1 e2; subst e1; subst e2
        exact ⟨b, by rw [e]; exact m1, F_set_same .., n3⟩
      · rw [if_neg e] at hj
        obtain ⟨b1, p1, p2, p3⟩ := h.er.box j g1 c1 hj
        have : b1 ≠ b := by
          intro e'; subst e'
          exact e (h.er.inj j d g1 c1 gen cs b1 hj hb p1 m1)
        exact ⟨b1, p1, by rw [F_set_other F _ (by simp [this])]; exact p2, p3⟩
    · simp only [Tr.get_put] at hj1 hj2
      by_cases e1 : j1 = d
      · by_cases e2 : j2 = d
        · omega
        · rw [if_neg e2] at hj2
          subst e1
          exact h.er.inj j1 j2 gen cs g2 c2 b1 hb hj2 k1 k2
      · rw [if_neg e1] at hj1
        by_cases e2 : j2 = d
        · subst e2
          exact h.er.inj j1 j2 g1 c1 gen cs b1 hj1 hb k1 k2
        · rw [if_neg e2] at hj2
          exact h.er.inj j1 j2 g1 c1 g2 c2 b1 hj1 hj2 k1 k2
    · simp only [Tr.get_put] at hj
      by_cases e : j = d
      · rw [if_pos e] at hj; cases hj
      · rw [if_neg e] at hj
        obtain ⟨g2, c2, p1, p2, p3⟩ := h.er.lp j d0 o0 g1 hj
        by_cases e2 : d0 = d
        · subst e2
          rw [hb] at p1
          simp only [Option.some.injEq, AV.box.injEq] at p1
          obtain ⟨rfl, rfl⟩ := p1
          exact ⟨gen, putCells cs off u.cells, by simp [Tr.get_put], p2, p3⟩
        · exact ⟨g2, c2, by simp only [Tr.get_put]; rw [if_neg e2]; exact p1, p2, p3⟩
    · rw [F_set_other F _ (by simp)]; exact h.hp r o' hr
    · rw [F_set_other F _ (by simp)]; exact h.hx r hr
    · rw [F_set_other F _ (by simp)]; exact h.frm.hp r o' hr ho'
    · have : b1 ≠ b := by omega
      rw [F_set_other F _ (by simp [this])]; exact h.frm.fr b1 o' hb1 ho'

theorem turns_stH_ptr {o : Oper} {t : TypeId} {x y : Operand} {x' y' : X} {i : TypeInfo} {r off : Nat} {cs : List AV} {u : AV} (ho : o.op = .store t x y) (hx : cX x = some x') (hy : cX y = some y') (hi : P.info? t = some i)
    (h : Rel F0 N w0 g F s a w) (hp : s.ev x' = .ptr r off) (hb : s.h.get r = some (.box cs)) (hu : told (s.ev y') = some u) (hn : u.cells.length = i.size) (h0 : i.size ≠ 0) (hl : off + i.size ≤ cs.length) (hr : s.ro ≤ r) :
    Turns P F0 N w0 o g s a w .undef { s with h := s.h.put r (some (.box (putCells cs off u.cells))) } := by
  have kx := eval_of hx h
  rw [hp] at kx
  have kx : VR g (.ptr r off) (a.eval x) := kx
  generalize hux : a.eval x = ux at kx
  cases kx with
  | @ptr _ _ b xx hloc =>
    obtain ⟨_, k1, k2, k3⟩ := (eval_of hy h).told hu
    have hlen : (a.eval y).cells.size = i.size := by have := k2.1; simp at this; omega
    obtain ⟨b2, cells, ty, q1, q2, q3, q4⟩ := h.wr.box_write (us := (a.eval y).cells.toList) (off := off) (h.hp r _ hb) k2 k3 (fun e => by have h9 : (a.eval y).cells.size = 0 := (by simpa using congrArg List.length e); omega) (by omega)
    have hb2 : b = b2 := by
      simp only [G.at_] at q1
      rw [hloc] at q1
      simp only [Option.some.injEq, Prod.mk.injEq] at q1
      exact q1.1
    subst hb2
    have hst := storeVar_run (P := P) (off := off) hi hlen q2 k3 (by simp at q3; omega)
    refine ⟨undef, g, F_set F (.hp r) (.box (putCells cs off u.cells)), setB w b (.cells (putA cells off (a.eval y).cells.toList) ty (0, 0)), .inr ⟨rfl, ?_⟩, .same g rfl rfl, VR.undef _, ?_⟩
    · simp only [execOp, ho, hux, Instr.storeAt, Instr.sureAddr, Sem.run_bind, Sem.run_pure, Result.andThen_ok, hst]
    · have hFr : ∀ b1 o', (F_set F (.hp r) o') (.fr b1) = F (.fr b1) := fun b1 o' => by simp [F_set]
      refine ⟨h.er.mono (G.le.refl g) (fun b1 c1 _ hh => by rw [hFr]; exact hh), h.df, q4, fun r' o' hr' => ?_, fun r' hr' => ?_, fun r' hr' hn' v => ?_, fun r' hr' => ?_, h.rb, h.nx, ⟨fun r' o' hr' ho' => ?_, fun b1 o' hb1 ho' => ?_⟩, by rw [setB_size]; exact h.big⟩
      · simp only [Tr.get_put] at hr'
        by_cases e : r' = r
        · subst e; rw [if_pos rfl] at hr'; rw [F_set_same]; exact hr'
        · rw [if_neg e] at hr'; rw [F_set_other F _ (by simp [e])]; exact h.hp r' o' hr'
      · simp only [Tr.get_put]
        by_cases e : r' = r
        · subst e; rw [if_pos rfl, F_set_same]
        · rw [if_neg e, F_set_other F _ (by simp [e])]; exact h.hx r' hr'
      · simp only [Tr.get_put] at hn'
        by_cases e : r' = r
        · rw [if_pos e] at hn'; cases hn'
        · rw [if_neg e] at hn'; exact h.fresh r' hr' hn' v
      · simp only [Tr.get_put]
        rw [if_neg]
        · exact h.top r' hr'
        · intro e; subst e
          have := h.top r' hr'
          rw [hb] at this; cases this
      · have : r' ≠ r := by simp at hr'; omega
        rw [F_set_other F _ (by simp [this])]; exact h.frm.hp r' o' hr' ho'
      · rw [hFr]; exact h.frm.fr b1 o' hb1 ho'
end
end Go.Proofs.YtohncbgkiojlnaaGreatDoor.Am
