/- What a world holds of the abstract heap: the relation, and the ways in which it turns. -/
import Derived.Test.YtohncbgkiojlnaaGreatDoorAm4
set_option linter.unusedVariables false
namespace Go.Proofs.YtohncbgkiojlnaaGreatDoor.Am
open Go.RowKit (Below)

/-! ### Worlds -/
def setB (w : World) (b : Nat) (o : Obj) : World := { w with heap := w.heap.setIfInBounds b o }
def addB (w : World) (o : Obj) : World := { w with heap := w.heap.push o }
theorem setB_get (w : World) (b : Nat) (o : Obj) (k : Nat) : (setB w b o).heap[k]? = if b = k then (if k < w.heap.size then some o else none) else w.heap[k]? := by
  simp only [setB, Array.getElem?_setIfInBounds]
  by_cases h : b = k
  · subst h; rfl
  · rw [if_neg h, if_neg h]
theorem addB_get (w : World) (o : Obj) (k : Nat) : (addB w o).heap[k]? = if k = w.heap.size then some o else w.heap[k]? := by
  simp only [addB, Array.getElem?_push]
theorem setB_size (w : World) (b : Nat) (o : Obj) : (setB w b o).heap.size = w.heap.size := by simp [setB]
theorem addB_size (w : World) (o : Obj) : (addB w o).heap.size = w.heap.size + 1 := by simp [addB]
theorem lt_of_get {w : World} {b : Nat} {o : Obj} (h : w.heap[b]? = some o) : b < w.heap.size := (Array.getElem?_eq_some_iff.1 h).1
theorem setB_setB (w : World) (b : Nat) (o o' : Obj) : setB (setB w b o) b o' = setB w b o' := by
  simp only [setB]
  congr 1
  apply Array.ext_getElem?
  intro i
  simp only [Array.getElem?_setIfInBounds, Array.size_setIfInBounds]
  by_cases h : b = i <;> simp [h]
theorem below_setB {w0 w : World} (h : Below w0.heap.size w0 w) {b : Nat} (hb : w0.heap.size ≤ b) (o : Obj) : Below w0.heap.size w0 (setB w b o) :=
  ⟨h.os, h.tape, h.output, by rw [setB_size]; exact h.size, fun k hk => by rw [setB_get, if_neg (by omega)]; exact h.block k hk⟩
theorem below_addB {w0 w : World} (h : Below w0.heap.size w0 w) (o : Obj) : Below w0.heap.size w0 (addB w o) :=
  ⟨h.os, h.tape, h.output, by rw [addB_size]; have := h.size; omega, fun k hk => by rw [addB_get, if_neg (by have := h.size; omega)]; exact h.block k hk⟩
theorem cell_of {w : World} {b o : Nat} {cs : Array Value} {t : TypeId} {fr : Nat × Nat} (h : w.heap[b]? = some (.cells cs t fr)) : w.cell? ⟨b, o, none⟩ = cs[o]? := by
  simp [World.cell?, h]
theorem cells_of {w : World} {b o : Nat} {v : Value} (h : w.cell? ⟨b, o, none⟩ = some v) : ∃ cs t fr, w.heap[b]? = some (.cells cs t fr) ∧ cs[o]? = some v := by
  unfold World.cell? at h
  split at h <;> try contradiction
  rename_i cs t fr hh
  exact ⟨cs, t, fr, hh, by simpa using h⟩
theorem frozen_of {w : World} {b o : Nat} {cs : Array Value} {t : TypeId} {fr : Nat × Nat} (h : w.heap[b]? = some (.cells cs t fr)) : w.frozen? ⟨b, o, none⟩ = (fr.1 ≤ o && o < fr.2) := by
  simp [World.frozen?, h]
theorem add_plain (b o n : Nat) : (⟨b, o, none⟩ : Addr).add n = ⟨b, o + n, none⟩ := by
  unfold Addr.add
  split <;> simp_all

/-- A row of cells written. -/
def putA : Array Value → Nat → List Value → Array Value
  | cs, _, [] => cs
  | cs, off, u :: us => putA (cs.setIfInBounds off u) (off + 1) us
theorem putA_size (cs : Array Value) (off : Nat) (us : List Value) : (putA cs off us).size = cs.size := by
  induction us generalizing cs off with
  | nil => rfl
  | cons u us ih => simp [putA, ih]
theorem putA_get (cs : Array Value) (off : Nat) (us : List Value) (i : Nat) :
    (putA cs off us)[i]? = if off ≤ i ∧ i < off + us.length ∧ i < cs.size then us[i - off]? else cs[i]? := by
  induction us generalizing cs off with
  | nil => simp [putA]; intro h1 h2; omega
  | cons u us ih =>
    simp only [putA, ih, Array.size_setIfInBounds, List.length_cons, Array.getElem?_setIfInBounds]
    by_cases h1 : off + 1 ≤ i ∧ i < off + 1 + us.length ∧ i < cs.size
    · rw [if_pos h1, if_pos (by omega)]
      rw [show i - off = (i - (off + 1)) + 1 from by omega]
      simp
    · rw [if_neg h1]
      by_cases h2 : off = i
      · subst h2
        rw [if_pos rfl]
        by_cases h3 : off < cs.size
        · simp [h3]
        · simp only [h3, if_false, and_false]
          rw [Array.getElem?_eq_none (by omega)]
      · rw [if_neg h2]
        by_cases h3 : off ≤ i ∧ i < off + (us.length + 1) ∧ i < cs.size
        · omega
        · rw [if_neg h3]

/-! ### The heap's objects in the world -/
def G.at_ (g : G) : Lab → Nat → Option (Nat × Nat × Nat)
  | .hp r, v => g.loc r v
  | .fr b, _ => some (b, 0, 0)

def Entries (g : G) (es : List (AV × AV)) (ents : Array MapEntry) : Prop :=
  es.length = ents.size ∧ ∀ (i : Nat) k v e, es[i]? = some (k, v) → ents[i]? = some e → VR g k e.key ∧ VR g v e.val

def OR (g : G) (w : World) (l : Lab) : HObj → Prop
  | .box cs => ∃ b us t, g.at_ l 0 = some (b, 0, 0) ∧ w.heap[b]? = some (.cells us.toArray t (0, 0)) ∧ VRs g cs us ∧ One us ∧ ∀ i < us.length, g.ow b i = some l
  | .vec sz ver xs => ∃ b cap us cells t, g.at_ l ver = some (b, 0, cap) ∧ w.heap[b]? = some (.cells cells t (0, 0)) ∧ cells.size = cap * sz ∧ 0 < sz ∧ VRs g (flat xs) us ∧ One us ∧
      (∀ x ∈ xs, x.cells.length = sz) ∧ xs.length ≤ cap ∧ (∀ (i : Nat) u, us[i]? = some u → cells[i]? = some u) ∧ (∀ i < cap * sz, g.ow b i = some l) ∧ ∀ v, ver < v → g.at_ l v = none
  | .chain sz tip => ∃ b e sp, g.at_ l tip = some (b, e, sp) ∧ 0 < sz ∧
      (∀ i < sp * sz, g.ow b (e + i) = some l ∧ (w.cell? ⟨b, e + i, none⟩).isSome = true ∧ w.frozen? ⟨b, e + i, none⟩ = false) ∧ ∀ v, tip < v → g.at_ l v = none
  | .map es => ∃ b ents clock, g.at_ l 0 = some (b, 0, 0) ∧ w.heap[b]? = some (.map ents clock) ∧ Entries g es ents ∧ g.ow b 0 = some l
  | .iter s pos => ∃ b, g.at_ l 0 = some (b, 0, 0) ∧ w.heap[b]? = some (.stringIter s pos) ∧ g.ow b 0 = some l
  | .loop f ps e A B aA aB st => ∃ b rec, g.at_ l 0 = some (b, 0, 0) ∧ w.heap[b]? = some (.loop rec) ∧ g.ow b 0 = some l ∧ ((∀ p ∈ ps, p < rec.tmps.size) ∧ rec.params.toList = ps ∧ rec.assign = A ∧ rec.body = B ∧ rec.pending = none ∧
      rec.state = (match st with | 0 => .ready | 1 => .busy | _ => .exhausted)) ∧ (∀ (i : Nat) v, e.get i = some v → ∃ u, rec.tmps[i]? = some u ∧ VR g v u) ∧
      ∃ modeOf H k1 k2 k3 k4, cCode g.P modeOf H A k1 = some (aA, k2) ∧ cCode g.P modeOf H B k3 = some (aB, k4) ∧ H.nt = rec.tmps.size ∧ noDfr aA = true ∧ noDfr aB = true
  | .dblk op => ∃ b, g.at_ l 0 = some (b, 0, 0) ∧ w.heap[b]? = some (.deferred (if op then some [] else none)) ∧ g.ow b 0 = some l
  | _ => False

structure WR (g : G) (F : Lab → Option HObj) (w0 w : World) : Prop where
  below : Below w0.heap.size w0 w
  fz : ∀ b o v, g.fz b o = some v → w.cell? ⟨b, o, none⟩ = some v
  own : ∀ b o l, g.ow b o = some l → g.fz b o = none ∧ w0.heap.size ≤ b ∧ b < w.heap.size
  obj : ∀ l o, F l = some o → OR g w l o

theorem WR.fz_none {g : G} {F : Lab → Option HObj} {w0 w : World} (h : WR g F w0 w) {b o : Nat} (hb : w.heap.size ≤ b) : g.fz b o = none := by
  cases hf : g.fz b o with
  | none => rfl
  | some v =>
    obtain ⟨cs, t, fr, hh, _⟩ := cells_of (h.fz b o v hf)
    have := lt_of_get hh
    omega
theorem WR.ow_none {g : G} {F : Lab → Option HObj} {w0 w : World} (h : WR g F w0 w) {b o : Nat} (hb : w.heap.size ≤ b) : g.ow b o = none := by
  cases hf : g.ow b o with
  | none => rfl
  | some v => have := (h.own b o v hf).2.2; omega
theorem WR.sub {g : G} {F F' : Lab → Option HObj} {w0 w : World} (h : WR g F w0 w) (k : ∀ l o, F' l = some o → F l = some o) : WR g F' w0 w :=
  ⟨h.below, h.fz, h.own, fun l o hl => h.obj l o (k l o hl)⟩

theorem Entries.mono {g g' : G} (k : g.le g') {es : List (AV × AV)} {ents : Array MapEntry} (h : Entries g es ents) : Entries g' es ents :=
  ⟨h.1, fun i a v e h1 h2 => let ⟨x, y⟩ := h.2 i a v e h1 h2; ⟨x.mono k, y.mono k⟩⟩
theorem G.le.at_ {g g' : G} (k : g.le g') {l : Lab} {v : Nat} {x : Nat × Nat × Nat} (h : g.at_ l v = some x) : g'.at_ l v = some x := by
  cases l with
  | hp r => exact k.loc _ _ _ h
  | fr b => exact h

/-- What an object needs to live on. -/
structure Kept (g g' : G) (w w' : World) (l : Lab) : Prop where
  le : g.le g'
  ow : ∀ b i, g.ow b i = some l → g'.ow b i = some l
  at_ : ∀ v, g.at_ l v = none → g'.at_ l v = none
  cells : ∀ b cs t fr, w.heap[b]? = some (.cells cs t fr) → ∃ cs', w'.heap[b]? = some (.cells cs' t fr) ∧ cs'.size = cs.size ∧ ∀ i, g.ow b i = some l → cs'[i]? = cs[i]?
  other : ∀ b o, w.heap[b]? = some o → (∀ cs t fr, o ≠ .cells cs t fr) → g.ow b 0 = some l → w'.heap[b]? = some o

theorem OR.kept {g g' : G} {w w' : World} {l : Lab} {o : HObj} (h : OR g w l o) (k : Kept g g' w w' l) : OR g' w' l o := by
  cases o with
  | box cs =>
    obtain ⟨b, us, t, h1, h2, h3, h4, h5⟩ := h
    obtain ⟨cs', k1, k2, k3⟩ := k.cells _ _ _ _ h2
    refine ⟨b, us, t, k.le.at_ h1, ?_, h3.mono k.le, h4, fun i hi => k.ow _ _ (h5 i hi)⟩
    have : cs' = us.toArray := by
      apply Array.ext_getElem?
      intro i
      by_cases hi : i < us.length
      · exact k3 i (h5 i hi)
      · rw [Array.getElem?_eq_none (by rw [k2]; simp; omega), Array.getElem?_eq_none (by simp; omega)]
    rw [k1, this]
  | vec sz ver xs =>
    obtain ⟨b, cap, us, cells, t, h1, h2, h3, h4, h5, h6, h7, h8, h9, h10, h11⟩ := h
    obtain ⟨cs', k1, k2, k3⟩ := k.cells _ _ _ _ h2
    have : cs' = cells := by
      apply Array.ext_getElem?
      intro i
      by_cases hi : i < cap * sz
      · exact k3 i (h10 i hi)
      · rw [Array.getElem?_eq_none (by rw [k2, h3]; omega), Array.getElem?_eq_none (by rw [h3]; omega)]
    exact ⟨b, cap, us, cells, t, k.le.at_ h1, by rw [k1, this], h3, h4, h5.mono k.le, h6, h7, h8, h9, fun i hi => k.ow _ _ (h10 i hi), fun v hv => k.at_ v (h11 v hv)⟩
  | chain sz tip =>
    obtain ⟨b, e, sp, h1, h2, h3, h4⟩ := h
    refine ⟨b, e, sp, k.le.at_ h1, h2, fun i hi => ?_, fun v hv => k.at_ v (h4 v hv)⟩
    obtain ⟨a1, a2, a3⟩ := h3 i hi
    obtain ⟨v, hv⟩ := Option.isSome_iff_exists.1 a2
    obtain ⟨cs, t, fr, hh, hc⟩ := cells_of hv
    obtain ⟨cs', k1, k2, k3⟩ := k.cells _ _ _ _ hh
    refine ⟨k.ow _ _ a1, ?_, ?_⟩
    · rw [cell_of k1, k3 _ a1, hc]; rfl
    · rw [frozen_of k1, ← frozen_of hh]; exact a3
  | map es =>
    obtain ⟨b, ents, clock, h1, h2, h3, h4⟩ := h
    exact ⟨b, ents, clock, k.le.at_ h1, k.other _ _ h2 (by simp) h4, h3.mono k.le, k.ow _ _ h4⟩
  | iter s pos =>
    obtain ⟨b, h1, h2, h3⟩ := h
    exact ⟨b, k.le.at_ h1, k.other _ _ h2 (by simp) h3, k.ow _ _ h3⟩
  | miter _ _ => exact h
  | loop f ps e A B aA aB st =>
    obtain ⟨b, rec, h1, h2, h3, h4, h5, modeOf, H, k1, k2, k3, k4, c1, c2, c3⟩ := h
    refine ⟨b, rec, k.le.at_ h1, k.other _ _ h2 (by simp) h3, k.ow _ _ h3, h4, fun i v hi => ?_, modeOf, H, k1, k2, k3, k4, by rw [k.le.prog]; exact c1, by rw [k.le.prog]; exact c2, c3⟩
    obtain ⟨u, q1, q2⟩ := h5 i v hi
    exact ⟨u, q1, q2.mono k.le⟩
  | dblk op =>
    obtain ⟨b, h1, h2, h3⟩ := h
    exact ⟨b, k.le.at_ h1, k.other _ _ h2 (by simp) h3, k.ow _ _ h3⟩

/-! ### A draw -/
theorem WR.drew {g : G} {F : Lab → Option HObj} {w0 w : World} (h : WR g F w0 w) (n : Nat) : WR g F w0 { w with drawn := n } :=
  ⟨⟨h.below.os, h.below.tape, h.below.output, h.below.size, h.below.block⟩, h.fz, h.own, fun l o hl => (h.obj l o hl).kept
    ⟨G.le.refl g, fun _ _ h => h, fun _ h => h, fun b cs t fr hh => ⟨cs, hh, rfl, fun _ _ => rfl⟩, fun b o hh _ _ => hh⟩⟩

/-! ### A new block -/
/-- The ghosts behind a new block: its cells' owner or what is told of them, and where it lies. -/
def G.grow (g : G) (nb : Nat) (ow : Nat → Option Lab) (fz : Nat → Option Value) (loc : Nat → Nat → Option (Nat × Nat × Nat)) : G :=
  { P := g.P
    fz := fun b o => if b = nb then fz o else g.fz b o
    ow := fun b o => if b = nb then ow o else g.ow b o
    loc }
theorem G.grow_le {g : G} {F : Lab → Option HObj} {w0 w : World} (h : WR g F w0 w) {ow : Nat → Option Lab} {fz : Nat → Option Value} {loc : Nat → Nat → Option (Nat × Nat × Nat)}
    (hl : ∀ r v x, g.loc r v = some x → loc r v = some x) : g.le (g.grow w.heap.size ow fz loc) :=
  ⟨rfl, fun b o v hv => by
    have : b ≠ w.heap.size := by
      intro e
      rw [h.fz_none (by omega)] at hv
      cases hv
    simp [G.grow, this, hv], hl⟩
theorem WR.grow {g : G} {F F' : Lab → Option HObj} {w0 w : World} (h : WR g F w0 w) {ob : Obj} {ow : Nat → Option Lab} {fz : Nat → Option Value} {loc : Nat → Nat → Option (Nat × Nat × Nat)}
    (hl : ∀ r v x, g.loc r v = some x → loc r v = some x)
    (hfz : ∀ o v, fz o = some v → ∃ cs t fr, ob = .cells cs t fr ∧ cs[o]? = some v)
    (hof : ∀ o l, ow o = some l → fz o = none)
    (hold : ∀ l o, F' l = some o → (F l = some o ∧ ∀ v, g.at_ l v = none → (g.grow w.heap.size ow fz loc).at_ l v = none) ∨ OR (g.grow w.heap.size ow fz loc) (addB w ob) l o) :
    WR (g.grow w.heap.size ow fz loc) F' w0 (addB w ob) := by
  have hle := G.grow_le h (ow := ow) (fz := fz) hl
  refine ⟨below_addB h.below ob, fun b o v hv => ?_, fun b o l hv => ?_, fun l o hlo => ?_⟩
  · by_cases hb : b = w.heap.size
    · simp only [G.grow, hb, if_true] at hv
      obtain ⟨cs, t, fr, rfl, hc⟩ := hfz _ _ hv
      rw [hb, cell_of (show (addB w (.cells cs t fr)).heap[w.heap.size]? = some (.cells cs t fr) from by rw [addB_get, if_pos rfl])]
      exact hc
    · simp only [G.grow, hb, if_false] at hv
      obtain ⟨cs, t, fr, hh, hc⟩ := cells_of (h.fz b o v hv)
      rw [cell_of (show (addB w ob).heap[b]? = some (.cells cs t fr) from by rw [addB_get, if_neg hb]; exact hh)]
      exact hc
  · have h0 := h.below.size
    by_cases hb : b = w.heap.size
    · simp only [G.grow, hb, if_true] at hv ⊢
      exact ⟨hof o l hv, by omega, by rw [addB_size]; omega⟩
    · simp only [G.grow, hb, if_false] at hv ⊢
      obtain ⟨a1, a2, a3⟩ := h.own b o l hv
      exact ⟨a1, a2, by rw [addB_size]; omega⟩
  · rcases hold l o hlo with ⟨hF, hat⟩ | hn
    · refine (h.obj l o hF).kept ⟨hle, fun b i hi => ?_, hat, fun b cs t fr hh => ⟨cs, ?_, rfl, fun _ _ => rfl⟩, fun b o hh _ _ => ?_⟩
      · have := (h.own b i l hi).2.2
        simp only [G.grow]
        rw [if_neg (by omega)]
        exact hi
      · rw [addB_get, if_neg (by have := lt_of_get hh; omega)]; exact hh
      · rw [addB_get, if_neg (by have := lt_of_get hh; omega)]; exact hh
    · exact hn

/-! ### Cells written -/
/-- The ghosts behind a write: the cells are told from now on. -/
def G.tell (g : G) (b off : Nat) (us : List Value) (loc : Nat → Nat → Option (Nat × Nat × Nat)) : G :=
  { P := g.P
    fz := fun c o => if c = b ∧ off ≤ o ∧ o < off + us.length then us[o - off]? else g.fz c o
    ow := fun c o => if c = b ∧ off ≤ o ∧ o < off + us.length then none else g.ow c o
    loc }
/-- Cells of an object's own are written; whose they are stays. -/
theorem WR.write {g : G} {F F' : Lab → Option HObj} {w0 w : World} (h : WR g F w0 w) {l0 : Lab} {b off : Nat} {us : List Value} {cs : Array Value} {t : TypeId} {fr : Nat × Nat}
    (hb : w.heap[b]? = some (.cells cs t fr)) (hon : ∀ i, off ≤ i → i < off + us.length → g.ow b i = some l0)
    (hold : ∀ l o, F' l = some o → (l ≠ l0 ∧ F l = some o) ∨ OR g (setB w b (.cells (putA cs off us) t fr)) l o)
    (hne : us ≠ []) :
    WR g F' w0 (setB w b (.cells (putA cs off us) t fr)) := by
  have hB : w0.heap.size ≤ b := by
    cases us with
    | nil => exact absurd rfl hne
    | cons u us => exact (h.own b off l0 (hon off (Nat.le_refl _) (by simp))).2.1
  have hget : ∀ c, c ≠ b → (setB w b (.cells (putA cs off us) t fr)).heap[c]? = w.heap[c]? := fun c hc => by rw [setB_get, if_neg (Ne.symm hc)]
  have hself : (setB w b (.cells (putA cs off us) t fr)).heap[b]? = some (.cells (putA cs off us) t fr) := by rw [setB_get, if_pos rfl, if_pos (lt_of_get hb)]
  refine ⟨below_setB h.below hB _, fun c o v hv => ?_, fun c o l hv => ?_, fun l o hlo => ?_⟩
  · obtain ⟨cs', t', fr', hh, hc⟩ := cells_of (h.fz c o v hv)
    by_cases e : c = b
    · subst e
      rw [hb] at hh; injection hh with hh; injection hh with e1 e2 e3
      subst e1
      rw [cell_of hself, putA_get, if_neg]
      · exact hc
      · intro hh
        have := (h.own c o l0 (hon o hh.1 hh.2.1)).1
        rw [this] at hv; cases hv
    · rw [cell_of (by rw [hget c e]; exact hh)]; exact hc
  · obtain ⟨a1, a2, a3⟩ := h.own c o l hv
    exact ⟨a1, a2, by rw [setB_size]; exact a3⟩
  · rcases hold l o hlo with ⟨hl, hF⟩ | hn
    · refine (h.obj l o hF).kept ⟨G.le.refl g, fun _ _ h => h, fun _ h => h, fun c cs' t' fr' hh => ?_, fun c o' hh hno _ => ?_⟩
      · by_cases e : c = b
        · subst e
          rw [hb] at hh; injection hh with hh; injection hh with e1 e2 e3
          subst e1; subst e2; subst e3
          refine ⟨_, hself, putA_size .., fun i hi => ?_⟩
          rw [putA_get, if_neg]
          intro hh
          rw [hon i hh.1 hh.2.1] at hi
          injection hi with hi
          exact hl hi.symm
        · exact ⟨cs', by rw [hget c e]; exact hh, rfl, fun _ _ => rfl⟩
      · have e : c ≠ b := by
          intro e; subst e
          rw [hb] at hh; injection hh with hh
          exact hno _ _ _ hh.symm
        rw [hget c e]; exact hh
    · exact hn

theorem G.tell_le {g : G} {F : Lab → Option HObj} {w0 w : World} (h : WR g F w0 w) {l0 : Lab} {b off : Nat} {us : List Value} {loc : Nat → Nat → Option (Nat × Nat × Nat)}
    (hon : ∀ i, off ≤ i → i < off + us.length → g.ow b i = some l0) (hl : ∀ r v x, g.loc r v = some x → loc r v = some x) : g.le (g.tell b off us loc) :=
  ⟨rfl, fun c o v hv => (by
    simp only [G.tell]
    rw [if_neg]
    · exact hv
    · rintro ⟨rfl, h1, h2⟩
      rw [(h.own _ _ _ (hon o h1 h2)).1] at hv
      exact absurd hv (by simp)), hl⟩
/-- Cells of an object's own are written, and told from now on. -/
theorem WR.tell {g : G} {F F' : Lab → Option HObj} {w0 w : World} (h : WR g F w0 w) {l0 : Lab} {b off : Nat} {us : List Value} {cs : Array Value} {t : TypeId} {fr : Nat × Nat}
    {loc : Nat → Nat → Option (Nat × Nat × Nat)} (hl : ∀ r v x, g.loc r v = some x → loc r v = some x)
    (hb : w.heap[b]? = some (.cells cs t fr)) (hon : ∀ i, off ≤ i → i < off + us.length → g.ow b i = some l0) (hsz : off + us.length ≤ cs.size)
    (hold : ∀ l o, F' l = some o → (l ≠ l0 ∧ F l = some o ∧ ∀ v, g.at_ l v = none → (g.tell b off us loc).at_ l v = none) ∨ OR (g.tell b off us loc) (setB w b (.cells (putA cs off us) t fr)) l o)
    (hne : us ≠ []) :
    WR (g.tell b off us loc) F' w0 (setB w b (.cells (putA cs off us) t fr)) := by
  have hB : w0.heap.size ≤ b := by
    cases us with
    | nil => exact absurd rfl hne
    | cons u us => exact (h.own b off l0 (hon off (Nat.le_refl _) (by simp))).2.1
  have hle := G.tell_le h hon hl
  have hget : ∀ c, c ≠ b → (setB w b (.cells (putA cs off us) t fr)).heap[c]? = w.heap[c]? := fun c hc => by rw [setB_get, if_neg (Ne.symm hc)]
  have hself : (setB w b (.cells (putA cs off us) t fr)).heap[b]? = some (.cells (putA cs off us) t fr) := by rw [setB_get, if_pos rfl, if_pos (lt_of_get hb)]
  refine ⟨below_setB h.below hB _, fun c o v hv => ?_, fun c o l hv => ?_, fun l o hlo => ?_⟩
  · by_cases hr : c = b ∧ off ≤ o ∧ o < off + us.length
    · simp only [G.tell] at hv
      rw [if_pos hr] at hv
      obtain ⟨rfl, h1, h2⟩ := hr
      rw [cell_of hself, putA_get, if_pos ⟨h1, h2, by omega⟩]
      exact hv
    · simp only [G.tell] at hv
      rw [if_neg hr] at hv
      obtain ⟨cs', t', fr', hh, hc⟩ := cells_of (h.fz c o v hv)
      by_cases e : c = b
      · subst e
        rw [hb] at hh; injection hh with hh; injection hh with e1 e2 e3
        subst e1
        rw [cell_of hself, putA_get, if_neg (fun hh => hr ⟨rfl, hh.1, hh.2.1⟩)]
        exact hc
      · rw [cell_of (by rw [hget c e]; exact hh)]; exact hc
  · simp only [G.tell] at hv ⊢
    split at hv
    · cases hv
    · rename_i hr
      rw [if_neg hr]
      obtain ⟨a1, a2, a3⟩ := h.own c o l hv
      exact ⟨a1, a2, by rw [setB_size]; exact a3⟩
  · rcases hold l o hlo with ⟨hlne, hF, hat⟩ | hn
    · refine (h.obj l o hF).kept ⟨hle, fun c i hi => ?_, hat, fun c cs' t' fr' hh => ?_, fun c o' hh hno _ => ?_⟩
      · simp only [G.tell]
        rw [if_neg]
        · exact hi
        · rintro ⟨rfl, h1, h2⟩
          rw [hon i h1 h2] at hi
          injection hi with hi
          exact hlne hi.symm
      · by_cases e : c = b
        · subst e
          rw [hb] at hh; injection hh with hh; injection hh with e1 e2 e3
          subst e1; subst e2; subst e3
          refine ⟨_, hself, putA_size .., fun i hi => ?_⟩
          rw [putA_get, if_neg]
          intro hh
          rw [hon i hh.1 hh.2.1] at hi
          injection hi with hi
          exact hlne hi.symm
        · exact ⟨cs', by rw [hget c e]; exact hh, rfl, fun _ _ => rfl⟩
      · have e : c ≠ b := by
          intro e; subst e
          rw [hb] at hh; injection hh with hh
          exact hno _ _ _ hh.symm
        rw [hget c e]; exact hh
    · exact hn

/-! ### A map, or an iterator, turned -/
theorem WR.turn {g : G} {F F' : Lab → Option HObj} {w0 w : World} (h : WR g F w0 w) {l0 : Lab} {b : Nat} {ob ob' : Obj}
    (hb : w.heap[b]? = some ob) (hno : ∀ cs t fr, ob ≠ .cells cs t fr) (hon : g.ow b 0 = some l0)
    (hold : ∀ l o, F' l = some o → (l ≠ l0 ∧ F l = some o) ∨ OR g (setB w b ob') l o) : WR g F' w0 (setB w b ob') := by
  have hB : w0.heap.size ≤ b := (h.own b 0 l0 hon).2.1
  have hget : ∀ c, c ≠ b → (setB w b ob').heap[c]? = w.heap[c]? := fun c hc => by rw [setB_get, if_neg (Ne.symm hc)]
  refine ⟨below_setB h.below hB _, fun c o v hv => ?_, fun c o l hv => ?_, fun l o hlo => ?_⟩
  · obtain ⟨cs', t', fr', hh, hc⟩ := cells_of (h.fz c o v hv)
    have e : c ≠ b := by
      intro e; subst e
      rw [hb] at hh; injection hh with hh
      exact hno _ _ _ hh
    rw [cell_of (by rw [hget c e]; exact hh)]; exact hc
  · obtain ⟨a1, a2, a3⟩ := h.own c o l hv
    exact ⟨a1, a2, by rw [setB_size]; exact a3⟩
  · rcases hold l o hlo with ⟨hl, hF⟩ | hn
    · refine (h.obj l o hF).kept ⟨G.le.refl g, fun _ _ h => h, fun _ h => h, fun c cs' t' fr' hh => ?_, fun c o' hh hno' hw => ?_⟩
      · have e : c ≠ b := by
          intro e; subst e
          rw [hb] at hh; injection hh with hh
          exact hno _ _ _ hh
        exact ⟨cs', by rw [hget c e]; exact hh, rfl, fun _ _ => rfl⟩
      · have e : c ≠ b := by
          intro e; subst e
          rw [hon] at hw; injection hw with hw
          exact hl hw.symm
        rw [hget c e]; exact hh
    · exact hn
end Go.Proofs.YtohncbgkiojlnaaGreatDoor.Am
