/- Aggregates and literals; what is held against nil. -/
import Derived.Test.YtohncbgkiojlnaaGreatDoorAm10
set_option linter.unusedVariables false
namespace Go.Proofs.YtohncbgkiojlnaaGreatDoor.Am
open Go.RowKit (Below)

section
variable {P : Program} {F0 : Lab → Option HObj} {N : Nat} {w0 : World} {g : G} {F : Lab → Option HObj} {s s' : St} {a : Act} {w : World}

theorem ofV_told : ∀ (f : Nat) {v : Value} {z : AV}, ofV f v = some z → told z = some z
  | 0, v, z, h => by simp [ofV] at h
  | f + 1, v, z, h => by
    unfold ofV at h
    split at h <;> try contradiction
    all_goals try (simp only [Option.some.injEq] at h; subst h; rfl)
    · split at h <;> try contradiction
      simp only [Option.some.injEq] at h; subst h; rfl
    · split at h <;> try contradiction
      rename_i cs hcs
      cases hall : allOne cs with
      | false => rw [hall] at h; cases h
      | true => rw [hall] at h; simp only [cond_true, Option.some.injEq] at h; subst h; rfl
theorem ofC_cells (g : G) {v : Value} {z : AV} (h : ofC v = some z) : VR g z v ∧ VRs g z.cells v.cells.toList ∧ One v.cells.toList := by
  have k := (ofC_sound g h).1
  have := told_cells (ofV_told _ h) k
  exact ⟨k, this.2⟩
theorem zeroT_sound (g : G) {t : TypeId} {z : AV} (h : zeroT P t = some z) : ∃ i zv, P.info? t = some i ∧ i.zero = some zv ∧ VR g z zv ∧ VRs g z.cells zv.cells.toList ∧ One zv.cells.toList := by
  simp only [zeroT] at h
  cases hi : P.info? t with
  | none => rw [hi] at h; cases h
  | some i =>
    rw [hi] at h
    simp only [Option.bind_some] at h
    cases hz : i.zero with
    | none => rw [hz] at h; cases h
    | some zv =>
      rw [hz] at h
      simp only [Option.bind_some] at h
      exact ⟨i, zv, rfl, hz, ofC_cells g h⟩
theorem zeroValue_run {t : TypeId} {i : TypeInfo} {zv : Value} (hi : P.info? t = some i) (hz : i.zero = some zv) : (zeroValue t).run P w = .ok zv w := by
  simp only [zeroValue, typeInfo, Sem.run_bind, run_program, Result.andThen_ok, hi, Sem.run_pure, hz]

/-! ### Rows filled -/
theorem putCells_len (cs : List AV) (off : Nat) (vs : List AV) : (putCells cs off vs).length = cs.length := by
  induction vs generalizing cs off with
  | nil => rfl
  | cons v vs ih => simp [putCells, ih, setNth_eq]
theorem put_sound {cs vs : List AV} {us : Array Value} {ws : List Value} (h : VRs g cs us.toList) (k : VRs g vs ws) (off : Nat) : VRs g (putCells cs off vs) (putA us off ws).toList := by
  induction vs generalizing cs us ws off with
  | nil =>
    have : ws = [] := List.eq_nil_of_length_eq_zero (by rw [← k.1]; rfl)
    subst this; exact h
  | cons v vs ih =>
    cases ws with
    | nil => exact absurd k.1 (by simp)
    | cons u ws =>
      have hu := k.2 0 v u rfl rfl
      have hk : VRs g vs ws := ⟨by have := k.1; simpa using this, fun i c x h1 h2 => k.2 (i + 1) c x (by simpa using h1) (by simpa using h2)⟩
      simp only [putCells, putA, setNth_eq]
      refine ih ?_ hk (off + 1)
      rw [Array.toList_setIfInBounds]
      exact h.set off hu
theorem put_one {us : Array Value} {ws : List Value} (h : One us.toList) (k : One ws) (off : Nat) : One (putA us off ws).toList := by
  induction ws generalizing us off with
  | nil => exact h
  | cons u ws ih =>
    simp only [putA]
    refine ih ?_ (fun x hx => k x (by simp [hx])) (off + 1)
    rw [Array.toList_setIfInBounds]
    exact h.set off (k u (by simp))
theorem fold_put (l : List Value) : ∀ (k off : Nat) (cells : Array Value), (l.zipIdx k).foldl (fun cs (p : Value × Nat) => cs.setIfInBounds (off + p.2) p.1) cells = putA cells (off + k) l := by
  induction l with
  | nil => intro k off cells; rfl
  | cons x xs ih =>
    intro k off cells
    simp only [List.zipIdx_cons, List.foldl_cons, putA]
    rw [ih (k + 1) off]
    rfl
theorem fill_step (off : Nat) (v : Value) (cells : Array Value) : v.cells.zipIdx.foldl (fun cs (p : Value × Nat) => cs.setIfInBounds (off + p.2) p.1) cells = putA cells off v.cells.toList := by
  rw [← Array.foldl_toList, Array.toList_zipIdx]
  exact fold_put _ 0 off cells

/-- Parts laid into an aggregate, on both sides. -/
theorem fill_sound (h : Rel F0 N w0 g F s a w) {place : Nat → Option (Nat × Nat)} {cs : List AV} {us : Array Value} (hv : VRs g cs us.toList) (h1 : One us.toList) :
    ∀ {ps : List (Nat × Operand)} {qs : List (Nat × Nat × X)} {ds : List AV} {cs : List AV} {us : Array Value}, VRs g cs us.toList → One us.toList →
    mapO (fun (p : Nat × Operand) => (place p.1).bind fun q => (cX p.2).map fun x => (q.1, q.2, x)) ps = some qs → fillParts s cs qs = some ds →
    ∃ us', Instr.fill place us (ps.map fun p => (p.1, a.eval p.2)) = some us' ∧ VRs g ds us'.toList ∧ One us'.toList := by
  intro ps
  induction ps with
  | nil =>
    intro qs ds cs us hv h1 hm hf
    simp only [mapO, Option.some.injEq] at hm; subst hm
    simp only [fillParts, Option.some.injEq] at hf; subst hf
    exact ⟨us, rfl, hv, h1⟩
  | cons p ps ih =>
    intro qs ds cs us hv h1 hm hf
    simp only [mapO] at hm
    split at hm <;> try contradiction
    rename_i q hq
    split at hm <;> try contradiction
    rename_i qs' hqs
    simp only [Option.some.injEq] at hm; subst hm
    cases hp : place p.1 with
    | none => rw [hp] at hq; cases hq
    | some pl =>
      rw [hp] at hq
      simp only [Option.bind_some] at hq
      cases hx : cX p.2 with
      | none => rw [hx] at hq; cases hq
      | some x =>
        rw [hx] at hq
        simp only [Option.map_some, Option.some.injEq] at hq; subst hq
        simp only [fillParts] at hf
        split at hf <;> try contradiction
        rename_i v ht
        cases hc : (Nat.beq (len v.cells) pl.2 && Nat.ble (pl.1 + pl.2) (len cs)) with
        | false => rw [hc] at hf; cases hf
        | true =>
          rw [hc] at hf
          simp only [cond_true] at hf
          simp only [Bool.and_eq_true] at hc
          have e1 := of_beq hc.1
          have e2 := Nat.le_of_ble_eq_true hc.2
          rw [len_eq] at e1 e2
          obtain ⟨_, k1, k2, k3⟩ := (eval_of hx h).told ht
          have k4 := k2.1
          simp only [Array.length_toList] at k4
          have hsz : cs.length = us.size := by have := hv.1; simpa using this
          obtain ⟨us', r1, r2, r3⟩ := ih (put_sound hv k2 pl.1) (put_one h1 k3 pl.1) hqs hf
          refine ⟨us', ?_, r2, r3⟩
          simp only [List.map_cons, Instr.fill, hp]
          rw [if_neg (by simp; omega), fill_step]
          exact r1

theorem places_run {fs : Array Field} {ns : List Nat} (h : mapO (fun (f : Field) => szT P f.type) fs.toList = some ns) :
    ∃ pl : Array (Nat × Nat), (fs.mapM (m := Sem) fun f => do pure (f.offset, ← sizeOf f.type)).run P w = .ok pl w ∧ ∀ (i : Nat) f n, fs[i]? = some f → szT P f.type = some n → pl[i]? = some (f.offset, n) := by
  have key : ∀ (l : List Field) (ns : List Nat), mapO (fun (f : Field) => szT P f.type) l = some ns →
      ∃ pl : List (Nat × Nat), (l.mapM (m := Sem) fun f => do pure (f.offset, ← sizeOf f.type)).run P w = .ok pl w ∧ ∀ (i : Nat) f n, l[i]? = some f → szT P f.type = some n → pl[i]? = some (f.offset, n) := by
    intro l
    induction l with
    | nil => intro ns _; exact ⟨[], rfl, by simp⟩
    | cons f fs ih =>
      intro ns hm
      simp only [mapO] at hm
      split at hm <;> try contradiction
      rename_i n hn
      split at hm <;> try contradiction
      rename_i ns' hns
      obtain ⟨pl, k1, k2⟩ := ih ns' hns
      simp only [szT] at hn
      cases hi : P.info? f.type with
      | none => rw [hi] at hn; cases hn
      | some ti =>
        rw [hi] at hn
        simp only [Option.map_some, Option.some.injEq] at hn; subst hn
        refine ⟨(f.offset, ti.size) :: pl, ?_, fun i f' n' h1 h2 => ?_⟩
        · simp only [List.mapM_cons, Sem.run_bind, sizeOf_run hi, Result.andThen_ok, Sem.run_pure, k1]
        · cases i with
          | zero =>
            simp at h1; subst h1
            simp only [szT, hi, Option.map_some, Option.some.injEq] at h2; subst h2
            rfl
          | succ i => simp at h1; simpa using k2 i f' n' h1 h2
  obtain ⟨pl, k1, k2⟩ := key fs.toList ns h
  refine ⟨pl.toArray, ?_, fun i f n h1 h2 => ?_⟩
  · rw [Array.mapM_eq_mapM_toList]
    simp only [Sem.run_map, k1, Result.andThen_ok]
  · have := k2 i f n (by simpa using h1) h2
    simpa using this

theorem yields_bld_struct {o : Oper} {t : TypeId} {ps : Array (Nat × Operand)} {fs : Array Field} {ns : List Nat} {z : AV} {qs : List (Nat × Nat × X)} {ds : List AV} (ho : o.op = .build t ps)
    (ht : P.underlying t = some (.struct fs)) (hz : zeroT P t = some z) (hns : mapO (fun (f : Field) => szT P f.type) fs.toList = some ns)
    (hq : mapO (fun (p : Nat × Operand) => do
        let f ← fs[p.1]?
        some (f.offset, ← szT P f.type, ← cX p.2)) ps.toList = some qs) (h : Rel F0 N w0 g F s a w) (hf : fillParts s z.cells qs = some ds) : Yields P o g s a w (.agg ds) := by
  obtain ⟨i, zv, k1, k2, k3, k4, k5⟩ := zeroT_sound g hz
  obtain ⟨pl, m1, m2⟩ := places_run (P := P) (w := w) hns
  have hq' : mapO (fun (p : Nat × Operand) => (pl[p.1]?).bind fun q => (cX p.2).map fun x => (q.1, q.2, x)) ps.toList = some qs := by
    have : ∀ (l : List (Nat × Operand)) qs, mapO (fun (p : Nat × Operand) => do
        let f ← fs[p.1]?
        some (f.offset, ← szT P f.type, ← cX p.2)) l = some qs → mapO (fun (p : Nat × Operand) => (pl[p.1]?).bind fun q => (cX p.2).map fun x => (q.1, q.2, x)) l = some qs := by
      intro l
      induction l with
      | nil => intro qs h; exact h
      | cons p l ih =>
        intro qs h
        simp only [mapO] at h ⊢
        split at h <;> try contradiction
        rename_i q hq
        split at h <;> try contradiction
        rename_i qs' hqs
        cases hff : fs[p.1]? with
        | none => rw [hff] at hq; cases hq
        | some f =>
          rw [hff] at hq
          cases hs : szT P f.type with
          | none => simp [hs] at hq
          | some n =>
            cases hx : cX p.2 with
            | none => simp [hx] at hq
            | some x =>
              simp [hs, hx] at hq
              have := m2 _ _ _ hff hs
              rw [this]
              simp only [Option.bind_some, Option.map_some, ih _ hqs, hq]
              exact h
    exact this _ _ hq
  obtain ⟨us', r1, r2, r3⟩ := fill_sound h (place := (pl[·]?)) k4 k5 k4 k5 hq' hf
  refine ⟨.agg us', ?_, VX.of_plain rfl ?_⟩
  · have e : (ps.map fun (p : Nat × Operand) => (p.1, a.eval p.2)).toList = ps.toList.map fun p => (p.1, a.eval p.2) := by simp
    simp only [execOp, ho, Instr.build, Sem.run_bind, zeroValue_run k1 k2, Result.andThen_ok, run_underlying ht, m1, e, r1, Sem.run_pure]
  · have := VR.agg (g := g) r2.1 r2.2 r3
    simpa using this
end
end Go.Proofs.YtohncbgkiojlnaaGreatDoor.Am
