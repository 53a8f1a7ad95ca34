/- Literals, comparisons with nil, asserted types, minima, iterators of texts. -/
import Derived.Test.YtohncbgkiojlnaaGreatDoorAm13
set_option linter.unusedVariables false
set_option linter.unusedSimpArgs false
namespace Go.Proofs.YtohncbgkiojlnaaGreatDoor.Am
open Go.RowKit (Below)

theorem putCells_mid : ∀ (v a b c : List AV), b.length = v.length → putCells (a ++ (b ++ c)) a.length v = a ++ (v ++ c) := by
  intro v
  induction v with
  | nil => intro a b c h; cases b <;> simp_all [putCells]
  | cons x v ih =>
    intro a b c h
    cases b with
    | nil => simp at h
    | cons y b =>
      simp only [putCells, setNth_eq]
      have := ih (a ++ [x]) b c (by simpa using h)
      simp only [List.length_append, List.length_singleton, List.append_assoc, List.singleton_append] at this
      have e : (a ++ (y :: b ++ c)).set a.length x = a ++ x :: (b ++ c) := by
        rw [List.set_append_right _ _ (Nat.le_refl _)]
        simp
      rw [e]
      exact this
theorem flat_set {sz : Nat} {es : List AV} (h : ∀ x ∈ es, x.cells.length = sz) {v : AV} (hv : v.cells.length = sz) {i : Nat} (hi : i < es.length) : putCells (flat es) (i * sz) v.cells = flat (es.set i v) := by
  have e1 : es = es.take i ++ (es[i] :: es.drop (i + 1)) := by simp
  have e2 : es.set i v = es.take i ++ (v :: es.drop (i + 1)) := by rw [List.set_eq_take_append_cons_drop, if_pos hi]
  have hl : (flat (es.take i)).length = i * sz := by
    rw [flat_len (fun x hx => h x (List.mem_of_mem_take hx))]
    simp [Nat.min_eq_left (Nat.le_of_lt hi)]
  rw [e2, flat_app]
  conv => lhs; arg 1; rw [e1, flat_app]
  rw [← hl]
  simp only [flat]
  exact putCells_mid _ _ _ _ (by rw [h _ (List.getElem_mem hi), hv])

section
variable {P : Program} {F0 : Lab → Option HObj} {N : Nat} {w0 : World} {g : G} {F : Lab → Option HObj} {s s' : St} {a : Act} {w : World}

theorem fillElems_parts {sz : Nat} : ∀ {qs : List (Nat × X)} {es ds : List AV}, fillElems s sz es qs = some ds → (∀ x ∈ es, x.cells.length = sz) →
    fillParts s (flat es) (qs.map fun q => (q.1 * sz, sz, q.2)) = some (flat ds) ∧ (∀ x ∈ ds, x.cells.length = sz) ∧ ds.length = es.length := by
  intro qs
  induction qs with
  | nil => intro es ds h hs; simp only [fillElems, Option.some.injEq] at h; subst h; exact ⟨rfl, hs, rfl⟩
  | cons q qs ih =>
    intro es ds h hs
    obtain ⟨i, x⟩ := q
    simp only [fillElems] at h
    split at h <;> try contradiction
    rename_i v ht
    cases hc : ((len v.cells).beq sz && Nat.blt i (len es)) with
    | false => rw [hc] at h; simp at h
    | true =>
      rw [hc] at h
      simp only [cond_true] at h
      simp only [Bool.and_eq_true, Nat.beq_eq, len_eq] at hc
      obtain ⟨hc1, hc2⟩ := hc
      have hc2 : i < es.length := Nat.le_of_ble_eq_true hc2
      rw [setNth_eq] at h
      have hs' : ∀ y ∈ es.set i v, y.cells.length = sz := by
        intro y hy
        rcases List.mem_or_eq_of_mem_set hy with hy | rfl
        · exact hs y hy
        · exact hc1
      obtain ⟨k1, k2, k3⟩ := ih h hs'
      refine ⟨?_, k2, by simpa using k3⟩
      simp only [List.map_cons, fillParts, ht]
      have hle : i * sz + sz ≤ es.length * sz := by
        have : (i + 1) * sz ≤ es.length * sz := Nat.mul_le_mul_right _ hc2
        rw [Nat.succ_mul] at this; exact this
      have hb : ((len v.cells).beq sz && (i * sz + sz).ble (len (flat es))) = true := by
        simp only [Bool.and_eq_true, Nat.beq_eq, len_eq]
        exact ⟨hc1, Nat.ble_eq_true_of_le (by rw [flat_len hs]; exact hle)⟩
      rw [hb]
      simp only [cond_true]
      rw [flat_set hs hc1 hc2]
      exact k1

theorem turns_lit {o : Oper} {t e : TypeId} {n sz : Nat} {ps : Array (Nat × Operand)} {z : AV} {qs : List (Nat × X)} {es : List AV} (ho : o.op = .buildSlice t n ps) (ht : P.underlying t = some (.slice e))
    (hsz : szT P e = some sz) (hz : zeroT P e = some z) (hq : mapO (fun (p : Nat × Operand) => do some (p.1, ← cX p.2)) ps.toList = some qs) (h0 : 0 < sz) (hn : n * sz ≤ 16777216) (hzl : z.cells.length = sz)
    (h : Rel F0 N w0 g F s a w) (hf : fillElems s sz (rep n z) qs = some es) : Turns P F0 N w0 o g s a w (.slice sz es .full) s := by
  obtain ⟨i, zv, k1, k2, k3, k4, k5⟩ := zeroT_sound g hz
  have hi : i.size = sz := by simpa [szT, k1] using hsz
  rw [rep_eq] at hf
  obtain ⟨f1, f2, f3⟩ := fillElems_parts hf (fun x hx => by rw [(List.mem_replicate.1 hx).2]; exact hzl)
  have hzs : zv.cells.size = sz := by have := k4.1; simp at this; omega
  obtain ⟨r1, r2⟩ := zero_row k4 k5 hzl h0 n
  rw [← flat_rep] at r1
  have hq' : mapO (fun (p : Nat × Operand) => ((fun i => some (i * sz, sz)) p.1 : Option (Nat × Nat)).bind fun q => (cX p.2).map fun x => (q.1, q.2, x)) ps.toList = some (qs.map fun q => (q.1 * sz, sz, q.2)) := by
    have : ∀ (l : List (Nat × Operand)) qs, mapO (fun (p : Nat × Operand) => do some (p.1, ← cX p.2)) l = some qs →
        mapO (fun (p : Nat × Operand) => ((fun i => some (i * sz, sz)) p.1 : Option (Nat × Nat)).bind fun q => (cX p.2).map fun x => (q.1, q.2, x)) l = some (qs.map fun (q : Nat × X) => (q.1 * sz, sz, q.2)) := by
      intro l
      induction l with
      | nil => intro qs h; simp only [mapO, Option.some.injEq] at h; subst h; rfl
      | cons p l ih =>
        intro qs h
        simp only [mapO] at h ⊢
        split at h <;> try contradiction
        rename_i q hq
        split at h <;> try contradiction
        rename_i qs' hqs
        simp only [Option.some.injEq] at h; subst h
        cases hx : cX p.2 with
        | none => simp [hx] at hq
        | some x =>
          simp [hx] at hq
          subst hq
          have := ih _ hqs
          simp only [Option.bind_some] at this
          simp only [Option.bind_some, Option.map_some, this, List.map_cons]
    exact this _ _ hq
  obtain ⟨us', m1, m2, m3⟩ := fill_sound h (place := fun i => some (i * sz, sz)) r1 r2 r1 r2 hq' f1
  obtain ⟨g', p1, p2, p3⟩ := h.lit (us := us') e (cs := flat es)
  have hlen : es.length = n := by rw [f3]; simp
  refine ⟨.slice (some ⟨w.heap.size, 0, none⟩) n n, g', F, _, .inl ?_, .of p1 rfl rfl, VX.of_plain rfl ?_, p3⟩
  · have e1 : (ps.map fun (p : Nat × Operand) => (p.1, a.eval p.2)).toList = ps.toList.map fun p => (p.1, a.eval p.2) := by simp
    simp only [execOp, ho, Instr.buildSlice, Sem.run_bind, run_underlying ht, Result.andThen_ok, sizeOf_run k1, hi]
    rw [if_neg (by omega)]
    by_cases hh : n * sz = 0
    · have hr : ((Array.range (n * sz)).map fun i => (#[] : Array Value)[i % (#[] : Array Value).size]!) = (Array.range (n * sz)).map fun i => zv.cells[i % zv.cells.size]! := by simp [hh]
      simp only [if_pos hh, Sem.run_bind, Sem.run_pure, Result.andThen_ok, hr, e1, m1, newRow_run]
    · simp only [if_neg hh, Sem.run_bind, Sem.run_pure, Result.andThen_ok, zeroValue_run k1 k2, e1, m1, newRow_run]
  · have m2' := m2.mono p1.le
    exact VR.slice m2'.1 m2'.2 m3 f2 hlen.symm (Nat.le_refl _) p2 rfl

/-! ### Held against nil -/
def nkFits : NK → TypeDesc → Bool
  | .p, .pointer _ => true
  | .m, .map _ _ => true
  | .f, .func .. => true
  | .i, .interface _ => true
  | .s, .slice _ => true
  | _, _ => false

theorem guard_nilI {op : BinOp} {t : TypeId} {x y : Operand} (hc : ((x matches .const _) || (y matches .const _)) = true) : (eqGuard op t x y .nilIface .nilIface).run P w = .ok () w := by
  have h1 : ∀ b c : Bool, c = true → ((if (!b) = true then pure () else if c = true then pure () else do
      if ← Op.eqGuardIn Op.maxDepth t .nilIface .nilIface then unsupported (.noEntry "binop/eql: two nil values of an interface type with methods, neither of them the literal nil") else pure ()) : Sem Unit).run P w = .ok () w := by
    intro b c hc
    subst hc
    cases b <;> rfl
  exact h1 (op matches .eql | .neq) _ hc
theorem equal_nil {t : TypeId} {d : TypeDesc} (ht : P.underlying t = some d) {k : NK} (hd : nkFits k d = true) {p q : AV} {u v : Value} {b : Bool} (hp : VR g p u) (hq : VR g q v) (hb : nilEq k p q = some b) :
    (Op.equal t u v).run P w = .ok b w ∧ (∀ x y op, (∃ ms, d = .interface ms) → ((x matches .const _) || (y matches .const _)) = true → (eqGuard op t x y u v).run P w = .ok () w) ∧
      ((∀ ms, d ≠ .interface ms) → ∀ x y op, (eqGuard op t x y u v).run P w = .ok () w) ∧
      (∀ x, Go.binOp .eql x u v = do pure (.bool (← Op.equal x u v))) ∧ (∀ x, Go.binOp .neq x u v = do pure (.bool (!(← Op.equal x u v)))) := by
  have key : (∀ dd, (Op.equalIn (dd + 1) t u v).run P w = .ok b w) → (Op.equal t u v).run P w = .ok b w := fun h => h 9999
  cases k <;> cases d <;> simp only [nkFits, reduceCtorEq, Bool.false_eq_true] at hd
  case s.slice e =>
    have done : ∀ {u v : Value} {b : Bool}, (∃ a n c a' n' c', u = .slice a n c ∧ v = .slice a' n' c' ∧ ((a = none ∧ b = a'.isNone) ∨ (a' = none ∧ b = a.isNone))) →
        (Op.equal t u v).run P w = .ok b w ∧ (∀ x y op, (eqGuard op t x y u v).run P w = .ok () w) := by
      rintro u v b ⟨a, n, c, a', n', c', rfl, rfl, hh⟩
      have key : (∀ dd, (Op.equalIn (dd + 1) t (.slice a n c) (.slice a' n' c')).run P w = .ok b w) → (Op.equal t (.slice a n c) (.slice a' n' c')).run P w = .ok b w := fun h => h 9999
      refine ⟨key fun dd => ?_, fun x y op => by simp [eqGuard]⟩
      rcases hh with ⟨rfl, rfl⟩ | ⟨rfl, rfl⟩
      · simp [Op.equalIn, run_underlying ht]
      · cases a <;> simp [Op.equalIn, run_underlying ht]
    have hu : ∃ a n c a' n' c', u = .slice a n c ∧ v = .slice a' n' c' ∧ ((a = none ∧ b = a'.isNone) ∨ (a' = none ∧ b = a.isNone)) := by
      unfold nilEq at hb
      split at hb <;> simp only [reduceCtorEq, Option.some.injEq] at hb <;> subst hb
      all_goals try contradiction
      · cases hp with
        | nils => cases hq with
          | nils => exact ⟨_, _, _, _, _, _, rfl, rfl, .inl ⟨rfl, rfl⟩⟩
          | slice _ _ _ _ _ _ _ ho => exact ho.elim
          | slice0 ho => simp at ho
        | slice _ _ _ _ _ _ _ ho => exact ho.elim
        | slice0 ho => simp at ho
      · rename_i hno _
        cases hp with
        | nils => cases hq with
          | nils => simp at hno
          | slice _ _ _ _ _ _ _ ho => exact ⟨_, _, _, _, _, _, rfl, rfl, .inl ⟨rfl, rfl⟩⟩
          | slice0 ho => exact ⟨_, _, _, _, _, _, rfl, rfl, .inl ⟨rfl, rfl⟩⟩
        | slice _ _ _ _ _ _ _ ho => exact ho.elim
        | slice0 ho => simp at ho
      · rename_i hno _
        cases hq with
        | nils => cases hp with
          | nils => exact ⟨_, _, _, _, _, _, rfl, rfl, .inl ⟨rfl, by simp at hno⟩⟩
          | slice _ _ _ _ _ _ _ ho => exact ⟨_, _, _, _, _, _, rfl, rfl, .inr ⟨rfl, rfl⟩⟩
          | slice0 ho => exact ⟨_, _, _, _, _, _, rfl, rfl, .inr ⟨rfl, rfl⟩⟩
        | slice _ _ _ _ _ _ _ ho => exact ho.elim
        | slice0 ho => simp at ho
      · cases hp with
        | nils => cases hq; exact ⟨_, _, _, _, _, _, rfl, rfl, .inl ⟨rfl, rfl⟩⟩
        | slice _ _ _ _ _ _ _ ho => exact ho.elim
        | slice0 ho => simp at ho
      · cases hq with
        | nils => cases hp; exact ⟨_, _, _, _, _, _, rfl, rfl, .inr ⟨rfl, rfl⟩⟩
        | slice _ _ _ _ _ _ _ ho => exact ho.elim
        | slice0 ho => simp at ho
    obtain ⟨k1, k2⟩ := done hu
    obtain ⟨a, n, c, a', n', c', rfl, rfl, hh⟩ := hu
    exact ⟨k1, fun x y op _ _ => k2 x y op, fun _ x y op => k2 x y op, fun _ => rfl, fun _ => rfl⟩
  all_goals
    cases p <;> simp only [nilEq, reduceCtorEq] at hb <;> cases q <;> simp only [nilEq, reduceCtorEq, Option.some.injEq] at hb <;> cases hp <;> cases hq
  all_goals
    subst hb
    refine ⟨key fun dd => ?_, ?_, ?_, ?_, ?_⟩
    · simp [Op.equalIn, run_underlying ht]
    · first
        | (rintro x y op - -; simp [eqGuard]; done)
        | (rintro x y op - hc; exact guard_nilI hc)
        | (rintro x y op ⟨ms, hm⟩; cases hm)
    · first
        | (rintro - x y op; simp [eqGuard]; done)
        | (intro hh; exact absurd rfl (hh _))
    · intro x; rfl
    · intro x; rfl

theorem yields_eqn {o : Oper} {op : BinOp} {t yt : TypeId} {x y : Operand} {x' y' : X} {neq : Bool} {k : NK} {d : TypeDesc} (ho : o.op = .binOp op t x y yt) (hop : op = (if neq then .neq else .eql)) (ht : P.underlying t = some d)
    (hd : nkFits k d = true) (hc : (∃ ms, d = .interface ms) → (isConst' x || isConst' y) = true) (hx : cX x = some x') (hy : cX y = some y') (h : Rel F0 N w0 g F s a w) {b : Bool} (hb : nilEq k (s.ev x') (s.ev y') = some b) :
    Yields P o g s a w (.bool (bif neq then !b else b)) := by
  have hpx : isPlace (s.ev x') = false := by
    cases hv : s.ev x' <;> first
      | rfl
      | (rw [hv] at hb; cases k <;> simp [nilEq] at hb)
  have hpy : isPlace (s.ev y') = false := by
    cases hv : s.ev y' <;> first
      | rfl
      | (rw [hv] at hb; cases k <;> cases s.ev x' <;> simp [nilEq] at hb)
  have k1 := (eval_of hx h).plain hpx
  have k2 := (eval_of hy h).plain hpy
  obtain ⟨e1, e2, e3, e4, e5⟩ := equal_nil (P := P) (w := w) ht hd k1 k2 hb
  have hg : (eqGuard op t x y (a.eval x) (a.eval y)).run P w = .ok () w := by
    by_cases hi : ∃ ms, d = .interface ms
    · refine e2 x y op hi ?_
      have := hc hi
      cases x <;> cases y <;> simp [isConst'] at this ⊢
    · exact e3 (fun ms e => hi ⟨ms, e⟩) x y op
  refine ⟨.bool (bif neq then !b else b), ?_, VR.bool _⟩
  simp only [execOp, ho, Sem.run_bind, hg, Result.andThen_ok]
  cases neq <;> subst hop <;> simp [e1, e4, e5]
end
end Go.Proofs.YtohncbgkiojlnaaGreatDoor.Am
