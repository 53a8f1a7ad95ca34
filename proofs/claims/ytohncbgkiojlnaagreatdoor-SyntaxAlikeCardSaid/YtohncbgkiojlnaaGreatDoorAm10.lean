/- Operations that only look: addresses, elements, lengths, pieces. -/
import Derived.Test.YtohncbgkiojlnaaGreatDoorAm9
set_option linter.unusedVariables false
namespace Go.Proofs.YtohncbgkiojlnaaGreatDoor.Am
open Go.RowKit (Below)

section
variable {P : Program} {F0 : Lab → Option HObj} {N : Nat} {w0 : World} {g : G} {F : Lab → Option HObj} {s s' : St} {a : Act} {w : World}

/-- A place moved on within its object: what the abstract machine makes of it. -/
def moved (v : AV) (n : Nat) : Option AV :=
  match v with
  | .lptr d o g => some (.lptr d (o + n) g)
  | .eptr cs => some (.eptr (dp n cs))
  | .ptr r o => some (.ptr r (o + n))
  | .vptr sz r ver i o => some (.vptr sz r ver i (o + n))
  | _ => none
theorem moved_sound {l : Option Nat} {v v' : AV} {u : Value} {n : Nat} (h : VX g s.e a.tmps v u) (hm : moved v n = some v') (hh : ∀ d o gen, v = .lptr d o gen → s.here l d gen = true) :
    ∃ b o, u = ptrV b o ∧ VX g s.e a.tmps v' (ptrV b (o + n)) := by
  cases v <;> simp only [moved, Option.some.injEq] at hm <;> try contradiction
  all_goals subst hm
  case lptr d o gen =>
    obtain ⟨b, k1, k2⟩ := here_sound h (hh _ _ _ rfl)
    obtain ⟨gen', cs, m1, m2, m3⟩ := h
    exact ⟨b, o, k2, gen', cs, m1, m2, fun _ => ⟨b, k1, rfl⟩⟩
  all_goals
    rcases VX.shift h n rfl trivial with h | ⟨_, _, _, h⟩
    · exact h
    · cases h

theorem sizeOf_run {t : TypeId} {i : TypeInfo} (hi : P.info? t = some i) : (sizeOf t).run P w = .ok i.size w := by
  simp only [sizeOf, typeInfo, Sem.run_bind, run_program, Result.andThen_ok, hi]
  rfl

theorem yields_fad {o : Oper} {t : TypeId} {x : Operand} {x' : X} {i : Nat} {fs : Array Field} {f : Field} {ti : TypeInfo} {l : Option Nat} (ho : o.op = .fieldAddr t x i) (ht : P.underlying t = some (.struct fs))
    (hf : fs[i]? = some f) (hi : P.info? f.type = some ti) (hn : ti.size ≠ 0) (hx : cX x = some x') (h : Rel F0 N w0 g F s a w) {v : AV} (hm : moved (s.ev x') f.offset = some v)
    (hh : ∀ d o gen, s.ev x' = .lptr d o gen → s.here l d gen = true) : Yields P o g s a w v := by
  obtain ⟨b, off, e, k⟩ := moved_sound (eval_of hx h) hm hh
  refine ⟨_, ?_, k⟩
  simp only [execOp, ho, e, ptrV, Instr.fieldAt, Instr.sureAddr, Sem.run_bind, run_underlying ht, Result.andThen_ok, hf, Sem.run_pure, fieldPlace, sizeOf_run hi, if_neg hn, add_plain]

theorem yields_iad_slice {o : Oper} {t e : TypeId} {x j : Operand} {x' j' : X} {ti : TypeInfo} (ho : o.op = .indexAddr t x j) (ht : P.underlying t = some (.slice e)) (hi : P.info? e = some ti)
    (hx : cX x = some x') (hj : cX j = some j') (h : Rel F0 N w0 g F s a w) {xs : List AV} {own : Own} {n : Int} {v : AV} (he : s.ev x' = .slice ti.size xs own) (hn : s.idx j' = some n) (h0 : 0 ≤ n)
    (hv : nth xs n.toNat = some v) : Yields P o g s a w (.eptr v.cells) := by
  obtain ⟨k, ej⟩ := eval_idx hj h hn
  have kx := eval_of hx h
  rw [he] at kx
  have kx : VR g (.slice ti.size xs own) (a.eval x) := kx
  generalize hu : a.eval x = u at kx
  rw [nth_eq] at hv
  cases kx with
  | nils => simp at hv
  | slice0 => simp at hv
  | @slice _ _ _ us b off m cap hl hh h1 hs hn' hc hf ho' =>
    have hlt : n.toNat < xs.length := (List.getElem?_eq_some_iff.1 hv).1
    have hm := (VRs.take (VRs.drop (g := g) ⟨hl, hh⟩ (n.toNat * ti.size)) ti.size)
    rw [elem_cells hs hv] at hm
    refine ⟨ptrV b (off + n.toNat * ti.size), ?_, VR.eptr hm.1 hm.2 ((h1.drop _).take _) (fun i w' hi' => ?_)⟩
    · simp only [execOp, ho, hu, ej, ptrV, Instr.indexAt, asIntOf, Sem.run_bind, Sem.run_pure, Result.andThen_ok, run_underlying ht]
      rw [if_pos ⟨h0, by omega⟩]
      simp only [Sem.run_bind, sizeOf_run hi, Result.andThen_ok, Sem.run_pure, add_plain]
    · rw [List.getElem?_take] at hi'
      split at hi' <;> try contradiction
      rw [List.getElem?_drop] at hi'
      rw [Nat.add_assoc]
      exact hf _ _ hi'

theorem yields_iad_vec {o : Oper} {t e : TypeId} {x j : Operand} {x' j' : X} {ti : TypeInfo} (ho : o.op = .indexAddr t x j) (ht : P.underlying t = some (.slice e)) (hi : P.info? e = some ti)
    (hx : cX x = some x') (hj : cX j = some j') (h : Rel F0 N w0 g F s a w) {r ver off l : Nat} {n : Int} (he : s.ev x' = .vec ti.size r ver off l) (hn : s.idx j' = some n) (h0 : 0 ≤ n) (hlt : n < l) :
    Yields P o g s a w (.vptr ti.size r ver (off + n.toNat) 0) := by
  obtain ⟨k, ej⟩ := eval_idx hj h hn
  have kx := eval_of hx h
  rw [he] at kx
  have kx : VR g (.vec ti.size r ver off l) (a.eval x) := kx
  generalize hu : a.eval x = u at kx
  cases kx with
  | @vec _ _ _ _ _ b cap ob hl hc hob =>
    have hob := hob (by omega)
    subst hob
    refine ⟨ptrV b ((off + n.toNat) * ti.size + 0), ?_, VR.vptr hl⟩
    simp only [execOp, ho, hu, ej, ptrV, Instr.indexAt, asIntOf, Sem.run_bind, Sem.run_pure, Result.andThen_ok, run_underlying ht]
    rw [if_pos ⟨h0, hlt⟩]
    simp only [Sem.run_bind, sizeOf_run hi, Result.andThen_ok, Sem.run_pure, add_plain, Nat.add_mul, Nat.add_zero]

theorem yields_iaa {o : Oper} {t e : TypeId} {x j : Operand} {x' j' : X} {ti : TypeInfo} {m : Nat} {l : Option Nat} (ho : o.op = .indexAddr t x j) (ht : P.underlying t = some (.array m e)) (hi : P.info? e = some ti)
    (hx : cX x = some x') (hj : cX j = some j') (h : Rel F0 N w0 g F s a w) {n : Int} (hn : s.idx j' = some n) (h0 : 0 ≤ n) (hlt : n < m) {v : AV} (hm : moved (s.ev x') (n.toNat * ti.size) = some v)
    (hh : ∀ d o gen, s.ev x' = .lptr d o gen → s.here l d gen = true) : Yields P o g s a w v := by
  obtain ⟨k, ej⟩ := eval_idx hj h hn
  obtain ⟨b, off, e, kv⟩ := moved_sound (eval_of hx h) hm hh
  refine ⟨_, ?_, kv⟩
  simp only [execOp, ho, e, ej, ptrV, Instr.indexAt, asIntOf, Instr.sureAddr, Sem.run_bind, Sem.run_pure, Result.andThen_ok, run_underlying ht]
  rw [if_pos ⟨h0, hlt⟩]
  simp only [Sem.run_bind, sizeOf_run hi, Result.andThen_ok, Sem.run_pure, add_plain]

theorem yields_idxs {o : Oper} {t : TypeId} {x j : Operand} {x' j' : X} (ho : o.op = .index t x j) (ht : P.underlying t = some .string) (hx : cX x = some x') (hj : cX j = some j') (h : Rel F0 N w0 g F s a w)
    {b : ByteArray} {n : Int} (he : s.ev x' = .str b) (hn : s.idx j' = some n) (h0 : 0 ≤ n) {c : UInt8} (hc : nth b.data.toList n.toNat = some c) : Yields P o g s a w (.int .u8 c.toNat) := by
  obtain ⟨k, ej⟩ := eval_idx hj h hn
  have ex := eval_str hx h he
  rw [nth_eq] at hc
  have hc' : b[n.toNat]? = some c := by
    have hlt : n.toNat < b.data.size := by simpa using (List.getElem?_eq_some_iff.1 hc).1
    have h2 : b.data[n.toNat]? = some c := by simpa using hc
    rw [Array.getElem?_eq_getElem hlt] at h2
    rw [getElem?_pos b n.toNat hlt]
    exact h2
  refine ⟨_, ?_, VR.int _ _⟩
  simp only [execOp, ho, ex, ej, Instr.index, asIntOf, Sem.run_bind, Sem.run_pure, Result.andThen_ok, run_underlying ht, if_pos h0, hc']

theorem yields_idxa {o : Oper} {t e : TypeId} {x j : Operand} {x' j' : X} {m : Nat} {d : TypeDesc} {ti : TypeInfo} (ho : o.op = .index t x j) (ht : P.underlying t = some (.array m e)) (hd : P.underlying e = some d)
    (hi : P.info? e = some ti) (h1 : isAggD d = false → ti.size = 1) (hx : cX x = some x') (hj : cX j = some j') (h : Rel F0 N w0 g F s a w) {cs : List AV} {n : Int} (he : s.ev x' = .agg cs) (hn : s.idx j' = some n)
    (h0 : 0 ≤ n) (hlt : n < m) {v : AV} (hv : Am.part (isAggD d) ti.size (n.toNat * ti.size) cs = some v) : Yields P o g s a w v := by
  obtain ⟨k, ej⟩ := eval_idx hj h hn
  obtain ⟨us, e, k1, k2⟩ := agg_of hx h he
  have hv' : Am.part (isAggD d) (bif isAggD d then ti.size else 1) (n.toNat * ti.size) cs = some v := by
    cases hg : isAggD d with
    | true => rw [hg] at hv; exact hv
    | false => rw [hg] at hv; exact hv
  obtain ⟨u, r1, r2⟩ := part_run (P := P) (w := w) hd hi k1 k2 hv'
  refine ⟨u, ?_, VX.of_plain r2.place r2⟩
  simp only [execOp, ho, e, ej, Instr.index, asIntOf, Sem.run_bind, Sem.run_pure, Result.andThen_ok, run_underlying ht]
  rw [if_pos ⟨h0, hlt⟩]
  simp only [Sem.run_bind, sizeOf_run hi, Result.andThen_ok, r1]

theorem builtin_run {o : Oper} {b : Builtin} {args : Array Operand} {ts : Array TypeId} (ho : o.op = .call { callee := .builtin b, args := args, argTypes := ts }) (ρ : Operand → Value) :
    ∃ consts, (execOp ρ o) = builtin b ts o.type consts (args.map ρ) := by
  simp only [execOp, ho, resolve, pure_bind, invoke]
  exact ⟨_, rfl⟩

theorem first_arg {args : Array Operand} {x : Operand} {ρ : Operand → Value} (h0 : args[0]? = some x) : (args.map ρ)[0]? = some (ρ x) := by rw [Array.getElem?_map, h0]; rfl
theorem second_arg {args : Array Operand} {x : Operand} {ρ : Operand → Value} (h0 : args[1]? = some x) : (args.map ρ)[1]? = some (ρ x) := by rw [Array.getElem?_map, h0]; rfl

theorem yields_len {o : Oper} {args : Array Operand} {ts : Array TypeId} {x : Operand} {x' : X} {t : TypeId} {d : TypeDesc} (ho : o.op = .call { callee := .builtin .len, args := args, argTypes := ts })
    (h0 : args[0]? = some x) (ht0 : ts[0]? = some t) (hd : P.underlying t = some d) (hk : d = .string ∨ ∃ e, d = .slice e) (hx : cX x = some x') (h : Rel F0 N w0 g F s a w) {n : Nat}
    (hv : (∃ sz xs own, s.ev x' = .slice sz xs own ∧ n = xs.length ∧ ∃ e, d = .slice e) ∨ (∃ sz r ver off, s.ev x' = .vec sz r ver off n ∧ ∃ e, d = .slice e) ∨ (∃ b, s.ev x' = .str b ∧ n = b.size ∧ d = .string)) :
    Yields P o g s a w (.int .i64 n) := by
  obtain ⟨consts, e⟩ := builtin_run ho a.eval
  have ea := first_arg (ρ := a.eval) h0
  refine ⟨.int .i64 n, ?_, VR.int _ _⟩
  rw [e]
  have k := eval_of hx h
  rcases hv with ⟨sz, xs, own, hs, hn, el, rfl⟩ | ⟨sz, r, ver, off, hs, el, rfl⟩ | ⟨b, hs, hn, rfl⟩
  · rw [hs] at k
    have k : VR g (.slice sz xs own) (a.eval x) := k
    generalize a.eval x = u at k ea
    cases k with
    | nils => simp [builtin, Builtin.len_, ht0, ea, run_underlying hd, goInt, hn]
    | slice0 => simp [builtin, Builtin.len_, ht0, ea, run_underlying hd, goInt, hn]
    | slice hl hh h1 hs' hn' hc hf ho' => simp [builtin, Builtin.len_, ht0, ea, run_underlying hd, goInt, hn, hn']
  · rw [hs] at k
    have k : VR g (.vec sz r ver off n) (a.eval x) := k
    generalize a.eval x = u at k ea
    cases k
    simp [builtin, Builtin.len_, ht0, ea, run_underlying hd, goInt]
  · have ex := eval_str hx h hs
    rw [ex] at ea
    simp [builtin, Builtin.len_, ht0, ea, run_underlying hd, goInt, hn]

/-! ### Pieces -/
theorem bound_run {n dflt l : Nat} {x : Option Operand} {x' : Option X} (hx : cO x = some x') (h : Rel F0 N w0 g F s a w) (hb : bound n dflt (opt s.ev x') = some l) :
    (x = none ∧ l = dflt) ∨ (∃ y, x = some y ∧ l ≤ n ∧ ∀ m code, l ≤ m → (Instr.sliceBound (a.eval y) m code).run P w = .ok l w) := by
  cases x with
  | none =>
    simp only [cO, Option.some.injEq] at hx; subst hx
    simp only [opt, bound, Option.some.injEq] at hb
    exact .inl ⟨rfl, hb.symm⟩
  | some y =>
    simp only [cO] at hx
    split at hx <;> try contradiction
    rename_i y' hy
    simp only [Option.some.injEq] at hx; subst hx
    simp only [opt] at hb
    cases e : s.ev y' <;> rw [e] at hb <;> simp only [bound] at hb <;> try contradiction
    rename_i k i
    split at hb <;> try contradiction
    rename_i hi
    simp only [Option.some.injEq] at hb; subst hb
    have ey := eval_int hy h e
    refine .inr ⟨y, rfl, by omega, fun m code hm => ?_⟩
    simp only [Instr.sliceBound, ey, asIntOf, Sem.run_bind, Sem.run_pure, Result.andThen_ok]
    rw [if_pos (by omega)]
    rfl

/-- Go's bounds, no third one. -/
theorem bounds2_run {n cap hh ll : Nat} {lo hi : Option Operand} {lo' hi' : Option X} {isS : Bool} (hlo : cO lo = some lo') (hhi : cO hi = some hi') (h : Rel F0 N w0 g F s a w) (hn : n ≤ cap)
    (h1 : bound n n (opt s.ev hi') = some hh) (h2 : bound hh 0 (opt s.ev lo') = some ll) :
    hh ≤ n ∧ ll ≤ hh ∧ (Instr.sliceBounds isS n cap (lo.map a.eval) (hi.map a.eval) none).run P w = .ok (ll, hh, cap) w := by
  rcases bound_run (P := P) hhi h h1 with ⟨rfl, rfl⟩ | ⟨y, rfl, k1, k2⟩
  · rcases bound_run (P := P) hlo h h2 with ⟨rfl, rfl⟩ | ⟨z, rfl, k3, k4⟩
    · exact ⟨Nat.le_refl _, Nat.zero_le _, by simp [Instr.sliceBounds]⟩
    · exact ⟨Nat.le_refl _, k3, by simp [Instr.sliceBounds, k4 _ _ k3]⟩
  · rcases bound_run (P := P) hlo h h2 with ⟨rfl, rfl⟩ | ⟨z, rfl, k3, k4⟩
    · exact ⟨k1, Nat.zero_le _, by simp [Instr.sliceBounds, k2 cap _ (by omega)]⟩
    · exact ⟨k1, k3, by simp [Instr.sliceBounds, k2 cap _ (by omega), k4 _ _ k3]⟩
/-- With a third one. -/
theorem bounds3_run {n cap hh ll mm : Nat} {lo hi : Option Operand} {mx : Operand} {lo' hi' : Option X} {mx' : X} {isS : Bool} (hlo : cO lo = some lo') (hhi : cO hi = some hi') (hmx : cX mx = some mx')
    (h : Rel F0 N w0 g F s a w) (hn : n ≤ cap) (hsome : hi ≠ none)
    (h0 : bound n n (some (s.ev mx')) = some mm) (h1 : bound mm n (opt s.ev hi') = some hh) (h2 : bound hh 0 (opt s.ev lo') = some ll) :
    mm ≤ n ∧ hh ≤ mm ∧ ll ≤ hh ∧ (Instr.sliceBounds isS n cap (lo.map a.eval) (hi.map a.eval) (some (a.eval mx))).run P w = .ok (ll, hh, mm) w := by
  have h0' := bound_run (P := P) (x := some mx) (x' := some mx') (by simp [cO, hmx]) h h0
  rcases h0' with ⟨e, _⟩ | ⟨y0, e0, k5, k6⟩
  · cases e
  · cases e0
    rcases bound_run (P := P) hhi h h1 with ⟨e, _⟩ | ⟨y, rfl, k1, k2⟩
    · exact absurd e hsome
    · rcases bound_run (P := P) hlo h h2 with ⟨rfl, rfl⟩ | ⟨z, rfl, k3, k4⟩
      · exact ⟨k5, k1, Nat.zero_le _, by simp [Instr.sliceBounds, k6 cap _ (by omega), k2 mm _ k1]⟩
      · exact ⟨k5, k1, k3, by simp [Instr.sliceBounds, k6 cap _ (by omega), k2 mm _ k1, k4 _ _ k3]⟩

theorem yields_sli_str {o : Oper} {t : TypeId} {x : Operand} {x' : X} {lo hi : Option Operand} {lo' hi' : Option X} (ho : o.op = .slice t x lo hi none) (ht : P.underlying t = some .string) (hx : cX x = some x')
    (hlo : cO lo = some lo') (hhi : cO hi = some hi') (h : Rel F0 N w0 g F s a w) {b : ByteArray} {hh ll : Nat} (he : s.ev x' = .str b)
    (h1 : bound b.size b.size (opt s.ev hi') = some hh) (h2 : bound hh 0 (opt s.ev lo') = some ll) : Yields P o g s a w (.str (b.extract ll hh)) := by
  have ex := eval_str hx h he
  obtain ⟨_, _, hr⟩ := bounds2_run (P := P) (isS := false) hlo hhi h (Nat.le_refl b.size) h1 h2
  refine ⟨_, ?_, VR.str _⟩
  simp only [execOp, ho, Instr.sliceAt, Sem.run_bind, run_underlying ht, Result.andThen_ok, ex, Instr.slice, Option.map_none, Option.isSome_none, Bool.false_eq_true, if_false, hr, Sem.run_pure]

theorem flat_drop {sz : Nat} {xs : List AV} (h : ∀ x ∈ xs, x.cells.length = sz) (n : Nat) : flat (xs.drop n) = (flat xs).drop (n * sz) := by
  induction n generalizing xs with
  | zero => simp
  | succ n ih =>
    cases xs with
    | nil => simp [flat]
    | cons x xs =>
      have hx := h x (by simp)
      simp only [List.drop_succ_cons, flat]
      have e1 : x.cells.drop (n * sz + sz) = [] := List.drop_eq_nil_of_le (by rw [hx]; omega)
      rw [ih (fun y hy => h y (by simp [hy])), Nat.succ_mul, List.drop_append, e1, hx, List.nil_append, Nat.add_sub_cancel]
theorem flat_take {sz : Nat} {xs : List AV} (h : ∀ x ∈ xs, x.cells.length = sz) (n : Nat) : flat (xs.take n) = (flat xs).take (n * sz) := by
  induction n generalizing xs with
  | zero => simp [flat]
  | succ n ih =>
    cases xs with
    | nil => simp [flat]
    | cons x xs =>
      have hx := h x (by simp)
      simp only [List.take_succ_cons, flat]
      have e1 : x.cells.take (n * sz + sz) = x.cells := List.take_of_length_le (by rw [hx]; omega)
      rw [ih (fun y hy => h y (by simp [hy])), Nat.succ_mul, List.take_append, hx, e1, Nat.add_sub_cancel]

/-- A piece of a slice whose elements are told. -/
theorem VR.piece {sz ll hh mm n cap b off : Nat} {xs : List AV} {us : List Value} (hl : (flat xs).length = us.length) (hhh : ∀ (i : Nat) c u, (flat xs)[i]? = some c → us[i]? = some u → VR g c u) (h1 : One us)
    (hs : ∀ x ∈ xs, x.cells.length = sz) (hn : n = xs.length) (hc : n ≤ cap) (hf : Fz g b off us) (k1 : hh ≤ n) (k2 : ll ≤ hh) (k3 : hh ≤ mm) (k4 : mm ≤ cap) {own' : Own} {off' : Nat}
    (hoff : ll < mm → off' = off + ll * sz) (ho : OwnR g own' b (off' + (hh - ll) * sz) (hh - ll) (mm - ll)) :
    VR g (.slice sz ((xs.drop ll).take (hh - ll)) own') (.slice (some ⟨b, off', none⟩) (hh - ll) (mm - ll)) := by
  have hs2 : ∀ x ∈ xs.drop ll, x.cells.length = sz := fun x hx => hs x (List.mem_of_mem_drop hx)
  have hfl : flat ((xs.drop ll).take (hh - ll)) = ((flat xs).drop (ll * sz)).take ((hh - ll) * sz) := by rw [flat_take hs2, flat_drop hs]
  have m := VRs.take (VRs.drop (g := g) ⟨hl, hhh⟩ (ll * sz)) ((hh - ll) * sz)
  rw [← hfl] at m
  refine VR.slice m.1 m.2 ((h1.drop _).take _) (fun x hx => hs x (List.mem_of_mem_drop (List.mem_of_mem_take hx))) (by simp; omega) (by omega) (fun i u hi => ?_) ho
  rw [List.getElem?_take] at hi
  split at hi <;> try contradiction
  rename_i hlt
  rw [List.getElem?_drop] at hi
  have hll : ll < mm := by
    rcases Nat.lt_or_ge ll hh with h | h
    · omega
    · have : hh - ll = 0 := by omega
      rw [this] at hlt; omega
  rw [hoff hll, Nat.add_assoc]
  exact hf _ u hi

theorem yields_sli_slice {o : Oper} {t e : TypeId} {x : Operand} {x' : X} {lo hi : Option Operand} {lo' hi' : Option X} {ti : TypeInfo} (ho : o.op = .slice t x lo hi none) (ht : P.underlying t = some (.slice e))
    (hi0 : P.info? e = some ti) (hx : cX x = some x') (hlo : cO lo = some lo') (hhi : cO hi = some hi') (h : Rel F0 N w0 g F s a w) {sz : Nat} {xs : List AV} {own : Own} {hh ll : Nat} (he : s.ev x' = .slice sz xs own)
    (h1 : bound xs.length xs.length (opt s.ev hi') = some hh) (h2 : bound hh 0 (opt s.ev lo') = some ll) (hsz : sz = ti.size ∨ ll = 0) :
    Yields P o g s a w (.slice sz ((xs.drop ll).take (hh - ll)) (bif Nat.beq hh xs.length then own else .no)) := by
  have k := eval_of hx h
  rw [he] at k
  have k : VR g (.slice sz xs own) (a.eval x) := k
  generalize hu : a.eval x = u at k
  cases k with
  | nils =>
    obtain ⟨k1, k2, hr⟩ := bounds2_run (P := P) (isS := true) hlo hhi h (Nat.le_refl _) h1 h2
    simp only [List.length_nil, Nat.le_zero_eq] at k1
    subst k1
    simp only [Nat.le_zero_eq] at k2
    subst k2
    refine ⟨.slice none 0 0, ?_, ?_⟩
    · simp only [List.length_nil] at hr
      simp only [execOp, ho, Instr.sliceAt, Sem.run_bind, run_underlying ht, Result.andThen_ok, hu, Instr.slice, Option.map_none, hr, sizeOf_run hi0, Sem.run_pure, if_true, Nat.sub_self]
    · show VR g _ _
      simpa [noSpare] using VR.nils (g := g) (sz := sz)
  | @slice0 _ _ ad ho0 =>
    obtain ⟨k1, k2, hr⟩ := bounds2_run (P := P) (isS := true) hlo hhi h (Nat.le_refl _) h1 h2
    simp only [List.length_nil, Nat.le_zero_eq] at k1
    subst k1
    simp only [Nat.le_zero_eq] at k2
    subst k2
    refine ⟨.slice (some ad) 0 0, ?_, ?_⟩
    · simp only [List.length_nil] at hr
      simp only [execOp, ho, Instr.sliceAt, Sem.run_bind, run_underlying ht, Result.andThen_ok, hu, Instr.slice, Option.map_none, hr, sizeOf_run hi0, Sem.run_pure, if_true, Nat.sub_self]
    · show VR g _ _
      simpa using VR.slice0 (g := g) (sz := sz) (a := ad) ho0
  | @slice _ _ _ us b off n cap hl hhh h1' hs hn hc hf ho' =>
    obtain ⟨k1, k2, hr⟩ := bounds2_run (P := P) (isS := true) hlo hhi h (by omega : xs.length ≤ cap) h1 h2
    subst hn
    refine ⟨.slice (some ⟨b, if cap = ll then off else off + ll * ti.size, none⟩) (hh - ll) (cap - ll), ?_, ?_⟩
    · simp only [execOp, ho, Instr.sliceAt, Sem.run_bind, run_underlying ht, Result.andThen_ok, hu, Instr.slice, Option.map_none, hr, sizeOf_run hi0, Sem.run_pure]
      by_cases e : cap = ll
      · simp [e]
      · simp [e, add_plain]
    · have hsl : ll * ti.size = ll * sz := by rcases hsz with rfl | rfl <;> simp
      refine VR.piece hl hhh h1' hs rfl hc hf k1 k2 (by omega) (Nat.le_refl _) (fun hlt => by rw [if_neg (by omega), hsl]) ?_
      cases hb : Nat.beq hh xs.length with
      | false => exact trivial
      | true =>
        have hb := of_beq hb
        subst hb
        simp only [cond_true]
        cases own with
        | no => exact trivial
        | nil => exact ho'
        | full => simp only [OwnR] at ho' ⊢; omega
        | chain c p =>
          obtain ⟨b', e', q1, q2⟩ := ho'
          refine ⟨b', e', by rw [q1]; congr 3; omega, fun hlt => ?_⟩
          obtain ⟨q3, q4⟩ := q2 (by omega)
          refine ⟨q3, ?_⟩
          rw [q4, if_neg (by omega), hsl, Nat.add_assoc, ← Nat.add_mul]
          congr 2
          omega

theorem yields_sli_slice3 {o : Oper} {t e : TypeId} {x mx : Operand} {x' mx' : X} {lo hi : Option Operand} {lo' hi' : Option X} {ti : TypeInfo} (ho : o.op = .slice t x lo hi (some mx)) (ht : P.underlying t = some (.slice e))
    (hi0 : P.info? e = some ti) (hx : cX x = some x') (hlo : cO lo = some lo') (hhi : cO hi = some hi') (hmx : cX mx = some mx') (h : Rel F0 N w0 g F s a w) {sz : Nat} {xs : List AV} {own : Own} {hh ll mm : Nat}
    (he : s.ev x' = .slice sz xs own) (hsome : hi ≠ none)
    (h0 : bound xs.length xs.length (some (s.ev mx')) = some mm) (h1 : bound mm xs.length (opt s.ev hi') = some hh) (h2 : bound hh 0 (opt s.ev lo') = some ll) (hm : hh = mm) (hsz : sz = ti.size ∨ ll = 0) :
    Yields P o g s a w (.slice sz ((xs.drop ll).take (hh - ll)) (noSpare own)) := by
  have k := eval_of hx h
  rw [he] at k
  have k : VR g (.slice sz xs own) (a.eval x) := k
  generalize hu : a.eval x = u at k
  cases k with
  | nils =>
    obtain ⟨k0, k1, k2, hr⟩ := bounds3_run (P := P) (isS := true) hlo hhi hmx h (Nat.le_refl _) hsome h0 h1 h2
    simp only [List.length_nil, Nat.le_zero_eq] at k0
    subst k0
    simp only [Nat.le_zero_eq] at k1
    subst k1
    simp only [Nat.le_zero_eq] at k2
    subst k2
    refine ⟨.slice none 0 0, ?_, ?_⟩
    · simp only [List.length_nil] at hr
      simp only [execOp, ho, Instr.sliceAt, Sem.run_bind, run_underlying ht, Result.andThen_ok, hu, Instr.slice, Option.map_some, hr, sizeOf_run hi0, Sem.run_pure, if_true, Nat.sub_self]
    · show VR g _ _
      simpa [noSpare] using VR.nils (g := g) (sz := sz)
  | @slice0 _ _ ad ho0 =>
    obtain ⟨k0, k1, k2, hr⟩ := bounds3_run (P := P) (isS := true) hlo hhi hmx h (Nat.le_refl _) hsome h0 h1 h2
    simp only [List.length_nil, Nat.le_zero_eq] at k0
    subst k0
    simp only [Nat.le_zero_eq] at k1
    subst k1
    simp only [Nat.le_zero_eq] at k2
    subst k2
    refine ⟨.slice (some ad) 0 0, ?_, ?_⟩
    · simp only [List.length_nil] at hr
      simp only [execOp, ho, Instr.sliceAt, Sem.run_bind, run_underlying ht, Result.andThen_ok, hu, Instr.slice, Option.map_some, hr, sizeOf_run hi0, Sem.run_pure, if_true, Nat.sub_self]
    · show VR g _ _
      have hno : noSpare own = .full := by rcases ho0 with rfl | rfl <;> rfl
      rw [hno]
      simpa using VR.slice0 (g := g) (sz := sz) (a := ad) (.inr rfl)
  | @slice _ _ _ us b off n cap hl hhh h1' hs hn hc hf ho' =>
    obtain ⟨k0, k1, k2, hr⟩ := bounds3_run (P := P) (isS := true) hlo hhi hmx h (by omega : xs.length ≤ cap) hsome h0 h1 h2
    subst hn
    refine ⟨.slice (some ⟨b, if mm = ll then off else off + ll * ti.size, none⟩) (hh - ll) (mm - ll), ?_, ?_⟩
    · simp only [execOp, ho, Instr.sliceAt, Sem.run_bind, run_underlying ht, Result.andThen_ok, hu, Instr.slice, Option.map_some, hr, sizeOf_run hi0, Sem.run_pure]
      by_cases e : mm = ll
      · simp [e]
      · simp [e, add_plain]
    · have hsl : ll * ti.size = ll * sz := by rcases hsz with rfl | rfl <;> simp
      have hown : noSpare own = .full := by
        cases own with
        | nil => exact absurd ho' (by simp [OwnR])
        | _ => rfl
      rw [hown]
      refine VR.piece hl hhh h1' hs rfl hc hf (by omega) k2 (by omega) (by omega) (fun hlt => by rw [if_neg (by omega), hsl]) ?_
      simp only [OwnR]; omega

theorem yields_sli_vec {o : Oper} {t e : TypeId} {x : Operand} {x' : X} {lo hi : Option Operand} {lo' hi' : Option X} {ti : TypeInfo} (ho : o.op = .slice t x lo hi none) (ht : P.underlying t = some (.slice e))
    (hi0 : P.info? e = some ti) (hx : cX x = some x') (hlo : cO lo = some lo') (hhi : cO hi = some hi') (h : Rel F0 N w0 g F s a w) {r ver off n : Nat} {hh ll : Nat} (he : s.ev x' = .vec ti.size r ver off n)
    (h1 : bound n n (opt s.ev hi') = some hh) (h2 : bound hh 0 (opt s.ev lo') = some ll) : Yields P o g s a w (.vec ti.size r ver (off + ll) (hh - ll)) := by
  have k := eval_of hx h
  rw [he] at k
  have k : VR g (.vec ti.size r ver off n) (a.eval x) := k
  generalize hu : a.eval x = u at k
  cases k with
  | @vec _ _ _ _ _ b cap ob hl hc hob =>
    obtain ⟨k1, k2, hr⟩ := bounds2_run (P := P) (isS := true) hlo hhi h (by omega : n ≤ cap - off) h1 h2
    refine ⟨.slice (some ⟨b, if cap - off = ll then ob else ob + ll * ti.size, none⟩) (hh - ll) (cap - (off + ll)), ?_, ?_⟩
    · simp only [execOp, ho, Instr.sliceAt, Sem.run_bind, run_underlying ht, Result.andThen_ok, hu, Instr.slice, Option.map_none, hr, sizeOf_run hi0, Sem.run_pure]
      rw [show cap - off - ll = cap - (off + ll) from by omega]
      by_cases e : cap - off = ll
      · simp [e]
      · simp [e, add_plain]
    · refine VR.vec hl (by omega) (fun hlt => ?_)
      rw [if_neg (by omega), hob (by omega), Nat.add_mul]
end
end Go.Proofs.YtohncbgkiojlnaaGreatDoor.Am
