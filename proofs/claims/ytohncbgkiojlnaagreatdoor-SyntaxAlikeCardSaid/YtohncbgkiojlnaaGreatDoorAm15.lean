/- Asserted types, minima, iterators of texts. -/
import Derived.Test.YtohncbgkiojlnaaGreatDoorAm14
import Derived.Laws.IdiomStrings
import Derived.Laws.BytesArg
set_option linter.unusedVariables false
set_option linter.unusedSimpArgs false
namespace Go.Proofs.YtohncbgkiojlnaaGreatDoor.Am
open Go.RowKit (Below)

section
variable {P : Program} {F0 : Lab → Option HObj} {N : Nat} {w0 : World} {g : G} {F : Lab → Option HObj} {s s' : St} {a : Act} {w : World}

theorem VRs.tuple2 {x y : AV} {u v : Value} (h : VR g x u) (k : VR g y v) : VR g (.tuple [x, y]) (.tuple #[u, v]) := by
  have := VRs.cons h (VRs.cons k (VRs.nil g))
  exact VR.tuple (us := [u, v]) this.1 this.2

theorem yields_tas {o : Oper} {x : Operand} {x' : X} {xt t : TypeId} {ok : Bool} {z : AV} {d : TypeDesc} (ho : o.op = .typeAssert x xt t ok) (ht : P.underlying t = some d) (hd : ∀ ms, d ≠ .interface ms) (hz : zeroT P t = some z)
    (hx : cX x = some x') (h : Rel F0 N w0 g F s a w) {call : Call} {v : AV} (hs : step call (.tas t z ok x') s = some (v, s')) : Yields P o g s a w v ∧ s' = s := by
  obtain ⟨i, zv, k1, k2, k3, k4, k5⟩ := zeroT_sound g hz
  have kx := eval_of hx h
  have hzr := zeroValue_run (P := P) (w := w) k1 k2
  simp only [step] at hs
  split at hs <;> try contradiction
  · rename_i u q he
    rw [he] at kx
    have kx : VR g (.iface u q) (a.eval x) := kx
    generalize hu : a.eval x = ux at kx
    cases kx with
    | @iface _ _ uv hq =>
      cases hb : t.beq u with
      | true =>
        rw [hb] at hs
        simp only [cond_true, Option.some.injEq, Prod.mk.injEq] at hs
        obtain ⟨rfl, rfl⟩ := hs
        have e : t = u := by simpa using hb
        subst e
        cases ok with
        | true =>
          refine ⟨⟨_, ?_, VX.of_plain rfl (VRs.tuple2 hq (.bool true))⟩, rfl⟩
          cases d <;> first
            | exact absurd rfl (hd _)
            | simp [execOp, ho, hu, Instr.typeAssert, run_underlying ht]
        | false =>
          refine ⟨⟨uv, ?_, VX.of_plain hq.place hq⟩, rfl⟩
          cases d <;> first
            | exact absurd rfl (hd _)
            | simp [execOp, ho, hu, Instr.typeAssert, run_underlying ht]
      | false =>
        rw [hb] at hs
        simp only [cond_false] at hs
        cases ok with
        | false => simp at hs
        | true =>
          simp only [cond_true, Option.some.injEq, Prod.mk.injEq] at hs
          obtain ⟨rfl, rfl⟩ := hs
          have e : u ≠ t := by intro e; subst e; simp at hb
          refine ⟨⟨_, ?_, VX.of_plain rfl (VRs.tuple2 k3 (.bool false))⟩, rfl⟩
          cases d <;> first
            | exact absurd rfl (hd _)
            | simp [execOp, ho, hu, Instr.typeAssert, run_underlying ht, e, hzr]
  · rename_i he
    rw [he] at kx
    have kx : VR g .niliface (a.eval x) := kx
    generalize hu : a.eval x = ux at kx
    cases kx
    cases ok with
    | false => simp at hs
    | true =>
      simp only [cond_true, Option.some.injEq, Prod.mk.injEq] at hs
      obtain ⟨rfl, rfl⟩ := hs
      refine ⟨⟨_, ?_, VX.of_plain rfl (VRs.tuple2 k3 (.bool false))⟩, rfl⟩
      cases d <;> first
        | exact absurd rfl (hd _)
        | simp [execOp, ho, hu, Instr.typeAssert, run_underlying ht, hzr]

theorem minMax_run {mx : Bool} {k : IntKind} : ∀ {r : List AV} {us : List Value} {m : Int} {v : AV}, VRs g r us → minMax mx m k r = some v →
    ∃ n, v = .int k n ∧ ((us.foldlM (if mx then Builtin.max2 else Builtin.min2) (.int k m)).run P w = .ok (.int k n) w) := by
  intro r
  induction r with
  | nil =>
    intro us m v hv h
    simp only [minMax, Option.some.injEq] at h; subst h
    have : us = [] := List.eq_nil_of_length_eq_zero hv.1.symm
    subst this
    exact ⟨m, rfl, by simp⟩
  | cons x r ih =>
    intro us m v hv h
    cases us with
    | nil => have := hv.1; simp at this
    | cons u us =>
      have h0 := hv.2 0 x u rfl rfl
      have hvs : VRs g r us := ⟨by have := hv.1; simpa using this, fun i c u hc hu => hv.2 (i + 1) c u (by simpa using hc) (by simpa using hu)⟩
      cases x <;> simp only [minMax, reduceCtorEq] at h
      rename_i l b
      cases h0
      split at h <;> try contradiction
      rename_i e; subst e
      cases mx with
      | true =>
        simp only [cond_true] at h
        obtain ⟨n, e1, e2⟩ := ih hvs h
        refine ⟨n, e1, ?_⟩
        simp only [if_true] at e2
        simp only [if_true, List.foldlM_cons, Sem.run_bind, Builtin.max2, Sem.run_pure, Result.andThen_ok, e2]
      | false =>
        simp only [cond_false] at h
        obtain ⟨n, e1, e2⟩ := ih hvs h
        refine ⟨n, e1, ?_⟩
        simp only [Bool.false_eq_true, if_false] at e2
        simp only [Bool.false_eq_true, if_false, List.foldlM_cons, Sem.run_bind, Builtin.min2, Sem.run_pure, Result.andThen_ok, e2]

theorem yields_minmax {o : Oper} {mx : Bool} {args : Array Operand} {ts : Array TypeId} {xs : List X} (ho : o.op = .call { callee := .builtin (if mx then .max else .min), args := args, argTypes := ts })
    (hx : cXs args.toList = some xs) (h : Rel F0 N w0 g F s a w) {call : Call} {v : AV} (hs : step call (.minmax mx xs) s = some (v, s')) : Yields P o g s a w v ∧ s' = s := by
  have k := cXs_sound (P := default) hx h.er
  simp only [step] at hs
  split at hs <;> try contradiction
  rename_i kk m r he
  split at hs <;> try contradiction
  rename_i v' hm
  simp only [Option.some.injEq, Prod.mk.injEq] at hs
  obtain ⟨rfl, rfl⟩ := hs
  rw [he] at k
  obtain ⟨consts, ex⟩ := builtin_run ho a.eval
  cases hl : args.toList.map a.eval with
  | nil => rw [hl] at k; have := k.1; simp at this
  | cons u us =>
    rw [hl] at k
    have h0 := k.2 0 _ _ rfl rfl
    cases h0
    have hvs : VRs g r us := ⟨by have := k.1; simpa using this, fun i c u hc hu => k.2 (i + 1) c u (by simpa using hc) (by simpa using hu)⟩
    obtain ⟨n, e1, e2⟩ := minMax_run (P := P) (w := w) hvs hm
    have hargs : (args.map a.eval).toList = .int kk m :: us := by rw [Array.toList_map]; exact hl
    refine ⟨⟨.int kk n, ?_, VX.of_plain (by rw [e1]; rfl) (by rw [e1]; exact .int _ _)⟩, rfl⟩
    rw [ex]
    cases mx with
    | true =>
      simp only [if_true] at e2
      simp only [if_true, builtin, Builtin.max_, hargs, Sem.run_bind, e2, Result.andThen_ok, Sem.run_pure]
    | false =>
      simp only [Bool.false_eq_true, if_false] at e2
      simp only [Bool.false_eq_true, if_false, builtin, Builtin.min_, hargs, Sem.run_bind, e2, Result.andThen_ok, Sem.run_pure]

theorem turns_rng {o : Oper} {t : TypeId} {x : Operand} {x' : X} {k : Nat} {b : ByteArray} (ho : o.op = .range t x) (ht : P.underlying t = some .string) (hx : cX x = some x') (h : Rel F0 N w0 g F s a w) (hv : s.ev x' = .str b) (hk : s.free k = true) :
    Turns P F0 N w0 o g s a w (.ptr (s.rb + k) 0) { s with h := s.h.put (s.rb + k) (some (.iter b 0)) } := by
  have e := eval_str hx h hv
  obtain ⟨k1, k2, k3⟩ := free_sound hk
  have := h.hnew (ver := 0) (x := (w.heap.size, 0, 0)) k2 k1 k3 (ob := .stringIter b 0) (ow := fun i => if i = 0 then some (.hp (s.rb + k)) else none) (fz := fun _ => none) (o := .iter b 0)
    (fun i v hv => by cases hv) (fun i l _ => rfl)
    (fun hle => ⟨w.heap.size, by simp [G.at_, G.grow, locSet], by rw [addB_get, if_pos rfl], by simp [G.grow]⟩)
  refine ⟨.pointer (some ⟨w.heap.size, 0, none⟩), _, _, _, .inl ?_, .of ⟨this.1, locSet_lo k2⟩ rfl rfl, VX.of_plain rfl (VR.ptr (x := 0) (by simp [G.grow, locSet])), this.2⟩
  simp only [execOp, ho, e, Instr.range, Sem.run_bind, run_underlying ht, Sem.run_pure, Result.andThen_ok, run_newObj]
  rfl

theorem run_getObj_iter {r pos : Nat} {b : ByteArray} (h : w.heap[r]? = some (.stringIter b pos)) : (getObj r).run P w = .ok (.stringIter b pos) w := by simp [getObj, Sem.run, h]
theorem run_setObj_iter {r pos : Nat} {b : ByteArray} (o : Obj) (h : w.heap[r]? = some (.stringIter b pos)) : (setObj r o).run P w = .ok () (setB w r o) := by simp [setObj, Sem.run, h, setB]

theorem turns_nxt {o : Oper} {x : Operand} {x' : X} {r pos : Nat} {b : ByteArray} (ho : o.op = .next x true) (hx : cX x = some x') (h : Rel F0 N w0 g F s a w) (hv : s.ev x' = .ptr r 0) (hg : s.h.get r = some (.iter b pos)) {v : AV}
    (hs : (if pos < b.size ∧ s.ro ≤ r then
          (let (c, w) := Utf8.decode b pos
           some (AV.tuple [.bool true, .int .i64 pos, .int .i32 c], { s with h := s.h.put r (some (.iter b (pos + w))) }))
        else if pos < b.size then none else some (.tuple [.bool false], s)) = some (v, s')) : Turns P F0 N w0 o g s a w v s' := by
  have kx := eval_of hx h
  rw [hv] at kx
  have kx : VR g (.ptr r 0) (a.eval x) := kx
  generalize hux : a.eval x = ux at kx
  cases kx with
  | @ptr _ _ bl xx hloc =>
    obtain ⟨bl', q1, q2, q3⟩ := h.wr.obj _ _ (h.hp r _ hg)
    simp only [G.at_] at q1
    rw [hloc] at q1
    simp only [Option.some.injEq, Prod.mk.injEq] at q1
    obtain ⟨rfl, _⟩ := q1
    split at hs
    · rename_i hc
      obtain ⟨hc1, hc2⟩ := hc
      cases hd : Utf8.decode b pos with
      | mk c wd =>
        rw [hd] at hs
        simp only [Option.some.injEq, Prod.mk.injEq] at hs
        obtain ⟨rfl, rfl⟩ := hs
        have hFfr : ∀ b1, (F_set F (.hp r) (.iter b (pos + wd))) (.fr b1) = F (.fr b1) := fun b1 => by simp [F_set]
        refine ⟨.tuple #[.bool true, goInt pos, .int .i32 c], g, F_set F (.hp r) (.iter b (pos + wd)), setB w bl (.stringIter b (pos + wd)), .inl ?_, .same g rfl rfl, VX.of_plain rfl ?_, ?_⟩
        · simp only [execOp, ho, hux, Instr.next, Sem.run_bind, run_getObj_iter q2, Result.andThen_ok, if_pos hc1, hd, run_setObj_iter _ q2, Sem.run_pure]
        · have := VRs.cons (VR.bool (g := g) true) (VRs.cons (VR.int .i64 pos) (VRs.cons (VR.int .i32 c) (VRs.nil g)))
          exact VR.tuple (us := [_, _, _]) this.1 this.2
        · refine ⟨h.er.mono (G.le.refl g) (fun b1 c1 _ hh => by rw [hFfr]; exact hh), h.df, ?_, fun r' o' hr' => ?_, fun r' hr' => ?_, fun r' hr' hn' v => ?_, fun r' hr' => ?_, h.rb, h.nx, ⟨fun r' o' hr' ho' => ?_, fun b1 o' hb1 ho' => ?_⟩, by rw [setB_size]; exact h.big⟩
          · refine h.wr.turn (l0 := .hp r) q2 (by simp) q3 (fun l o' hl => ?_)
            by_cases e : l = .hp r
            · subst e
              rw [F_set_same] at hl
              simp only [Option.some.injEq] at hl; subst hl
              exact .inr ⟨bl, hloc.trans (by
                have := h.wr.obj _ _ (h.hp r _ hg)
                obtain ⟨b3, p1, _, _⟩ := this
                simp only [G.at_] at p1
                rw [hloc] at p1
                simp only [Option.some.injEq, Prod.mk.injEq] at p1
                rw [p1.2.2]), by rw [setB_get, if_pos rfl, if_pos (lt_of_get q2)], q3⟩
            · rw [F_set_other F _ e] at hl
              exact .inl ⟨e, hl⟩
          · simp only [Tr.get_put] at hr'
            by_cases e : r' = r
            · subst e; rw [if_pos rfl] at hr'; rw [F_set_same]; exact hr'
            · rw [if_neg e] at hr'; rw [F_set_other F _ (by simp [e])]; exact h.hp r' o' hr'
          · simp only [Tr.get_put]
            by_cases e : r' = r
            · subst e; rw [if_pos rfl, F_set_same]
            · rw [if_neg e, F_set_other F _ (by simp [e])]; exact h.hx r' hr'
          · simp only [Tr.get_put] at hn'
            by_cases e : r' = r
            · rw [if_pos e] at hn'; cases hn'
            · rw [if_neg e] at hn'; exact h.fresh r' hr' hn' v
          · simp only [Tr.get_put]
            rw [if_neg]
            · exact h.top r' hr'
            · intro e; subst e
              have := h.top r' hr'
              rw [hg] at this; cases this
          · have : r' ≠ r := by simp at hr'; omega
            rw [F_set_other F _ (by simp [this])]; exact h.frm.hp r' o' hr' ho'
          · rw [hFfr]; exact h.frm.fr b1 o' hb1 ho'
    · split at hs <;> try contradiction
      rename_i hnc hc
      simp only [Option.some.injEq, Prod.mk.injEq] at hs
      obtain ⟨rfl, rfl⟩ := hs
      refine ⟨.tuple #[.bool false], g, F, w, .inl ?_, .same g rfl rfl, VX.of_plain rfl ?_, h⟩
      · simp only [execOp, ho, hux, Instr.next, Sem.run_bind, run_getObj_iter q2, Result.andThen_ok, if_neg hc, Sem.run_pure]
      · have := VRs.cons (VR.bool (g := g) false) (VRs.nil g)
        exact VR.tuple (us := [_]) this.1 this.2

/-! ### Texts and rows of bytes -/
theorem rowOf_flat (b : ByteArray) : flat (rowOf b) = rowOf b := by
  have : ∀ l : List UInt8, flat (l.map fun c => AV.int .u8 c.toNat) = l.map fun c => AV.int .u8 c.toNat := by
    intro l; induction l with
    | nil => rfl
    | cons x xs ih => simp only [List.map_cons, flat, ih]; rfl
  exact this _
theorem turns_s2b {o : Oper} {src dst e : TypeId} {x : Operand} {x' : X} {b : ByteArray} (ho : o.op = .convert src dst x) (hs : P.underlying src = some .string) (hd : P.underlying dst = some (.slice e)) (he : P.underlying e = some (.int .u8))
    (hx : cX x = some x') (h : Rel F0 N w0 g F s a w) (hv : s.ev x' = .str b) : Turns P F0 N w0 o g s a w (.slice 1 (rowOf b) .no) s := by
  have kx := eval_of hx h
  rw [hv] at kx
  have kx : VR g (.str b) (a.eval x) := kx
  have hev : a.eval x = .string b := by
    generalize a.eval x = u at kx
    cases kx; rfl
  have hr := run_bytes_of_string (P := P) w src dst e b hs hd he
  have hcap := grownCap_ge w b.size 0 e
  generalize grownCap w b.size 0 e = cap at hr hcap
  obtain ⟨g', p1, p2, p3⟩ := (h.drew (w.drawn + 1)).litF (us := bytesRow b cap) e ((bytesRow b cap).size, (bytesRow b cap).size + 1)
  have hl : (bytesRow b cap).toList = (b.data.toList.map fun c => Value.int .u8 c.toNat) ++ List.replicate (cap - b.size) (.int .u8 0) := by simp [bytesRow]
  have hsz : b.data.toList.length = b.size := by rw [Array.length_toList]; rfl
  refine ⟨.slice (some ⟨w.heap.size, 0, none⟩) b.size cap, g', F, _, .inl (by simp only [execOp, ho, hev, Sem.run_bind, hr, Result.andThen_ok, Sem.run_pure]; rfl), .of p1 rfl rfl, VX.of_plain rfl ?_, p3⟩
  refine VR.slice (us := b.data.toList.map fun c => Value.int .u8 c.toNat) ?_ (fun i c u hc hu => ?_) (fun u hu => ?_) (fun y hy => ?_) ?_ hcap (fun i u hi => ?_) trivial
  · rw [rowOf_flat]; simp [rowOf]
  · rw [rowOf_flat] at hc
    simp only [rowOf, List.getElem?_map, Option.map_eq_some_iff] at hc hu
    obtain ⟨c1, h1, rfl⟩ := hc
    obtain ⟨c2, h2, rfl⟩ := hu
    rw [h1] at h2
    simp only [Option.some.injEq] at h2; subst h2
    exact .int _ _
  · simp only [List.mem_map] at hu
    obtain ⟨c, _, rfl⟩ := hu
    rfl
  · simp only [rowOf, List.mem_map] at hy
    obtain ⟨c, _, rfl⟩ := hy
    rfl
  · simp only [rowOf, List.length_map]; exact hsz.symm
  · refine p2 i u ?_
    rw [hl, List.getElem?_append_left (by have := (List.getElem?_eq_some_iff.1 hi).1; simpa using this)]
    exact hi

theorem bytesOf_sound {g : G} {xs : List AV} {us : List Value} {l : List UInt8} (h : bytesOf xs = some l) (k : VRs g (flat xs) us) : us = l.map fun c => Value.int .u8 c.toNat := by
  induction xs generalizing us l with
  | nil =>
    simp only [bytesOf, Option.some.injEq] at h; subst h
    exact List.eq_nil_of_length_eq_zero k.1.symm
  | cons x xs ih =>
    cases x <;> try (simp only [bytesOf, reduceCtorEq] at h; done)
    rename_i q n
    cases q <;> try (simp only [bytesOf, reduceCtorEq] at h; done)
    simp only [bytesOf] at h
    split at h <;> try contradiction
    rename_i hn
    split at h <;> try contradiction
    rename_i l' hl
    simp only [Option.some.injEq] at h; subst h
    obtain ⟨u, vs, rfl, h1, h2⟩ := VRs.uncons0 k
    cases h1
    rw [ih hl h2]
    simp only [List.map_cons, List.cons.injEq, and_true, Value.int.injEq, true_and]
    have : n.toNat < 256 := by omega
    rw [UInt8.toNat_ofNat', Nat.mod_eq_of_lt (by simpa using this)]
    omega
theorem yields_b2s {o : Oper} {src dst e : TypeId} {x : Operand} {x' : X} {sz : Nat} {xs : List AV} {own : Own} {l : List UInt8} (ho : o.op = .convert src dst x) (hs : P.underlying src = some (.slice e)) (hd : P.underlying dst = some .string) (he : P.underlying e = some (.int .u8))
    (hx : cX x = some x') (h : Rel F0 N w0 g F s a w) (hv : s.ev x' = .slice sz xs own) (hb : bytesOf xs = some l) : Yields P o g s a w (.str ⟨l.toArray⟩) := by
  have kx := eval_of hx h
  rw [hv] at kx
  have kx : VR g (.slice sz xs own) (a.eval x) := kx
  generalize hu : a.eval x = u at kx
  refine ⟨.string ⟨l.toArray⟩, ?_, VX.of_plain rfl (.str _)⟩
  simp only [execOp, ho, hu, Sem.run_bind]
  cases kx with
  | nils =>
    simp only [bytesOf, Option.some.injEq] at hb; subst hb
    rw [run_convert_bytes_nil w src e hs he 0 0 dst hd]
    rfl
  | @slice0 _ _ ad ho0 =>
    simp only [bytesOf, Option.some.injEq] at hb; subst hb
    have := run_convert_bytes_back (P := P) w src dst e ad 0 [] hs he hd (fun j hj => by simp at hj)
    simp only [List.length_nil] at this
    rw [this]
    rfl
  | @slice _ _ _ us b off n cap hl hh h1 hsz hn hc hf ho' =>
    have hus := bytesOf_sound hb ⟨hl, hh⟩
    have hlen : us.length = l.length := by rw [hus]; simp
    have hn2 : n = l.length := by
      rw [hn, ← hlen, ← hl]
      have : ∀ xs : List AV, (bytesOf xs).isSome = true → (flat xs).length = xs.length := by
        intro xs
        induction xs with
        | nil => intro _; rfl
        | cons y ys ih =>
          intro hh
          obtain ⟨l2, hl2⟩ := Option.isSome_iff_exists.1 hh
          cases y <;> try (simp only [bytesOf, reduceCtorEq] at hl2; done)
          rename_i q m
          cases q <;> try (simp only [bytesOf, reduceCtorEq] at hl2; done)
          simp only [bytesOf] at hl2
          split at hl2 <;> try contradiction
          split at hl2 <;> try contradiction
          rename_i l3 hl3
          simp only [flat, AV.cells, List.length_append, List.length_cons, List.length_nil]
          rw [ih (by rw [hl3]; rfl)]; omega
      exact (this xs (by rw [hb]; rfl)).symm
    rw [hn2]
    have hcell : ∀ j (hj : j < l.length), w.cell? ((⟨b, off, none⟩ : Addr).add j) = some (.int .u8 (l[j].toNat : Int)) := by
      intro j hj
      have h2 : us[j]? = some (Value.int .u8 (l[j].toNat : Int)) := by rw [hus]; simp [List.getElem?_eq_getElem hj]
      have := h.wr.fz _ _ _ (hf j _ h2)
      have hadd : (⟨b, off, none⟩ : Addr).add j = ⟨b, off + j, none⟩ := by unfold Addr.add; split <;> simp_all
      rw [hadd]; exact this
    rw [run_convert_bytes_back w src dst e ⟨b, off, none⟩ cap l hs he hd hcell]
    rfl
end
end Go.Proofs.YtohncbgkiojlnaaGreatDoor.Am
