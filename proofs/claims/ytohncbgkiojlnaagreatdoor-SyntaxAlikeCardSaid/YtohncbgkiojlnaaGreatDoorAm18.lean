/- A region's operations, one after the other. -/
import Derived.Test.YtohncbgkiojlnaaGreatDoorAm17
import Derived.Conc.EntryLaws
set_option linter.unusedVariables false
set_option linter.unusedSimpArgs false
namespace Go.Proofs.YtohncbgkiojlnaaGreatDoor.Am
open Go.RowKit (Below)

theorem cond_some_one {α : Type} {c : Bool} {x : Option α} {y : α} : (bif c then x else none) = some y ↔ c = true ∧ x = some y := by cases c <;> simp
theorem cond_some {α : Type} {c : Bool} {x y : α} : (bif c then some x else none) = some y ↔ c = true ∧ x = y := by cases c <;> simp
theorem cond_some' {α : Type} {c : Bool} {x y : α} : (bif c then none else some x) = some y ↔ c = false ∧ x = y := by cases c <;> simp

section
variable {P : Program} {F0 : Lab → Option HObj} {N : Nat} {w0 : World} {g : G} {F : Lab → Option HObj} {s s' : St} {a : Act} {w : World}

/-- What code is compiled to the operations that are not plain. -/
theorem cOp_shape {modeOf : FuncId → Nat} {H : Hint} {draw : Bool} {ops : List Oper} {k : Nat} {o : Oper} {op : AOp} (hc : cOp P modeOf H draw ops k o = some op) :
    plainOp op = provenOp op ∨ (∃ t d z, o.op = .alloc t ∧ o.dst = some d ∧ zeroT P t = some z ∧ op = .lal d z.cells) ∨
    (∃ t x d n x', o.op = .box t x ∧ o.dst = some d ∧ szT P t = some n ∧ cX x = some x' ∧ op = .lbx d n x') ∨
    (∃ f args ts m xs, o.op = .call { callee := .value (.func f), args := args, argTypes := ts } ∧ cXs args.toList = some xs ∧ op = .call m f xs) ∨
    (∃ t args ts m xs, o.op = .call { callee := .value (.tmp t), args := args, argTypes := ts } ∧ cXs args.toList = some xs ∧ op = .cav m (.t t) xs) ∨
    (∃ f args ts f' xs, o.op = .defer { callee := .value f, args := args, argTypes := ts } ∧ cX f = some f' ∧ cXs args.toList = some xs ∧ op = .dfr f' xs) := by
  unfold cOp at hc
  split at hc
  case h_4 =>
    rename_i t heq
    simp only [Option.bind_eq_bind, Option.bind_eq_some_iff] at hc
    obtain ⟨z, hz, hc⟩ := hc
    split at hc <;> try contradiction
    rename_i d hd
    cases hm : mem d H.loc with
    | true => rw [hm] at hc; simp only [cond_true, Option.some.injEq] at hc; exact .inr (.inl ⟨t, d, z, heq, hd, hz, hc.symm⟩)
    | false => rw [hm] at hc; simp only [cond_false, Option.some.injEq] at hc; subst hc; exact .inl rfl
  case h_5 =>
    rename_i t x heq
    simp only [Option.bind_eq_bind, Option.bind_eq_some_iff] at hc
    obtain ⟨n, hn, x', hx, hc⟩ := hc
    split at hc <;> try contradiction
    rename_i d hd
    cases hm : mem d H.loc with
    | true => rw [hm] at hc; simp only [cond_true, Option.some.injEq] at hc; exact .inr (.inr (.inl ⟨t, x, d, n, x', heq, hd, hn, hx, hc.symm⟩))
    | false => rw [hm] at hc; simp only [cond_false, Option.some.injEq] at hc; subst hc; exact .inl rfl
  case h_29 =>
    rename_i c heq
    obtain ⟨callee, args, ts⟩ := c
    simp only at hc
    split at hc
    case h_6 =>
      simp only [Option.bind_eq_bind, Option.bind_eq_some_iff, Option.some.injEq] at hc
      obtain ⟨xs, hx, hc⟩ := hc
      exact .inr (.inr (.inr (.inl ⟨_, args, ts, _, xs, heq, hx, hc.symm⟩)))
    case h_7 =>
      simp only [Option.bind_eq_bind, Option.bind_eq_some_iff, Option.some.injEq] at hc
      obtain ⟨xs, hx, hc⟩ := hc
      exact .inr (.inr (.inr (.inr (.inl ⟨_, args, ts, _, xs, heq, hx, hc.symm⟩))))
    all_goals
      left
      repeat' (first
        | contradiction
        | (simp only [Option.bind_eq_bind, Option.bind_eq_some_iff, Option.map_eq_some_iff, Option.some.injEq, cond_some, cond_some'] at hc)
        | (obtain ⟨_, _, hc⟩ := hc)
        | (split at hc))
      all_goals first
        | contradiction
        | rfl
        | (subst hc; rfl)
        | (obtain ⟨_, hc⟩ := hc; subst hc; rfl)
  case h_30 =>
    rename_i c heq
    obtain ⟨callee, args, ts⟩ := c
    simp only at hc
    split at hc <;> try contradiction
    simp only [Option.bind_eq_bind, Option.bind_eq_some_iff, Option.some.injEq] at hc
    obtain ⟨f', hf, xs, hx, hc⟩ := hc
    exact .inr (.inr (.inr (.inr (.inr ⟨_, args, ts, f', xs, heq, hf, hx, hc.symm⟩))))
  all_goals
    left
    repeat' (first
      | contradiction
      | (simp only [Option.bind_eq_bind, Option.bind_eq_some_iff, Option.map_eq_some_iff, Option.some.injEq, cond_some, cond_some'] at hc)
      | (obtain ⟨_, _, hc⟩ := hc)
      | (split at hc))
    all_goals first
      | contradiction
      | rfl
      | (subst hc; rfl)
      | (cases draw <;> first | rfl | (cases elemental P ops 64 _ <;> rfl))

/-- What an operation and its compiled one have to do with each other. -/
structure Comp (P : Program) (modeOf : FuncId → Nat) (H : Hint) (draw : Bool) (all : List Oper) (nt : Nat) (o : Oper) (ao : AOper) : Prop where
  dst : ao.dst = o.dst
  fit : ∀ d, o.dst = some d → d < nt
  op : (∃ k, cOp P modeOf H draw all k o = some ao.op ∧ provenOp ao.op = true) ∨ ao.op = .fail
  guard : match o.guard with
    | none => ao.guard = none
    | some (j, b) => ∃ oj d, all[j]? = some oj ∧ oj.dst = some d ∧ ao.guard = some (d, b)

theorem VX.of_tuple0 {g : G} {e : Tr AV} {tmps : Array Value} : VX g e tmps (.tuple []) undef := VX.of_plain rfl (VR.tuple (us := []) rfl (by simp))

theorem wanted_sound {ao : AOper} {o : Oper} {ops : Array Oper} {modeOf : FuncId → Nat} {H : Hint} {draw : Bool} {nt : Nat} {b : Bool} (hc : Comp P modeOf H draw ops.toList nt o ao) (h : Rel F0 N w0 g F s a w) (hw : wanted s ao.guard = some b) :
    Region.wanted o (yielded ops a.tmps) = b := by
  have hg := hc.guard
  cases hog : o.guard with
  | none =>
    rw [hog] at hg
    simp only at hg
    rw [hg] at hw
    simp only [wanted, Option.some.injEq] at hw
    subst hw
    simp [Region.wanted, hog]
  | some jb =>
    obtain ⟨j, want⟩ := jb
    rw [hog] at hg
    simp only at hg
    obtain ⟨oj, d, h1, h2, h3⟩ := hg
    have h1' : ops[j]? = some oj := by simpa using h1
    rw [h3] at hw
    simp only [wanted] at hw
    have hy : ∀ u, a.tmps[d]? = some u → yielded ops a.tmps j = (match u with | .bool c => some c | _ => none) := by
      intro u hu
      simp only [yielded, h1', h2, hu, Option.bind_some]
      cases u <;> rfl
    split at hw <;> simp only [reduceCtorEq, Option.some.injEq] at hw
    · rename_i c hc'
      obtain ⟨u, k1, k2⟩ := h.er.val d _ hc' rfl
      cases k2
      subst hw
      simp only [Region.wanted, hog, hy _ k1]
      cases want <;> cases c <;> rfl
    · rename_i hc'
      obtain ⟨u, k1, k2⟩ := h.er.val d _ hc' rfl
      cases k2 with
      | tuple hl hh =>
        subst hw
        simp only [Region.wanted, hog, hy _ k1]
        rfl

theorem put_size (a : Act) (d : Option Tmp) (v : Value) : (a.put d v).tmps.size = a.tmps.size := by
  cases d <;> simp [Act.put]

theorem St.put_same {s s' : St} {d : Option Nat} {v : AV} (h : s.put d v = some s') : s'.ro = s.ro ∧ s'.nx = s.nx := by
  cases d with
  | none => simp only [St.put, Option.some.injEq] at h; subst h; exact ⟨rfl, rfl⟩
  | some d =>
    simp only [St.put] at h
    split at h <;> simp only [reduceCtorEq, Option.some.injEq] at h
    subst h; exact ⟨rfl, rfl⟩

theorem evs_sound {args : Array Operand} {xs : List X} (hx : cXs args.toList = some xs) (h : Rel F0 N w0 g F s a w) : VRs g (s.evs xs) (args.map a.eval).toList := by
  rw [Array.toList_map]
  exact cXs_sound (P := default) hx h.er

theorem func_of {x : Operand} {x' : X} (hx : cX x = some x') (h : Rel F0 N w0 g F s a w) {f : FuncId} {caps : List AV} (he : s.ev x' = .func f caps) :
    ∃ cu : List Value, a.eval x = .func (.func f) #[] cu.toArray ∧ VRs g caps cu := by
  have k := eval_of hx h
  rw [he] at k
  have k : VR g (.func f caps) (a.eval x) := k
  generalize a.eval x = u at k
  cases k with
  | func hl hh => exact ⟨_, rfl, hl, hh⟩

theorem stepO_sound {call : Call} (hcall : CSound P w0 call) (hcy : YSound P w0 call) {ro : Option Nat} {n : Nat} {modeOf : FuncId → Nat} {H : Hint} {draw : Bool} {ops : Array Oper} {o : Oper} {ao : AOper} {Q : Exit → Act → World → Prop} {next : Act → World → Prop}
    (hc : Comp P modeOf H draw ops.toList a.tmps.size o ao) (hro : ro = none ∨ isDfr ao.op = false) (hgP : g.P = P) (h : Rel F0 N w0 g F s a w) (hs : stepO call ao s = some s')
    (hn : ∀ g' F' a' w', Moves s s' g g' → a'.tmps.size = a.tmps.size → Rel F0 N w0 g' F' s' a' w' → next a' w') :
    if Region.wanted o (yielded ops a.tmps) then o.wpIn (Fw ro) n P a w next Q else (∀ f, o.about P w a.eval = some f → (Fw ro).fn f) ∧ next (a.put o.dst undef) w := by
  simp only [stepO] at hs
  split at hs <;> try contradiction
  · rename_i hw
    rw [wanted_sound hc h hw]
    rw [hc.dst] at hs
    obtain ⟨k1, k2⟩ := St.put_same hs
    exact ⟨fun _ _ => trivial, hn g F _ w (.same g k1 k2) (put_size ..) (h.put VX.of_tuple0 hs (fun i hi => hc.fit i hi))⟩
  · rename_i hw
    rw [wanted_sound hc h hw]
    simp only [if_true]
    cases hap : apOk s ao with
    | false => rw [hap] at hs; simp at hs
    | true =>
      rw [hap] at hs
      simp only [Bool.not_true, cond_false] at hs
      split at hs <;> try contradiction
      rename_i v s1 hst
      refine ⟨fun _ _ => trivial, ?_⟩
      rcases hc.op with ⟨k, hop, hpr⟩ | hop
      · have plain : ∀ {T : Prop}, True → True := fun _ => trivial
        rcases cOp_shape hop with hpl | ⟨t, d, z, e1, e2, e3, e4⟩ | ⟨t, x, d, n0, x', e1, e2, e3, e4, e5⟩ | ⟨f, args, ts, m, xs, e1, e2, e3⟩ | ⟨t, args, ts, m, xs, e1, e2, e3⟩ | ⟨f, args, ts, f', xs, e1, e2, e3, e4⟩
        · have hpl' : plainOp ao.op = true := by rw [hpl]; exact hpr
          have hs2 : s1.put ao.dst v = some s' := by
            cases hao : ao.op <;> rw [hao] at hs hpl' <;> first
              | exact hs
              | simp [plainOp] at hpl'
          obtain ⟨u, g', F', w', r1, r2, r3, r4⟩ := op_sound hop hpl' h hst
          rw [hc.dst] at hs2
          obtain ⟨k1, k2⟩ := St.put_same hs2
          have hnd : ∀ c, o.op ≠ .defer c := by
            intro c hdc
            unfold cOp at hop
            rw [hdc] at hop
            simp only at hop
            split at hop <;> try contradiction
            simp only [Option.bind_eq_bind, Option.bind_eq_some_iff, Option.some.injEq] at hop
            obtain ⟨_, _, _, _, hop⟩ := hop
            rw [← hop] at hpl'
            simp [plainOp] at hpl'
          rw [Oper.semAt_eq _ _ _ hnd]
          have hm : Moves s s' g g' := r2.trans (.same g' k1 k2)
          have hrel := r4.put r3 hs2 (fun i hi => hc.fit i hi)
          rcases r1 with r1 | ⟨rfl, r1⟩
          · rw [r1]; exact hn g' F' _ w' hm (put_size ..) hrel
          · rw [r1]; exact hn g' F' _ w' hm (put_size ..) hrel
        · rw [e4] at hst hs
          simp only [step, Option.some.injEq, Prod.mk.injEq] at hst
          obtain ⟨rfl, rfl⟩ := hst
          simp only [Option.some.injEq] at hs
          subst hs
          obtain ⟨i, zv, z1, z2, z3, z4, z5⟩ := zeroT_sound g e3
          obtain ⟨g', l1, l2⟩ := h.lay (t := t) z4 z5 (hc.fit d e2)
          rw [Oper.semAt_eq _ _ _ (by rw [e1]; simp)]
          have hrun : (execOp a.eval o).run P w = .ok (.value (ptrV w.heap.size 0)) (addB w (.cells zv.cells.toList.toArray t)) := by
            simp only [execOp, e1, Instr.alloc, Sem.run_bind, zeroValue_run z1 z2, Result.andThen_ok, newVar, newRow_run, Sem.run_pure, Array.toArray_toList]
            rfl
          rw [hrun, Oper.uponIn_value, e2]
          refine hn g' _ _ _ (.of l1 ?_ ?_) (put_size ..) l2
          · simp only [St.lay]; split <;> rfl
          · simp only [St.lay]; split <;> rfl
        · rw [e5] at hst hs
          simp only [step] at hst
          split at hst <;> try contradiction
          rename_i u hu
          rw [cond_some] at hst
          simp only [Prod.mk.injEq] at hst
          obtain ⟨_, rfl, rfl⟩ := hst
          simp only [Option.some.injEq] at hs
          subst hs
          obtain ⟨_, z3, z4, z5⟩ := (eval_of e4 h).told hu
          obtain ⟨g', l1, l2⟩ := h.lay (t := t) z4 z5 (hc.fit d e2)
          rw [Oper.semAt_eq _ _ _ (by rw [e1]; simp)]
          have hrun : (execOp a.eval o).run P w = .ok (.value (ptrV w.heap.size 0)) (addB w (.cells (a.eval x).cells.toList.toArray t)) := by
            simp only [execOp, e1, Instr.box, Sem.run_bind, Result.andThen_ok, newVar, newRow_run, Sem.run_pure, Array.toArray_toList]
            rfl
          rw [hrun, Oper.uponIn_value, e2]
          refine hn g' _ _ _ (.of l1 ?_ ?_) (put_size ..) l2
          · simp only [St.lay]; split <;> rfl
          · simp only [St.lay]; split <;> rfl
        · rw [e3] at hst hs hpr
          simp only [step] at hst
          rw [cond_some_one] at hst
          obtain ⟨hff, hst⟩ := hst
          have hff : f < ycode := Nat.le_of_ble_eq_true hff
          have hs2 : s1.put ao.dst v = some s' := hs
          rw [hc.dst] at hs2
          obtain ⟨k1, k2⟩ := St.put_same hs2
          have hd := doCall_sound hcall hff hgP (Nat.le_of_ble_eq_true hpr) hst h (evs_sound e2 h)
          simp only [Array.toArray_toList] at hd
          rw [Oper.semAt_eq _ _ _ (by rw [e1]; simp), Go.Conc.execOp_call_func e1]
          rcases hd with ⟨d1, d2⟩ | ⟨u, w', d1, g', F', d2, d3, d4, d5⟩
          · rw [d1, Oper.uponIn_enter]
            refine ⟨fun h => by simp [Fw, Fence.wide] at h, CallsIn.more (CallsIn.mono (R := _) d2 fun e w' ⟨u, eu, g', F', d2, d3, d4, d5⟩ => ?_) (Nat.zero_le _)⟩
            subst eu
            exact hn g' F' _ w' (d2.trans (.same g' k1 k2)) (put_size ..) (d5.put (VX.of_plain d3.place d3) hs2 (fun i hi => hc.fit i hi))
          · rw [d1, Oper.uponIn_value]
            exact hn g' F' _ w' (d2.trans (.same g' k1 k2)) (put_size ..) (d5.put (VX.of_plain d3.place d3) hs2 (fun i hi => hc.fit i hi))
        · rw [e3] at hst hs hpr
          simp only [step] at hst
          have hs2 : s1.put ao.dst v = some s' := hs
          rw [hc.dst] at hs2
          obtain ⟨k1, k2⟩ := St.put_same hs2
          split at hst <;> try contradiction
          · rename_i gf caps hev
            obtain ⟨cu, hfu, hcaps⟩ := func_of (x := .tmp t) rfl h hev
            rw [cond_some_one, app_eq] at hst
            obtain ⟨hff, hst⟩ := hst
            have hff : gf < ycode := Nat.le_of_ble_eq_true hff
            have hd := doCall_sound hcall hff hgP (Nat.le_of_ble_eq_true hpr) hst h ((evs_sound e2 h).append hcaps)
            have hex : execOp a.eval o = callFunc gf ((args.map a.eval).toList ++ cu).toArray := by
              simp only [execOp, e1, resolve, hfu, Deferred.ofValue, pure_bind, invoke]
              congr 1
              apply Array.ext'
              simp
            rw [Oper.semAt_eq _ _ _ (by rw [e1]; simp), hex]
            rcases hd with ⟨d1, d2⟩ | ⟨u, w', d1, g', F', d2, d3, d4, d5⟩
            · rw [d1, Oper.uponIn_enter]
              refine ⟨fun h => by simp [Fw, Fence.wide] at h, CallsIn.more (CallsIn.mono (R := _) d2 fun e w' ⟨u, eu, g', F', d2, d3, d4, d5⟩ => ?_) (Nat.zero_le _)⟩
              subst eu
              exact hn g' F' _ w' (d2.trans (.same g' k1 k2)) (put_size ..) (d5.put (VX.of_plain d3.place d3) hs2 (fun i hi => hc.fit i hi))
            · rw [d1, Oper.uponIn_value]
              exact hn g' F' _ w' (d2.trans (.same g' k1 k2)) (put_size ..) (d5.put (VX.of_plain d3.place d3) hs2 (fun i hi => hc.fit i hi))
          · rename_i l hev
            split at hst <;> try contradiction
            split at hst <;> try contradiction
            rename_i v1 hp1 hcl
            simp only [Option.some.injEq, Prod.mk.injEq] at hst
            obtain ⟨rfl, rfl⟩ := hst
            have kx := eval_of (x := .tmp t) (x' := .t t) rfl h
            rw [hev] at kx
            have kx : VR g (.yield l) (a.eval (.tmp t)) := kx
            generalize hux : a.eval (.tmp t) = ux at kx
            cases kx with
            | @yield _ b xx hloc =>
              have hr0 : HR g F w0 w ⟨s.h, s.nx, s.ro⟩ := ⟨h.wr, h.hp, h.hx, h.fresh, h.top, Nat.le_trans h.rb h.nx⟩
              obtain ⟨f1, tmps1, A, B, y1, y2⟩ := hcy.1 l _ _ v1 hp1 hcl g F _ w b xx hgP hr0 (evs_sound e2 h) hloc
              simp only [Array.toArray_toList] at y1
              have hex : execOp a.eval o = Instr.yield b (args.map a.eval) := by
                simp only [execOp, e1, resolve, hux, Deferred.ofValue, pure_bind, invoke]
                congr 1
                apply Array.ext'
                simp
              rw [Oper.semAt_eq _ _ _ (by rw [e1]; simp), hex, y1, Oper.uponIn_round]
              refine ⟨fun h => by simp [Fw, Fence.wide] at h, trivial, fun c cs hroom => ?_⟩
              obtain ⟨e, w', ⟨u, eu, hb⟩, hst2⟩ := y2.2 c cs (room_wide _)
              subst eu
              obtain ⟨g', F', m1, m2, m3⟩ := h.behind hb
              exact ⟨.returned u, w', hn g' F' _ w' (m1.trans (.same g' k1 k2)) (put_size ..) (m3.put (VX.of_plain m2.place m2) hs2 (fun i hi => hc.fit i hi)), hst2⟩
        · rw [e4] at hst hs hro
          simp only [isDfr, Bool.true_eq_false, or_false] at hro
          subst hro
          simp only [step] at hst
          have hs2 : s1.put ao.dst v = some s' := hs
          rw [hc.dst] at hs2
          obtain ⟨k1, k2⟩ := St.put_same hs2
          split at hst <;> try contradiction
          rename_i gf caps hev
          simp only [Option.some.injEq, Prod.mk.injEq, app_eq] at hst
          obtain ⟨rfl, rfl⟩ := hst
          obtain ⟨cu, hfu, hcaps⟩ := func_of e2 h hev
          have hex : (Oper.semAt none a.eval o).run P w = .ok (.defer { target := .fn (.func gf) cu.toArray, args := #[] ++ args.map a.eval }) w := by
            rw [Oper.semAt_none]
            simp only [execOp, e1, resolve, hfu, Deferred.ofValue, pure_bind, Sem.run_pure]
          have hro2 : (Fw none).round = none := rfl
          rw [hro2, hex, Oper.uponIn_defer]
          have hrel : Rel F0 N w0 g F { s with df := .call gf (s.evs xs ++ caps) :: s.df } { a with defers := { target := .fn (.func gf) cu.toArray, args := #[] ++ args.map a.eval } :: a.defers } w := by
            refine ⟨h.er, ⟨by simp [h.df.1], fun i e2 d2 hi1 hi2 => ?_⟩, h.wr, h.hp, h.hx, h.fresh, h.top, h.rb, h.nx, h.frm, h.big⟩
            cases i with
            | zero =>
              simp only [List.getElem?_cons_zero, Option.some.injEq] at hi1 hi2
              subst hi1
              subst hi2
              refine ⟨cu.toArray, rfl, ?_⟩
              have := (evs_sound e3 h).append hcaps
              simpa using this
            | succ i =>
              simp only [List.getElem?_cons_succ] at hi1 hi2
              exact h.df.2 i e2 d2 hi1 hi2
          exact hn g F _ w (.same g k1 k2) (put_size ..) (hrel.put (VX.of_plain rfl (VR.undef _)) hs2 (fun i hi => hc.fit i hi))
      · rw [hop] at hst; simp [step] at hst
end
end Go.Proofs.YtohncbgkiojlnaaGreatDoor.Am
