/- Deferred calls: handlers that find nobody panicking. -/
import Derived.Test.YtohncbgkiojlnaaGreatDoorAm27
import Derived.RangeFuncRecord
import Derived.RecoverIn
set_option linter.unusedVariables false
set_option linter.unusedSimpArgs false
namespace Go.Proofs.YtohncbgkiojlnaaGreatDoor.Am
open Go.RowKit (Below)
open Go.MuLone

section
variable {P : Program} {F0 : Lab → Option HObj} {N : Nat} {w0 : World} {g : G} {F : Lab → Option HObj} {s s' : St} {a : Act} {w : World}

/-- An operation that is no call, with its guard. -/
theorem pureO_sound {call : Call} {modeOf : FuncId → Nat} {H : Hint} {draw : Bool} {ops : Array Oper} {o : Oper} {ao : AOper}
    (hc : Comp P modeOf H draw ops.toList a.tmps.size o ao) (hp : pureOp ao.op = true) (h : Rel F0 N w0 g F s a w) (hs : stepO call ao s = some s') :
    if Region.wanted o (yielded ops a.tmps) then ∃ u g' F' w', ((execOp a.eval o).run P w = .ok (.value u) w' ∨ (u = undef ∧ (execOp a.eval o).run P w = .ok .skip w')) ∧ Moves s s' g g' ∧ Rel F0 N w0 g' F' s' (a.put o.dst u) w'
    else ∃ g' F', Moves s s' g g' ∧ Rel F0 N w0 g' F' s' (a.put o.dst undef) w := by
  simp only [stepO] at hs
  split at hs <;> try contradiction
  · rename_i hw
    rw [wanted_sound hc h hw]
    rw [hc.dst] at hs
    obtain ⟨k1, k2⟩ := St.put_same hs
    exact ⟨g, F, .same g k1 k2, h.put VX.of_tuple0 hs (fun i hi => hc.fit i hi)⟩
  · rename_i hw
    rw [wanted_sound hc h hw]
    simp only [if_true]
    cases hap : apOk s ao with
    | false => rw [hap] at hs; simp at hs
    | true =>
      rw [hap] at hs
      simp only [Bool.not_true, cond_false] at hs
      split at hs <;> try contradiction
      rename_i v s1 hst
      rcases hc.op with ⟨k, hop, hpr⟩ | hop
      · have hpl' : plainOp ao.op = true := by
          cases hao : ao.op <;> rw [hao] at hp hpr <;> first
            | exact hpr
            | simp [pureOp] at hp
        have hs2 : s1.put ao.dst v = some s' := by
          cases hao : ao.op <;> rw [hao] at hs hpl' <;> first
            | exact hs
            | simp [plainOp] at hpl'
        obtain ⟨u, g', F', w', r1, r2, r3, r4⟩ := op_sound hop hpl' h hst
        rw [hc.dst] at hs2
        obtain ⟨k1, k2⟩ := St.put_same hs2
        exact ⟨u, g', F', w', r1, r2.trans (.same g' k1 k2), r4.put r3 hs2 (fun i hi => hc.fit i hi)⟩
      · rw [hop] at hst; simp [step] at hst

theorem opsS_sound {call : Call} {n : Nat} {modeOf : FuncId → Nat} {H : Hint} {ops : Array Oper} {aos : List AOper} {Q : Exit → Act → List Frame → World → Prop} {nt : Nat} {cs : List Frame} :
    ∀ (l : List Nat) {g : G} {F : Lab → Option HObj} {s s' : St} {a : Act} {w : World}, (∀ i ∈ l, ∃ o ao, ops[i]? = some o ∧ aos[i]? = some ao ∧ Comp P modeOf H false ops.toList nt o ao ∧ pureOp ao.op = true) → a.tmps.size = nt →
      Rel F0 N w0 g F s a w → runOps call (picked aos l) s = some s' →
      (∀ g' F' a' w', Moves s s' g g' → a'.tmps.size = nt → Rel F0 N w0 g' F' s' a' w' → Q .normal a' cs w') → wpOpsSIn Fence.wide n P ops Q l a cs w := by
  intro l
  induction l with
  | nil =>
    intro g F s s' a w hl hnt h hs hQ
    simp only [picked, List.filterMap_nil, runOps, Option.some.injEq] at hs
    subst hs
    exact hQ g F a w (.same g rfl rfl) hnt h
  | cons i l ih =>
    intro g F s s' a w hl hnt h hs hQ
    obtain ⟨o, ao, ho, hao, hcomp, hpure⟩ := hl i (by simp)
    simp only [picked, List.filterMap_cons, hao, runOps] at hs
    split at hs <;> try contradiction
    rename_i s1 hs1
    subst hnt
    have hk := pureO_sound hcomp hpure h hs1
    simp only [wpOpsSIn, ho]
    refine ⟨fun _ _ => trivial, ?_⟩
    split
    · rename_i hw
      rw [if_pos hw] at hk
      obtain ⟨u, g', F', w', r1, r2, r3⟩ := hk
      have hrest := ih (fun j hj => hl j (by simp [hj])) (put_size ..) r3 hs (fun g2 F2 a2 w2 hm2 hsz2 hrel2 => hQ g2 F2 a2 w2 (r2.trans hm2) hsz2 hrel2)
      rcases r1 with r1 | ⟨rfl, r1⟩
      · rw [r1]; exact hrest
      · rw [r1]; exact hrest
    · rename_i hw
      rw [if_neg hw] at hk
      obtain ⟨g', F', r2, r3⟩ := hk
      exact ih (fun j hj => hl j (by simp [hj])) (put_size ..) r3 hs (fun g2 F2 a2 w2 hm2 hsz2 hrel2 => hQ g2 F2 a2 w2 (r2.trans hm2) hsz2 hrel2)

/-- A frame's start. -/
theorem Rel.start {args : List AV} {us : List Value} {hp : Hp} {nt : Nat} (hr : HR g F w0 w hp) (hv : VRs g args us) :
    Rel F w.heap.size w0 g F ⟨Tr.nil.ofList 0 args, hp.h, hp.nx, hp.nx, hp.ro, []⟩ { tmps := us.toArray ++ Array.replicate (nt - us.toArray.size) undef, defers := [] } w := by
  have htm : ∀ (i : Nat) u, us[i]? = some u → (us.toArray ++ Array.replicate (nt - us.toArray.size) undef)[i]? = some u := by
    intro i u hu
    have hi := (List.getElem?_eq_some_iff.1 hu).1
    rw [Array.getElem?_append_left (by simpa using hi)]
    simpa using hu
  have hget : ∀ (i : Nat) v, (Tr.nil.ofList 0 args).get i = some v → args[i]? = some v := by
    intro i v hi
    rw [Tr.get_ofList] at hi
    split at hi
    · simpa using hi
    · simp [Tr.get_nil] at hi
  have hnp : ∀ (i : Nat) v, args[i]? = some v → isPlace v = false := by
    intro i v hi
    obtain ⟨u, k1, k2⟩ := hv.get hi
    exact k2.place
  refine ⟨⟨fun i v hi _ => ?_, fun i gen cs hi => ?_, fun i j gi ci gj cj b hi => ?_, fun i d off gen hi => ?_⟩, ⟨rfl, by simp⟩, hr.wr, hr.old, hr.hx, hr.fresh, hr.top, hr.ronx, Nat.le_refl _, ⟨fun _ _ _ h => h, fun _ _ _ h => h⟩, Nat.le_refl _⟩
  · obtain ⟨u, k1, k2⟩ := hv.get (hget i v hi)
    exact ⟨u, htm i u k1, k2⟩
  · have := hnp i _ (hget i _ hi); simp [isPlace] at this
  · have := hnp i _ (hget i _ hi); simp [isPlace] at this
  · have := hnp i _ (hget i _ hi); simp [isPlace] at this

theorem recoverD_returning {c : Frame} {cs : List Frame} (h : c.mode = .returning) : recoverD (c :: cs) = none := by simp [recoverD, h]

theorem handler_sound {C : Tab} {call : Call} (hcall : CSound P w0 call) (hcy : YSound P w0 call) {modeOf : FuncId → Nat} {H : Hint} {n m : Nat} {f : FuncId} {fn : AFunc} {fn0 : Func} (hC : C f = some fn) (hf : P.funcs[f]? = some fn0) (hcf : cFuncH P modeOf H fn0 = some fn)
    {args : List AV} {us : List Value} {hp hp' : Hp} (hs : callD C call n f args hp = some hp') (hgP : g.P = P) (hr : HR g F w0 w hp) (hv : VRs g args us) :
    (∃ fn0 c, P.funcs[f]? = some fn0 ∧ fn0.body = some c ∧ (fn0.name == "runtime.NumGoroutine") = false) ∧
    CallsDIn Fence.wide m P f us.toArray .returning w fun e u' w' => (∃ u, e = .returned u) ∧ u' = .returning ∧ BackD w0 g F hp hp' w w' := by
  simp only [callD, hC] at hs
  simp only [cFuncH] at hcf
  split at hcf <;> try contradiction
  rename_i id ops rest hbody
  split at hcf <;> try contradiction
  rename_i o0 os hops
  split at hcf <;> try contradiction
  rename_i d0 mm r b ks res hrec hco hcode hres
  rw [cond_some] at hcf
  obtain ⟨hchk, rfl⟩ := hcf
  simp only [Bool.and_eq_true, Nat.beq_eq, List.all_eq_true] at hchk
  obtain ⟨⟨⟨⟨hnt, hnp⟩, hname⟩, hd0⟩, hpure⟩ := hchk
  have hnp := Nat.le_of_ble_eq_true hnp
  have hd0 : d0 < H.nt := Nat.le_of_ble_eq_true hd0
  have hne : (fn0.name == "runtime.NumGoroutine") = false := by simpa using hname
  refine ⟨⟨fn0, _, hf, hbody, hne⟩, ?_⟩
  cases hl : ((len args).beq (fn0.params.size + fn0.nfree) && true) with
  | false => simp only [hl] at hs; simp at hs
  | true =>
    simp only [hl, cond_true] at hs
    simp only [Bool.and_eq_true, Nat.beq_eq, len_eq] at hl
    have hlen := hl.1
    have hul : us.length = args.length := hv.1.symm
    split at hs <;> try contradiction
    rename_i out s1 hno hex
    split at hs <;> try contradiction
    rename_i v1 hdf hvr
    simp only [Option.some.injEq] at hs
    subst hs
    simp only [exec] at hex
    -- the first region
    cases hro1 : runOps call ({ dst := some d0, guard := none, ap := [], op := .rcv, sh := .any } :: r) { e := Tr.nil.ofList 0 args, h := hp.h, nx := hp.nx + mm, rb := hp.nx, ro := hp.ro, df := [] } with
    | none => rw [hro1] at hex; simp at hex
    | some s2 =>
      rw [hro1] at hex
      simp only at hex
      simp only [runOps] at hro1
      split at hro1 <;> try contradiction
      rename_i s3 hs3
      refine callsDIn_of_wpSIn hf hbody trivial (fun c₀ cs hmode => ?_)
      have hrel0 := Rel.start (nt := fn0.ntmps) hr hv
      have hrel : Rel F w.heap.size w0 g F { e := Tr.nil.ofList 0 args, h := hp.h, nx := hp.nx + mm, rb := hp.nx, ro := hp.ro, df := [] } { tmps := us.toArray ++ Array.replicate (fn0.ntmps - us.toArray.size) undef, defers := [] } w :=
        ⟨hrel0.er, hrel0.df, hrel0.wr, hrel0.hp, hrel0.hx, hrel0.fresh, fun r hr => hrel0.top r (by simp at hr ⊢; omega), hrel0.rb, by simp, hrel0.frm, hrel0.big⟩
      have hsz0 : (us.toArray ++ Array.replicate (fn0.ntmps - us.toArray.size) undef).size = H.nt := by simp; omega
      refine wpSIn_seq (wpSIn_region ?_)
      have h0 : ops[0]? = some o0 := by
        have : ops.toList[0]? = some o0 := by rw [hops]; rfl
        simpa using this
      have hsize : ops.size = os.length + 1 := by
        have : ops.toList.length = os.length + 1 := by rw [hops]; rfl
        simpa using this
      rw [hsize, List.range_succ_eq_map]
      -- recover finds nobody
      have hrecop : ∃ cc, o0.op = .call cc ∧ cc.callee = .builtin .recover ∧ o0.guard = none ∧ o0.dst = some d0 := by
        simp only [isRecover] at hrec
        split at hrec <;> try contradiction
        rename_i cc d h1 h2 h3
        split at hrec <;> try contradiction
        rename_i h4
        simp only [Option.some.injEq] at hrec
        subst hrec
        exact ⟨cc, h1, h4, h2, h3⟩
      obtain ⟨⟨cal, cargs, cts⟩, e1, e2, e3, e4⟩ := hrecop
      simp only at e2
      subst e2
      have hrun : ∀ ρ : Operand → Value, (execOp ρ o0).run P w = .ok .recover w := by
        intro ρ
        obtain ⟨consts, ex⟩ := builtin_run e1 ρ
        rw [ex]
        rfl
      simp only [wpOpsSIn, h0]
      refine ⟨fun _ _ => trivial, ?_⟩
      have hw : Region.wanted o0 (yielded ops (us.toArray ++ Array.replicate (fn0.ntmps - us.toArray.size) undef)) = true := by simp [Region.wanted, e3]
      rw [if_pos hw, hrun]
      simp only [recoverD_returning hmode, e4]
      have hs3' : (St.put { e := Tr.nil.ofList 0 args, h := hp.h, nx := hp.nx + mm, rb := hp.nx, ro := hp.ro, df := [] } (some d0) .niliface) = some s3 := by
        simp only [stepO, wanted, apOk, Bool.not_true, cond_false, step] at hs3
        exact hs3
      have hrel3 := hrel.put (VX.of_plain rfl (VR.niliface (g := g))) hs3' (fun i hi => by simp only [Option.some.injEq] at hi; subst hi; rw [hsz0]; exact hd0)
      obtain ⟨k1, k2⟩ := St.put_same hs3'
      obtain ⟨hlr, hcomp⟩ := cOps_comp hco
      refine opsS_sound (call := call) (modeOf := modeOf) (H := H) (aos := { dst := some d0, guard := none, ap := [], op := .rcv, sh := .any } :: r) (nt := H.nt) _ (fun i hi => ?_) (by rw [put_size]; exact hsz0) hrel3 (s' := s2) ?_ (fun g2 F2 a2 w2 hm2 hsz2 hrel2 => ?_)
      · obtain ⟨j, hj, rfl⟩ := List.mem_map.1 hi
        have hj : j < os.length := by simpa using hj
        have hoj : os[j]? = some os[j] := List.getElem?_eq_getElem hj
        obtain ⟨ao, q1, q2⟩ := hcomp j _ hoj
        refine ⟨os[j], ao, ?_, by simpa using q1, q2, hpure ao (List.mem_of_getElem? q1)⟩
        have : ops.toList[j + 1]? = some os[j] := by rw [hops]; simp [hoj]
        simpa using this
      · have : picked ({ dst := some d0, guard := none, ap := [], op := .rcv, sh := .any } :: r) (List.map Nat.succ (List.range os.length)) = r := by
          have h9 := picked_range (aos := { dst := some d0, guard := none, ap := [], op := .rcv, sh := .any } :: r) (n := os.length + 1) (by simp [hlr])
          rw [List.range_succ_eq_map] at h9
          simp only [picked, List.filterMap_cons, List.getElem?_cons_zero, List.cons.injEq, true_and] at h9
          exact h9
        rw [this]
        exact hro1
      · -- the rest
        refine wpSIn_of_wpIn rfl ?_
        have hmv : Moves { e := Tr.nil.ofList 0 args, h := hp.h, nx := hp.nx, rb := hp.nx, ro := hp.ro, df := [] } s2 g g2 :=
          ⟨by have := hm2.ext; rw [k1] at this; exact this, by rw [hm2.ro, k1], by have := hm2.nx; rw [k2] at this; simp at this ⊢; omega⟩
        refine exec_sound (ro := none) hcall hcy (draw_runs call) rest hcode (.inl rfl) hex hsz2 (hm2.ext.le.prog.trans hgP) hrel2 (fun g' F' a' w' hm hsz hrel' => ?_)
        obtain ⟨u, r1, r2⟩ := results_sound (fn := fn0) hres hrel' hvr
        have hdn : a'.defers = [] := by
          have := hrel'.df.1
          rw [hdf] at this
          exact List.eq_nil_of_length_eq_zero this.symm
        have hmt := hmv.trans hm
        have hback : BackD w0 g F hp ⟨s1.h, s1.nx, s1.ro⟩ w w' := by
          have hro : s1.ro = hp.ro := hmt.ro
          refine ⟨g', F', hmt.ext, ⟨hrel'.wr, hrel'.hp, hrel'.hx, hrel'.fresh, hrel'.top, Nat.le_trans hrel'.rb hrel'.nx⟩, ?_, hro, hmt.nx, hrel'.big⟩
          have := hrel'.frm
          rw [hro] at this
          exact this
        have hc0 : ({ c₀ with mode := FrameMode.returning } : Frame) = c₀ := by rw [← hmode]
        cases out with
        | norm => exact ⟨hdn, .returning, by rw [hc0], u, r1, ⟨u, rfl⟩, rfl, hback⟩
        | ret => exact ⟨hdn, .returning, by rw [hc0], u, r1, ⟨u, rfl⟩, rfl, hback⟩
        | exit id => exact absurd rfl (hno id)
end
end Go.Proofs.YtohncbgkiojlnaaGreatDoor.Am
