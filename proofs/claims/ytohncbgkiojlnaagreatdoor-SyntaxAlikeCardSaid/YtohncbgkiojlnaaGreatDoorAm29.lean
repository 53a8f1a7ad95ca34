/- Functions left with deferred calls; calls to any depth. -/
import Derived.Test.YtohncbgkiojlnaaGreatDoorAm28
set_option linter.unusedVariables false
set_option linter.unusedSimpArgs false
namespace Go.Proofs.YtohncbgkiojlnaaGreatDoor.Am
open Go.RowKit (Below)
open Go.MuLone

theorem cond_some_ite {α : Type} {c d : Bool} {x : Option α} {y : α} : (bif c && d then x else none) = some y ↔ d = true ∧ c = true ∧ x = some y := by cases c <;> cases d <;> simp

section
variable {P : Program} {F0 : Lab → Option HObj} {N : Nat} {w0 : World} {g : G} {F : Lab → Option HObj} {s s' : St} {a : Act} {w : World}

/-- A table holds compiled functions alone. -/
def TabOk (P : Program) (C : Tab) : Prop := ∀ f fn, C f = some fn → ∃ fn0 modeOf H, P.funcs[f]? = some fn0 ∧ ((fn.handler = false ∧ cFunc P modeOf H fn0 = some fn) ∨ (fn.handler = true ∧ cFuncH P modeOf H fn0 = some fn))

theorem leaves_sound {C : Tab} (hC : TabOk P C) {call : Call} (hcall : CSound P w0 call) (hcy : YSound P w0 call) {n m : Nat} {fn : Func} {tmps : Array Value} {R : Ending → World → Prop} : ∀ (ds : List Df) (vs : List Deferred) {hp hp1 : Hp} {g : G} {F : Lab → Option HObj} {w : World},
    g.P = P → DfR g ds vs → HR g F w0 w hp → runDf (callD C call n) ds hp = some hp1 →
    (∀ w', BackD w0 g F hp hp1 w w' → LeavesInM Fence.wide m P fn tmps R [] .returning w') → LeavesInM Fence.wide m P fn tmps R vs .returning w := by
  intro ds
  induction ds with
  | nil =>
    intro vs hp hp1 g F w hgP hd hr hs hQ
    have : vs = [] := List.eq_nil_of_length_eq_zero hd.1.symm
    subst this
    simp only [runDf, Option.some.injEq] at hs
    subst hs
    exact hQ w ⟨g, F, G.ext.refl _ g, hr, ⟨fun _ _ _ h => h, fun _ _ _ h => h⟩, rfl, Nat.le_refl _, Nat.le_refl _⟩
  | cons d ds ih =>
    intro vs hp hp1 g F w hgP hd hr hs hQ
    cases vs with
    | nil => have := hd.1; simp at this
    | cons dv vs =>
      have hdt : ∀ {g' : G}, g.le g' → DfR g' ds vs := fun k => ⟨by have := hd.1; simpa using this, fun i e2 d2 h1 h2 => (hd.2 (i + 1) e2 d2 (by simpa using h1) (by simpa using h2)).mono k⟩
      have hd0 := hd.2 0 d dv rfl rfl
      cases d with
      | mark r =>
        obtain ⟨b, x, e1, e2⟩ := hd0
        simp only [runDf] at hs
        split at hs <;> try contradiction
        rename_i hget
        rw [cond_some_one] at hs
        obtain ⟨hro, hs⟩ := hs
        have hro := Nat.le_of_ble_eq_true hro
        obtain ⟨b2, q1, q2, q3⟩ := hr.wr.obj _ _ (hr.old r _ hget)
        simp only [G.at_] at q1
        rw [e2] at q1
        simp only [Option.some.injEq, Prod.mk.injEq] at q1
        obtain ⟨rfl, _, rfl⟩ := q1
        have q2 : w.heap[b]? = some (.deferred (some [])) := q2
        have hb := hr.turn hget hro q2 (by simp) q3 (ob' := .deferred none) (o' := .dblk false) ⟨b, e2, by rw [setB_get, if_pos rfl, if_pos (lt_of_get q2)]; rfl, q3⟩
        refine ⟨by simp, .inl ⟨b, setB w b (.deferred none), e1, run_takeDeferred q2, ?_⟩⟩
        obtain ⟨g', F', b1, b2, b3, b4, b5, b6⟩ := hb
        exact ih vs (b1.le.prog.trans hgP) (hdt b1.le) b2 hs (fun w2 hb2 => hQ w2 (hb2.trans b1 b3 b4 b5 b6))
      | call f args =>
        simp only [runDf] at hs
        split at hs <;> try contradiction
        rename_i hp2 hcd
        obtain ⟨cap, e1, e2⟩ := hd0
        have hcf : ∃ fn, C f = some fn ∧ fn.handler = true := by
          simp only [callD] at hcd
          split at hcd <;> try contradiction
          rename_i fn hfn
          rw [cond_some_ite] at hcd
          exact ⟨fn, hfn, hcd.1⟩
        obtain ⟨fna, hfn, hh⟩ := hcf
        obtain ⟨fn0, modeOf, H, hf, hcase⟩ := hC f fna hfn
        rcases hcase with ⟨hx, _⟩ | ⟨_, hcfh⟩
        · rw [hh] at hx; cases hx
        · obtain ⟨⟨fn1, c1, q1, q2, q3⟩, q4⟩ := handler_sound (m := m - 1) hcall hcy hfn hf hcfh hcd hgP hr e2
          refine ⟨by simp, .inr ⟨fun h => by simp [Fence.wide] at h, .func f, cap, f, dv.args ++ cap, e1, ?_, fun _ _ => trivial, ?_⟩⟩
          · rw [e1]
            simp only [invoke]
            exact run_callFunc_enter q1 q3 q2 _ _
          · have q4' := q4
            simp only [Array.toArray_toList] at q4'
            refine CallsDIn.mono q4' fun e u' w' hb => ?_
            obtain ⟨⟨u, rfl⟩, rfl, g', F', b1, b2, b3, b4, b5, b6⟩ := hb
            exact ih vs (b1.le.prog.trans hgP) (hdt b1.le) b2 hs (fun w2 hb2 => hQ w2 (hb2.trans b1 b3 b4 b5 b6))


theorem callF_sound {C : Tab} (hC : TabOk P C) {call : Call} (hcall : CSound P w0 call) (hcy : YSound P w0 call) {n : Nat} {f : FuncId} {args : List AV} {hp hp' : Hp} {v : AV} (hs : callF C call n f args hp = some (v, hp')) {us : List Value} (hgP : g.P = P) (hr : HR g F w0 w hp)
    (hv : VRs g args us) : (callFunc f us.toArray).run P w = .ok (.enter f us.toArray) w ∧ CallsIn Fence.wide 0 P f us.toArray w fun e w' => ∃ u, e = .returned u ∧ Back w0 g F hp hp' w v u w' := by
  simp only [callF] at hs
  split at hs <;> try contradiction
  rename_i fn hfn
  obtain ⟨fn0, modeOf, H, hf, hcase⟩ := hC f fn hfn
  cases hl : ((len args).beq fn.np && !fn.handler) with
  | false => rw [hl] at hs; simp at hs
  | true =>
    rw [hl] at hs
    simp only [cond_true] at hs
    simp only [Bool.and_eq_true, Nat.beq_eq, len_eq, Bool.not_eq_true'] at hl
    obtain ⟨hlen, hnh⟩ := hl
    have hcf : cFunc P modeOf H fn0 = some fn := by
      rcases hcase with ⟨_, h⟩ | ⟨hx, _⟩
      · exact h
      · rw [hnh] at hx; cases hx
    simp only [cFunc, Option.bind_eq_bind, Option.bind_eq_some_iff] at hcf
    obtain ⟨c, hbody, ⟨ac, ks⟩, hcode, rs, hres, hcf⟩ := hcf
    rw [cond_some'] at hcf
    obtain ⟨hchk, rfl⟩ := hcf
    simp only [Bool.not_eq_false', Bool.and_eq_true, Nat.beq_eq] at hchk
    obtain ⟨⟨hnt, hnp⟩, hname⟩ := hchk
    have hnp := Nat.le_of_ble_eq_true hnp
    have hul : us.length = args.length := hv.1.symm
    split at hs <;> try contradiction
    rename_i out s1 hno hex
    split at hs <;> try contradiction
    rename_i hp1 hdf
    split at hs <;> try contradiction
    rename_i v1 hvr
    simp only [Option.some.injEq, Prod.mk.injEq] at hs
    obtain ⟨rfl, rfl⟩ := hs
    have hne : (fn0.name == "runtime.NumGoroutine") = false := by simpa using hname
    refine ⟨run_callFunc_enter hf hne hbody _ _, ?_⟩
    refine callsIn_of_wp_marks hf hbody trivial ?_
    simp only at hlen
    refine exec_sound (ro := none) hcall hcy (draw_runs _) c hcode (.inl rfl) hex (by simp; omega) hgP (Rel.start hr hv) (fun g' F' a' w' hm hsz hrel' => ?_)
    have hhr : HR g' F' w0 w' ⟨s1.h, s1.nx, s1.ro⟩ := ⟨hrel'.wr, hrel'.hp, hrel'.hx, hrel'.fresh, hrel'.top, Nat.le_trans hrel'.rb hrel'.nx⟩
    have hleave : LeavesInM Fence.wide 0 P fn0 a'.tmps (fun e w' => ∃ u, e = .returned u ∧ Back w0 g F hp hp1 w v1 u w') a'.defers .returning w' := by
      refine leaves_sound hC hcall hcy s1.df a'.defers (hm.ext.le.prog.trans hgP) hrel'.df hhr hdf (fun w2 hb => ?_)
      obtain ⟨g2, F2, m2, hro2, hrel2⟩ := hrel'.after hb
      obtain ⟨u, r1, r2⟩ := results_sound (fn := fn0) hres hrel2 hvr
      have hmt := hm.trans m2
      have hro : hp1.ro = hp.ro := by rw [hro2]; exact hm.ro
      have hro' : s1.ro = hp.ro := hm.ro
      refine ⟨u, r1, u, rfl, g2, F2, hmt.ext, r2, ⟨hrel2.wr, hrel2.hp, fun r hr => hrel2.hx r ?_, fun r hr => hrel2.fresh r ?_, hrel2.top, ?_⟩, ?_, hro, hmt.nx, hrel2.big⟩
      · rw [hro2] at hr; exact hr
      · rw [hro2] at hr; exact hr
      · rw [hro2]; exact Nat.le_trans hrel2.rb hrel2.nx
      · have := hrel2.frm
        simp only [hro'] at this
        exact this
    cases out with
    | norm => exact hleave
    | ret => exact hleave
    | exit id => exact absurd rfl (hno id)

theorem callY_sound {call : Call} (hcall : CSound P w0 call) (hcy : YSound P w0 call) {n l : Nat} {args : List AV} {hp hp' : Hp} {v : AV} (hs : callY call n l args hp = some (v, hp')) {us : List Value} {b x : Nat} (hgP : g.P = P) (hr : HR g F w0 w hp)
    (hv : VRs g args us) (hloc : g.loc l 0 = some (b, 0, x)) :
    ∃ f tmps A B, (Instr.yield b us.toArray).run P w = .ok (.round b f tmps A B) w ∧ RoundIn Fence.wide 0 P b f tmps A B w fun e w' => ∃ u, e = .returned u ∧ Back w0 g F hp hp' w v u w' := by
  simp only [callY] at hs
  split at hs <;> try contradiction
  rename_i f ps e A B aA aB hget
  rw [cond_some_one] at hs
  obtain ⟨hchk, hs⟩ := hs
  simp only [Bool.and_eq_true, Nat.beq_eq, len_eq] at hchk
  obtain ⟨hro, hlen⟩ := hchk
  have hro := Nat.le_of_ble_eq_true hro
  split at hs <;> try contradiction
  rename_i s1 hexA
  split at hs <;> try contradiction
  rename_i f1 p1 e1 A1 B1 a1 b1 hg1
  split at hs <;> try contradiction
  rename_i s2 hexB
  split at hs <;> try contradiction
  rename_i f2 p2 e2 A2 B2 a2 b2 hg2
  simp only [Option.some.injEq, Prod.mk.injEq] at hs
  obtain ⟨rfl, rfl⟩ := hs
  obtain ⟨bb, rec, q1, q2, q3, ⟨c1, c2, c3, c4, c5, c6⟩, q5, modeOf, H, k1, k2, k3, k4, cc1, cc2, cnt, nd1, nd2⟩ := hr.wr.obj _ _ (hr.old l _ hget)
  simp only [G.at_] at q1
  rw [hloc] at q1
  simp only [Option.some.injEq, Prod.mk.injEq] at q1
  obtain ⟨rfl, _, rfl⟩ := q1
  rw [hgP] at cc1 cc2
  have hps : us.toArray.size = rec.params.size := by
    have h1 : rec.params.toList.length = ps.length := by rw [c2]
    have h2 := hv.1
    simp at h1 ⊢; omega
  refine ⟨_, _, _, _, run_yield q2 hps, ?_⟩
  generalize htm : (rec.params.zip us.toArray).foldl (fun tmps (x : Tmp × Value) => match x with | (t, a) => tmps.setIfInBounds t a) rec.tmps = tmps0
  have hFw : Fw (some b) = Fence.wide.inRound b := rfl
  refine roundIn_of_wpIn trivial ?_
  rw [← hFw, c3, c4]
  rw [fold_arr, c2] at htm
  have hsz : tmps0.size = H.nt := by rw [← htm, fold_size, cnt]
  have hval := putArgs_sound ps args us e rec.tmps hv c1 q5
  rw [htm] at hval
  have hpl : ∀ (i : Nat) y, (putArgs e ps args).get i = some y → isPlace y = false := fun i y hi => let ⟨u, _, k⟩ := hval i y hi; k.place
  have hrel : Rel F w.heap.size w0 g F ⟨putArgs e ps args, hp.h, hp.nx, hp.nx, hp.ro, []⟩ { tmps := tmps0, defers := [] } w := by
    refine ⟨⟨fun i y hi _ => hval i y hi, fun i gen cs hi => ?_, fun i j gi ci gj cj b hi => ?_, fun i d off gen hi => ?_⟩, ⟨rfl, by simp⟩, hr.wr, hr.old, hr.hx, hr.fresh, hr.top, hr.ronx, Nat.le_refl _, ⟨fun _ _ _ h => h, fun _ _ _ h => h⟩, Nat.le_refl _⟩
    · have := hpl i _ hi; simp [isPlace] at this
    · have := hpl i _ hi; simp [isPlace] at this
    · have := hpl i _ hi; simp [isPlace] at this
  refine exec_sound (ro := some b) hcall hcy (draw_runs call) A cc1 (.inr nd1) hexA hsz hgP hrel (fun g1 F1 a1' w1 hm1 hsz1 hrel1 => ?_)
  have hro1 : s1.ro = hp.ro := hm1.ro
  have hr1 : HR g1 F1 w0 w1 ⟨s1.h, s1.nx, s1.ro⟩ := ⟨hrel1.wr, hrel1.hp, hrel1.hx, hrel1.fresh, hrel1.top, Nat.le_trans hrel1.rb hrel1.nx⟩
  obtain ⟨rec1, t1, t2, t3, t4⟩ := loop_turn (st' := 1) hr1 hg1 (by show s1.ro ≤ l; omega) (hm1.ext.le.loc _ _ _ hloc)
  have hb1 := t4 { rec1 with state := .busy } rfl rfl rfl rfl t3 rfl
  obtain ⟨g2, F2, hm2, hro2, hrel2⟩ := hrel1.after hb1
  refine ⟨_, run_beginRound t1 t2, ?_⟩
  refine exec_sound (ro := some b) hcall hcy (draw_runs call) B cc2 (.inr nd2) hexB hsz1 ((hm1.trans hm2).ext.le.prog.trans hgP) hrel2 (fun g3 F3 a3 w3 hm3 hsz3 hrel3 => ?_)
  have hmt := (hm1.trans hm2).trans hm3
  have hro3 : s2.ro = hp.ro := hmt.ro
  have hnx3 : hp.nx ≤ s2.nx := hmt.nx
  have hr3 : HR g3 F3 w0 w3 ⟨s2.h, s2.nx, s2.ro⟩ := ⟨hrel3.wr, hrel3.hp, hrel3.hx, hrel3.fresh, hrel3.top, Nat.le_trans hrel3.rb hrel3.nx⟩
  obtain ⟨rec3, u1, u2, u3, u4⟩ := loop_turn (st' := 0) hr3 hg2 (by show s2.ro ≤ l; omega) (hmt.ext.le.loc _ _ _ hloc)
  have hb3 := u4 { rec3 with state := .ready, pending := none } rfl rfl rfl rfl rfl rfl
  obtain ⟨g4, F4, d1, d2, d3, d4, d5, d6⟩ := hb3
  simp only at d1 d3 d4 d5
  have hfrm := hrel3.frm
  refine ⟨_, _, run_endRound none u1, .bool true, rfl, g4, F4, hmt.ext.trans d1 (by show hp.ro ≤ s2.ro; omega), VR.bool true, d2, ?_, hro3, hnx3, Nat.le_trans hrel3.big d6⟩
  rw [hro3] at hfrm
  exact hfrm.trans d3 (by omega) hrel3.big

theorem callN_both {C : Tab} {nat : FuncId → Option Call} (hC : TabOk P C) (hnat : NatOk P w0 nat) : ∀ n, CSound P w0 (callN C nat n) ∧ YSound P w0 (callN C nat n) := by
  intro n
  induction n with
  | zero => exact ⟨fun f hff args hp v hp' h => by simp [callN] at h, fun l args hp v hp' h => by simp [callN] at h, fun f args hp v hp' h => by simp [callN] at h⟩
  | succ n ih =>
    obtain ⟨ihc, ihy⟩ := ih
    refine ⟨fun f hff args hp v hp' hs g F us w hgP hr hv => ?_, fun l args hp v hp' hs g F us w b x hgP hr hv hloc => ?_, fun f args hp v hp' hs g F us w hgP hr hv => ?_⟩
    · have hnb : Nat.ble ycode f = false := by
        cases hb : Nat.ble ycode f with
        | false => rfl
        | true => have := Nat.le_of_ble_eq_true hb; omega
      simp only [callN, hnb, cond_false] at hs
      split at hs
      · rename_i nf hnf
        exact hnat f nf hnf args hp v hp' hs g F us w hr hv
      · exact .inl (callF_sound hC ihc ihy hs hgP hr hv)
    · have h1 : Nat.ble ycode (yOf l) = true := Nat.ble_eq_true_of_le (by simp only [yOf]; omega)
      have h2 : Nat.beq ((yOf l - ycode) % 2) 0 = true := beq_t (by simp only [yOf]; omega)
      have h3 : (yOf l - ycode) / 2 = l := by simp only [yOf]; omega
      simp only [callN, h1, h2, cond_true, h3] at hs
      exact callY_sound ihc ihy hs hgP hr hv hloc
    · have h1 : Nat.ble ycode (eOf f) = true := Nat.ble_eq_true_of_le (by simp only [eOf]; omega)
      have h2 : Nat.beq ((eOf f - ycode) % 2) 0 = false := beq_f (by simp only [eOf]; omega)
      have h3 : (eOf f - ycode) / 2 = f := by simp only [eOf]; omega
      simp only [callN, h1, h2, cond_true, cond_false, h3] at hs
      exact callF_sound hC ihc ihy hs hgP hr hv

theorem callN_sound {C : Tab} {nat : FuncId → Option Call} (hC : TabOk P C) (hnat : NatOk P w0 nat) (n : Nat) : CSound P w0 (callN C nat n) := (callN_both hC hnat n).1
end
end Go.Proofs.YtohncbgkiojlnaaGreatDoor.Am
