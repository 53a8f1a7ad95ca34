/- Code: regions, branches, loops. -/
import Derived.Test.YtohncbgkiojlnaaGreatDoorAm18c
set_option linter.unusedVariables false
set_option linter.unusedSimpArgs false
namespace Go.Proofs.YtohncbgkiojlnaaGreatDoor.Am
open Go.RowKit (Below)

section
variable {P : Program} {F0 : Lab → Option HObj} {N : Nat} {w0 : World} {g : G} {F : Lab → Option HObj} {s s' : St} {a : Act} {w : World}

def picked (aos : List AOper) (l : List Nat) : List AOper := l.filterMap fun i => aos[i]?

theorem ops_sound {call : Call} (hcall : CSound P w0 call) (hcy : YSound P w0 call) {ro : Option Nat} {n : Nat} {modeOf : FuncId → Nat} {H : Hint} {draw : Bool} {ops : Array Oper} {aos : List AOper} {Q : Exit → Act → World → Prop} {nt : Nat}
    (hc : ∀ (i : Nat) o, ops[i]? = some o → ∃ ao, aos[i]? = some ao ∧ Comp P modeOf H draw ops.toList nt o ao) (hro : ro = none ∨ ∀ ao ∈ aos, isDfr ao.op = false) :
    ∀ (l : List Nat) {g : G} {F : Lab → Option HObj} {s s' : St} {a : Act} {w : World}, (∀ i ∈ l, i < ops.size) → a.tmps.size = nt → g.P = P → Rel F0 N w0 g F s a w → runOps call (picked aos l) s = some s' →
      (∀ g' F' a' w', Moves s s' g g' → a'.tmps.size = nt → Rel F0 N w0 g' F' s' a' w' → Q .normal a' w') → wpOpsIn (Fw ro) n P ops Q l a w := by
  intro l
  induction l with
  | nil =>
    intro g F s s' a w hl hnt hgP h hs hQ
    simp only [picked, List.filterMap_nil, runOps, Option.some.injEq] at hs
    subst hs
    exact hQ g F a w (.same g rfl rfl) hnt h
  | cons i l ih =>
    intro g F s s' a w hl hnt hgP h hs hQ
    have hi : i < ops.size := hl i (by simp)
    have ho : ops[i]? = some ops[i] := Array.getElem?_eq_getElem hi
    obtain ⟨ao, hao, hcomp⟩ := hc i _ ho
    simp only [picked, List.filterMap_cons, hao, runOps] at hs
    split at hs <;> try contradiction
    rename_i s1 hs1
    simp only [wpOpsIn, ho]
    subst hnt
    refine stepO_sound hcall hcy hcomp (hro.imp id fun hh => hh ao (List.mem_of_getElem? hao)) hgP h hs1 (fun g' F' a' w' hm hsz hrel => ?_)
    exact ih (fun j hj => hl j (by simp [hj])) hsz (hm.ext.le.prog.trans hgP) hrel hs (fun g2 F2 a2 w2 hm2 hsz2 hrel2 => hQ g2 F2 a2 w2 (hm.trans hm2) hsz2 hrel2)

theorem picked_range {aos : List AOper} {n : Nat} (h : aos.length = n) : picked aos (List.range n) = aos := by
  subst h
  induction aos with
  | nil => rfl
  | cons x xs ih =>
    simp only [picked, List.length_cons, List.range_succ_eq_map, List.filterMap_cons, List.getElem?_cons_zero, List.filterMap_map]
    congr 1

theorem cOps_comp {modeOf : FuncId → Nat} {H : Hint} {draw : Bool} {all : List Oper} : ∀ {os : List Oper} {k m : Nat} {r : List AOper}, cOps P modeOf H draw all k os = some (m, r) →
    r.length = os.length ∧ ∀ (i : Nat) o, os[i]? = some o → ∃ ao, r[i]? = some ao ∧ Comp P modeOf H draw all H.nt o ao := by
  intro os
  induction os with
  | nil =>
    intro k m r h
    simp only [cOps, Option.some.injEq, Prod.mk.injEq] at h
    obtain ⟨_, rfl⟩ := h
    exact ⟨rfl, fun i o h => by simp at h⟩
  | cons o os ih =>
    intro k m r h
    simp only [cOps, Option.bind_eq_bind, Option.bind_eq_some_iff] at h
    obtain ⟨gd, hgd, ⟨m', r'⟩, hr, h⟩ := h
    obtain ⟨h1, h2⟩ := ih hr
    rw [cond_some] at h
    simp only [Prod.mk.injEq] at h
    obtain ⟨hfit, rfl, rfl⟩ := h
    refine ⟨by simp [h1], fun i o' hi => ?_⟩
    cases i with
    | succ i => simpa using h2 i o' (by simpa using hi)
    | zero =>
      simp only [List.getElem?_cons_zero, Option.some.injEq] at hi
      subst hi
      refine ⟨_, rfl, rfl, fun d hd => ?_, ?_, ?_⟩
      · rw [hd] at hfit
        exact Nat.le_of_ble_eq_true hfit
      · simp only
        cases hc : cOp P modeOf H draw all k o with
        | none => exact .inr rfl
        | some op =>
          cases hp : provenOp op with
          | true => exact .inl ⟨k, by simp [hp, hc], by simp [hp]⟩
          | false => exact .inr (by simp [hp])
      · cases hog : o.guard with
        | none =>
          rw [hog] at hgd
          simp only [cGuard, Option.some.injEq] at hgd
          exact hgd.symm
        | some jb =>
          obtain ⟨j, b⟩ := jb
          rw [hog] at hgd
          simp only [cGuard] at hgd
          split at hgd <;> try contradiction
          rename_i oj hj
          split at hgd <;> try contradiction
          rename_i d hd
          simp only [Option.some.injEq] at hgd
          subst hgd
          rw [nth_eq] at hj
          exact ⟨oj, d, hj, hd, rfl⟩

/-! ### What lives on -/
theorem keepE_get {e : Tr AV} : ∀ (ds : List Nat) (t : Tr AV) (i : Nat) (v : AV), (keepE e ds t).get i = some v → t.get i = some v ∨ (e.get i = some v ∧ ∀ d o g, v ≠ .lptr d o g) := by
  intro ds
  induction ds with
  | nil => intro t i v h; exact .inl h
  | cons d ds ih =>
    intro t i v h
    simp only [keepE] at h
    split at h
    · exact ih t i v h
    · exact ih t i v h
    · rename_i u hne hu
      rcases ih _ i v h with h1 | h1
      · rw [Tr.get_put] at h1
        by_cases e1 : i = d
        · rw [if_pos e1] at h1
          simp only [Option.some.injEq] at h1
          subst h1; subst e1
          exact .inr ⟨hu, fun a b c e2 => hne a b c e2⟩
        · rw [if_neg e1] at h1; exact .inl h1
      · exact .inr h1
theorem Rel.keep (h : Rel F0 N w0 g F s a w) (l : List Nat) : Rel F0 N w0 g F (s.keep l) a w := by
  have key : ∀ i v, (s.keep l).e.get i = some v → s.e.get i = some v ∧ ∀ d o g, v ≠ .lptr d o g := by
    intro i v hv
    rcases keepE_get l .nil i v hv with h1 | h1
    · simp [Tr.get_nil] at h1
    · exact h1
  refine ⟨⟨fun i v hi hp => h.er.val i v (key i v hi).1 hp, fun i gen cs hi => h.er.box i gen cs (key _ _ hi).1, fun i j gi ci gj cj b hi hj => h.er.inj i j gi ci gj cj b (key _ _ hi).1 (key _ _ hj).1, fun i d off gen hi => absurd rfl ((key _ _ hi).2 d off gen)⟩,
    h.df, h.wr, h.hp, h.hx, h.fresh, h.top, h.rb, h.nx, h.frm, h.big⟩
theorem Rel.keepO (h : Rel F0 N w0 g F s a w) (k : Option (List Nat)) : Rel F0 N w0 g F (s.keepO k) a w := by
  cases k with
  | none => exact h
  | some l => exact h.keep l
theorem keepO_same (s : St) (k : Option (List Nat)) : (s.keepO k).ro = s.ro ∧ (s.keepO k).nx = s.nx := by cases k <;> exact ⟨rfl, rfl⟩

/-- Whatever order is drawn, the run is the one in the list's order. -/
def DrawRuns (call : Call) (aos : List AOper) (ops : Array Oper) : Prop :=
  aos.length = ops.size → drawOk (Region.before ops).toList aos = true → edgesOk 0 ops.toList = true → ∀ (b : Bool) (t : Nat) (s s' : St), (b || !Region.departs ops) = true → runOps call aos s = some s' → (∀ i ∈ Region.schedule b ops t, i < ops.size) ∧ runOps call (picked aos (Region.schedule b ops t)) s = some s'

def exitOf : Out → Exit
  | .norm => .normal
  | .exit id => .exit id
  | .ret => .ret
theorem rounds_step {f : St → Option (Out × St)} {k : Nat} {s : St} {r : Out × St} (h : rounds f k s = some r) : ∃ k', k = k' + 1 ∧ ((∃ s1, f s = some (.norm, s1) ∧ rounds f k' s1 = some r) ∨ (r.1 ≠ .norm ∧ f s = some r)) := by
  cases k with
  | zero => simp [rounds] at h
  | succ k =>
    refine ⟨k, rfl, ?_⟩
    simp only [rounds] at h
    split at h
    · rename_i s1 h1
      exact .inl ⟨s1, h1, h⟩
    · rename_i h1
      refine .inr ⟨fun e => ?_, h⟩
      obtain ⟨o, s2⟩ := r
      simp only at e
      subst e
      exact h1 s2 h

theorem exists_least {p : Nat → Prop} (h : ∃ k, p k) : ∃ k, p k ∧ ∀ j, p j → k ≤ j := by
  obtain ⟨k, hk⟩ := h
  induction k using Nat.strongRecOn with
  | _ k ih =>
    by_cases hx : ∃ j, j < k ∧ p j
    · obtain ⟨j, hj, hp⟩ := hx
      exact ih j hj hp
    · exact ⟨k, hk, fun j hj => by
        rcases Nat.lt_or_ge j k with h1 | h1
        · exact absurd ⟨j, h1, hj⟩ hx
        · exact h1⟩
open Classical in
noncomputable def least (p : Nat → Prop) : Nat := if h : ∃ k, p k then Classical.choose (exists_least h) else 0
theorem least_spec {p : Nat → Prop} (h : ∃ k, p k) : p (least p) := by
  simp only [least, dif_pos h]; exact (Classical.choose_spec (exists_least h)).1
theorem least_le {p : Nat → Prop} {k : Nat} (h : p k) : least p ≤ k := by
  have hx : ∃ k, p k := ⟨k, h⟩
  simp only [least, dif_pos hx]; exact (Classical.choose_spec (exists_least hx)).2 k h

theorem exec_sound {call : Call} (hcall : CSound P w0 call) (hcy : YSound P w0 call) (hdraw : ∀ aos ops, DrawRuns call aos ops) {ro : Option Nat} {modeOf : FuncId → Nat} {H : Hint} {m n : Nat} : ∀ (c : Code) {ac : ACode} {ks ks' : List LoopHint},
    cCode P modeOf H c ks = some (ac, ks') → (ro = none ∨ noDfr ac = true) → ∀ {g : G} {F : Lab → Option HObj} {s s' : St} {a : Act} {w : World} {out : Out} {Q : Exit → Act → World → Prop}, exec call n ac s = some (out, s') →
    a.tmps.size = H.nt → g.P = P → Rel F0 N w0 g F s a w →
    (∀ g' F' a' w', Moves s s' g g' → a'.tmps.size = H.nt → Rel F0 N w0 g' F' s' a' w' → Q (exitOf out) a' w') → c.wpIn (Fw ro) m P Q a w := by
  intro c
  induction c with
  | skip =>
    intro ac ks ks' hc hro g F s s' a w out Q hs hnt hgP h hQ
    simp only [cCode, Option.some.injEq, Prod.mk.injEq] at hc
    obtain ⟨rfl, rfl⟩ := hc
    simp only [exec, Option.some.injEq, Prod.mk.injEq] at hs
    obtain ⟨rfl, rfl⟩ := hs
    exact wpIn_skip (hQ g F a w (.same g rfl rfl) hnt h)
  | exit id =>
    intro ac ks ks' hc hro g F s s' a w out Q hs hnt hgP h hQ
    simp only [cCode, Option.some.injEq, Prod.mk.injEq] at hc
    obtain ⟨rfl, rfl⟩ := hc
    simp only [exec, Option.some.injEq, Prod.mk.injEq] at hs
    obtain ⟨rfl, rfl⟩ := hs
    exact wpIn_exit (hQ g F a w (.same g rfl rfl) hnt h)
  | ret =>
    intro ac ks ks' hc hro g F s s' a w out Q hs hnt hgP h hQ
    simp only [cCode, Option.some.injEq, Prod.mk.injEq] at hc
    obtain ⟨rfl, rfl⟩ := hc
    simp only [exec, Option.some.injEq, Prod.mk.injEq] at hs
    obtain ⟨rfl, rfl⟩ := hs
    exact wpIn_ret (hQ g F a w (.same g rfl rfl) hnt h)
  | region id ops draw =>
    intro ac ks ks' hc hro g F s s' a w out Q hs hnt hgP h hQ
    simp only [cCode] at hc
    split at hc <;> try contradiction
    rename_i mm r hr
    obtain ⟨hlen, hcomp⟩ := cOps_comp hr
    have hlen' : r.length = ops.size := by simpa using hlen
    have hcomp' : ∀ (i : Nat) o, ops[i]? = some o → ∃ ao, r[i]? = some ao ∧ Comp P modeOf H draw ops.toList H.nt o ao := fun i o hi => hcomp i o (by simpa using hi)
    have hrb : ∀ {w : World}, Rel F0 N w0 g F s a w → Rel F0 N w0 g F { s with rb := s.nx, nx := s.nx + mm } a w := fun h =>
      ⟨h.er, h.df, h.wr, h.hp, h.hx, h.fresh, fun r hr => h.top r (by simp at hr; omega), Nat.le_trans h.rb h.nx, by simp, h.frm, h.big⟩
    have hmv : ∀ {g' s1}, Moves { s with rb := s.nx, nx := s.nx + mm } s1 g g' → Moves s s1 g g' := fun hm => ⟨hm.ext, hm.ro, by have := hm.nx; simp at this; omega⟩
    cases draw with
    | false =>
      simp only [cond_false, Option.some.injEq, Prod.mk.injEq] at hc
      obtain ⟨rfl, rfl⟩ := hc
      simp only [exec] at hs
      split at hs <;> try contradiction
      rename_i s1 hs1
      simp only [Option.some.injEq, Prod.mk.injEq] at hs
      obtain ⟨rfl, rfl⟩ := hs
      refine wpIn_region (ops_sound hcall hcy hcomp' (hro.imp (fun e => e) fun hh ao hao => ?_) _ (fun i hi => by simpa using hi) hnt hgP (hrb h) (by rw [picked_range hlen']; exact hs1) (fun g' F' a' w' hm hsz hrel => hQ g' F' a' w' (hmv hm) hsz hrel))
      simp only [noDfr, List.all_eq_true] at hh
      simpa using hh ao hao
    | true =>
      simp only [cond_true] at hc
      cases hd : (drawOk (Region.before ops).toList r && edgesOk 0 ops.toList && (P.follows .mixedOrders || !Region.departs ops)) with
      | false =>
        rw [hd] at hc
        simp only [cond_false, Option.some.injEq, Prod.mk.injEq] at hc
        obtain ⟨rfl, rfl⟩ := hc
        simp [exec] at hs
      | true =>
        rw [hd] at hc
        simp only [cond_true, Option.some.injEq, Prod.mk.injEq] at hc
        obtain ⟨rfl, rfl⟩ := hc
        simp only [exec] at hs
        split at hs <;> try contradiction
        rename_i s1 hs1
        simp only [Option.some.injEq, Prod.mk.injEq] at hs
        obtain ⟨rfl, rfl⟩ := hs
        refine wpIn_region_draw fun t => ?_
        simp only [Bool.and_eq_true] at hd
        obtain ⟨q1, q2⟩ := hdraw _ ops hlen' hd.1.1 hd.1.2 (P.follows .mixedOrders) t _ _ hd.2 hs1
        refine ops_sound hcall hcy hcomp' (hro.imp (fun e => e) fun hh ao hao => ?_) _ q1 hnt hgP (hrb (h.drew _)) q2 (fun g' F' a' w' hm hsz hrel => hQ g' F' a' w' (hmv hm) hsz hrel)
        simp only [noDfr, List.all_eq_true] at hh
        simpa using hh ao hao
  | seq x y ihx ihy =>
    intro ac ks ks' hc hro g F s s' a w out Q hs hnt hgP h hQ
    simp only [cCode] at hc
    split at hc <;> try contradiction
    rename_i ax k1 hx
    split at hc <;> try contradiction
    rename_i ay k2 hy
    simp only [Option.some.injEq, Prod.mk.injEq] at hc
    obtain ⟨rfl, rfl⟩ := hc
    simp only [noDfr, Bool.and_eq_true] at hro
    simp only [exec] at hs
    refine wpIn_seq ?_
    split at hs
    · rename_i s1 hs1
      refine ihx hx (hro.imp id And.left) hs1 hnt hgP h (fun g' F' a' w' hm hsz hrel => ?_)
      exact ihy hy (hro.imp id And.right) hs hsz (hm.ext.le.prog.trans hgP) hrel (fun g2 F2 a2 w2 hm2 hsz2 hrel2 => hQ g2 F2 a2 w2 (hm.trans hm2) hsz2 hrel2)
    · rename_i hne
      refine ihx hx (hro.imp id And.left) hs hnt hgP h (fun g' F' a' w' hm hsz hrel => ?_)
      have := hQ g' F' a' w' hm hsz hrel
      cases out with
      | norm => exact absurd hs (hne s')
      | exit id => exact this
      | ret => exact this
  | cond x c1 c2 ih1 ih2 =>
    intro ac ks ks' hc hro g F s s' a w out Q hs hnt hgP h hQ
    simp only [cCode] at hc
    split at hc <;> try contradiction
    rename_i x' a1 k1 hx h1
    split at hc <;> try contradiction
    rename_i a2 k2 h2
    simp only [Option.some.injEq, Prod.mk.injEq] at hc
    obtain ⟨rfl, rfl⟩ := hc
    simp only [noDfr, Bool.and_eq_true] at hro
    simp only [exec] at hs
    split at hs <;> try contradiction
    · rename_i hb
      exact wpIn_cond_true (eval_bool hx h hb) (ih1 h1 (hro.imp id And.left) hs hnt hgP h hQ)
    · rename_i hb
      exact wpIn_cond_false (eval_bool hx h hb) (ih2 h2 (hro.imp id And.right) hs hnt hgP h hQ)
  | block id c ih =>
    intro ac ks ks' hc hro g F s s' a w out Q hs hnt hgP h hQ
    simp only [cCode] at hc
    split at hc <;> try contradiction
    rename_i a1 k1 h1
    simp only [Option.some.injEq, Prod.mk.injEq] at hc
    obtain ⟨rfl, rfl⟩ := hc
    simp only [noDfr] at hro
    simp only [exec] at hs
    refine wpIn_block ?_
    split at hs
    · rename_i i s1 hs1
      simp only [Option.some.injEq, Prod.mk.injEq] at hs
      obtain ⟨rfl, rfl⟩ := hs
      refine ih h1 hro hs1 hnt hgP h (fun g' F' a' w' hm hsz hrel => ?_)
      have := hQ g' F' a' w' hm hsz hrel
      simp only [exitOf, Exit.inBlock]
      cases hb : i.beq id with
      | true =>
        rw [hb] at this
        simp only [Nat.beq_eq] at hb
        subst hb
        rw [if_pos rfl]; exact this
      | false =>
        rw [hb] at this
        have hne : i ≠ id := by intro e; subst e; simp at hb
        rw [if_neg hne]; exact this
    · rename_i hne
      refine ih h1 hro hs hnt hgP h (fun g' F' a' w' hm hsz hrel => ?_)
      have := hQ g' F' a' w' hm hsz hrel
      cases out with
      | norm => exact this
      | exit i => exact absurd hs (hne i s')
      | ret => exact this
  | loop c ih =>
    intro ac ks ks' hc hro g F s s' a w out Q hs hnt hgP h hQ
    simp only [cCode] at hc
    have : ∃ keep outs shs k0 a1 k1, cCode P modeOf H c k0 = some (a1, k1) ∧ ac = .loop keep outs shs a1 := by
      cases ks with
      | nil =>
        simp only at hc
        split at hc <;> try contradiction
        rename_i a1 k1 h1
        simp only [Option.some.injEq, Prod.mk.injEq] at hc
        exact ⟨_, _, _, _, a1, k1, h1, hc.1.symm⟩
      | cons k ks =>
        simp only at hc
        split at hc <;> try contradiction
        rename_i a1 k1 h1
        simp only [Option.some.injEq, Prod.mk.injEq] at hc
        exact ⟨_, _, _, _, a1, k1, h1, hc.1.symm⟩
    obtain ⟨keep, outs, shs, k0, a1, k1, h1, rfl⟩ := this
    simp only [noDfr] at hro
    simp only [exec] at hs
    split at hs <;> try contradiction
    rename_i out' s2 hs0
    simp only [Option.some.injEq, Prod.mk.injEq] at hs
    obtain ⟨rfl, rfl⟩ := hs
    have hs := hs0
    have hQ' : ∀ g' F' a' w', Moves s s2 g g' → a'.tmps.size = H.nt → Rel F0 N w0 g' F' s2 a' w' → Q (exitOf out') a' w' := fun g' F' a' w' hm hsz hrel => by
      obtain ⟨q1, q2⟩ := keepO_same s2 outs
      exact hQ g' F' a' w' ⟨hm.ext, by rw [q1]; exact hm.ro, by rw [q2]; exact hm.nx⟩ hsz (hrel.keepO outs)
    clear hQ hs0
    generalize hf : (fun s : St => exec call n a1 (s.keepO keep)) = f at hs
    let J : Nat → Act → World → Prop := fun k a1 w1 => ∃ g1 F1 s1, Moves s s1 g g1 ∧ a1.tmps.size = H.nt ∧ Rel F0 N w0 g1 F1 s1 a1 w1 ∧ rounds f k s1 = some (out', s2)
    refine wpIn_loop (fun a w => ∃ k, J k a w) (fun a w => least fun k => J k a w) ⟨n, g, F, s, .same g rfl rfl, hnt, h, hs⟩ (fun a2 w2 hI => ?_)
    have hspec := least_spec hI
    generalize hk : (least fun k => J k a2 w2) = k at hspec
    obtain ⟨g1, F1, s1, m1, hsz1, hrel1, hr1⟩ := hspec
    obtain ⟨k', rfl, hcase⟩ := rounds_step hr1
    have hkp := keepO_same s1 keep
    have hmk : ∀ {g' s4}, Moves (s1.keepO keep) s4 g1 g' → Moves s s4 g g' := fun hm => m1.trans ⟨by have := hm.ext; rw [hkp.1] at this; exact this, by rw [hm.ro, hkp.1], by have := hm.nx; rw [hkp.2] at this; exact this⟩
    rcases hcase with ⟨s3, hn, hrest⟩ | ⟨hne, hfin⟩
    · rw [← hf] at hn
      refine ih h1 hro hn hsz1 (m1.ext.le.prog.trans hgP) (hrel1.keepO keep) (fun g' F' a' w' hm hsz hrel => ?_)
      have hJ : J k' a' w' := ⟨g', F', s3, hmk hm, hsz, hrel, hrest⟩
      exact ⟨⟨k', hJ⟩, Nat.lt_of_le_of_lt (least_le hJ) (by omega)⟩
    · rw [← hf] at hfin
      refine ih h1 hro hfin hsz1 (m1.ext.le.prog.trans hgP) (hrel1.keepO keep) (fun g' F' a' w' hm hsz hrel => ?_)
      have := hQ' g' F' a' w' (hmk hm) hsz hrel
      cases out' with
      | norm => exact absurd rfl hne
      | exit i => exact this
      | ret => exact this
  | rangeFunc gf ps A B ihA ihB =>
    intro ac ks ks' hc hro g F s s' a w out Q hs hnt hgP h hQ
    simp only [cCode] at hc
    split at hc
    · rename_i x' aA k1 hx hA
      split at hc <;> try contradiction
      rename_i aB k2 hB
      cases hd : (noDfr aA && noDfr aB && ps.toList.all (fun p => Nat.blt p H.nt)) with
      | false =>
        rw [hd] at hc
        simp only [cond_false, Option.some.injEq, Prod.mk.injEq] at hc
        obtain ⟨rfl, rfl⟩ := hc
        simp [exec] at hs
      | true =>
        rw [hd] at hc
        simp only [cond_true, Option.some.injEq, Prod.mk.injEq] at hc
        obtain ⟨rfl, rfl⟩ := hc
        simp only [Bool.and_eq_true, List.all_eq_true] at hd
        obtain ⟨⟨nd1, nd2⟩, hps⟩ := hd
        have hro : ro = none := by
          rcases hro with h | h
          · exact h
          · simp [noDfr] at h
        subst hro
        simp only [exec] at hs
        split at hs <;> try contradiction
        rename_i gid caps hev
        split at hs <;> try contradiction
        rename_i v1 hp1 hcl
        split at hs <;> try contradiction
        rename_i f1 p1 e1 A1 B1 a1 b1 hget
        simp only [Option.some.injEq, Prod.mk.injEq] at hs
        obtain ⟨rfl, rfl⟩ := hs
        obtain ⟨cu, hfu, hcaps⟩ := func_of hx h hev
        have hr0 : HR g F w0 w ⟨s.h, s.nx, s.ro⟩ := ⟨h.wr, h.hp, h.hx, h.fresh, h.top, Nat.le_trans h.rb h.nx⟩
        obtain ⟨g1, F1, x1, hr1, fr1, loc1⟩ := hr0.lay (r := s.nx) (Nat.le_refl _) (ob := .deferred (some [])) (o' := .dblk true) (by simp) (fun g' hle hl ho => ⟨_, hl, by rw [addB_get, if_pos rfl]; rfl, ho⟩)
        have hclean : ∀ (i : Nat) v, (clean s.e).get i = some v → ∃ u, a.tmps[i]? = some u ∧ VR g v u := fun i v hi => by
          obtain ⟨q1, q2⟩ := clean_get _ _ _ hi
          exact h.er.val i v q1 q2
        refine wpIn_rangeFunc fun fn _ => ?_
        have hsz1 : (addB w (.deferred (some []))).heap.size = w.heap.size + 1 := by rw [addB_size]
        obtain ⟨g2, F2, x2, hr2, fr2, loc2⟩ := hr1.lay (r := s.nx + 1) (Nat.le_refl _) (ob := .loop { state := .ready, pending := none, fn, tmps := a.tmps, params := ps, assign := A, body := B, defers := w.heap.size }) (o' := .loop 0 ps.toList (clean s.e) A B aA aB 0) (by simp)
          (fun g' hle hl ho => by
            refine ⟨_, _, hl, by rw [addB_get, if_pos rfl], ho, ⟨fun p hp => ?_, rfl, rfl, rfl, rfl, rfl⟩, fun i v hi => ?_, modeOf, H, ks, k1, k1, k2, ?_, ?_, hnt.symm, nd1, nd2⟩
            · have := Nat.le_of_ble_eq_true (hps p hp)
              show p < a.tmps.size
              omega
            · obtain ⟨u, q1, q2⟩ := hclean i v hi
              exact ⟨u, q1, q2.mono (x1.le.trans hle)⟩
            · rw [(x1.le.trans hle).prog, hgP]; exact hA
            · rw [(x1.le.trans hle).prog, hgP]; exact hB)
        simp only at x2 fr2
        have x12 : G.ext s.ro g g2 := x1.trans x2 (Nat.le_refl _)
        have hvr : VRs g2 (.yield (s.nx + 1) :: caps) (.func (.yield (w.heap.size + 1)) #[] #[] :: cu) := .cons (.yield (by rw [loc2, hsz1])) (hcaps.mono x12.le)
        obtain ⟨hent, hcalls⟩ := hcy.2 gid _ _ v1 hp1 hcl g2 F2 _ _ (x12.le.prog.trans hgP) hr2 hvr
        let W : World := addB (addB w (.deferred (some []))) (.loop { state := .ready, pending := none, fn, tmps := a.tmps, params := ps, assign := A, body := B, defers := w.heap.size })
        refine ⟨w.heap.size + 1, [{ target := .collected w.heap.size, args := #[] }], W, { target := .fn (.func gid) cu.toArray, args := #[.func (.yield (w.heap.size + 1)) #[] #[]] }, W, gid, (.func (.yield (w.heap.size + 1)) #[] #[] :: cu).toArray, W, run_enterLoop_outer fn _ _ _ _, ?_, fun _ _ => trivial, ?_, fun h => by simp [Fw, Fence.wide] at h, ?_⟩
        · simp only [resolve, rangeCall, hfu, Deferred.ofValue, pure_bind, Sem.run_pure]
          simp [Act.eval]
        · have : (#[Value.func (.yield (w.heap.size + 1)) #[] #[]] ++ cu.toArray) = (Value.func (.yield (w.heap.size + 1)) #[] #[] :: cu).toArray := by apply Array.ext'; simp
          simp only [invoke]
          rw [this]
          exact hent
        · refine CallsIn.more (CallsIn.mono (R := _) hcalls fun e w3 hb => ?_) (Nat.zero_le _)
          obtain ⟨u, rfl, g3, F3, x3, v3, hr3, fr3, ro3, nx3, sz3⟩ := hb
          simp only at x3 fr3 ro3 nx3
          have x13 : G.ext s.ro g g3 := x12.trans x3 (Nat.le_refl _)
          obtain ⟨rec, t1, t2, t3, t4⟩ := loop_turn (st' := 2) hr3 hget (by rw [ro3]; have := h.rb; have := h.nx; omega) (x3.le.loc _ _ _ loc2)
          have hb := t4 { rec with state := .exhausted, pending := none } rfl rfl rfl rfl rfl rfl
          rw [hsz1] at hb t1
          refine ⟨_, _, run_endLoop t1 (by rw [t2]; simp [stOf]), ?_⟩
          rw [t3]
          have hsz2 : w.heap.size ≤ (addB (addB w (.deferred (some []))) (.loop { state := .ready, pending := none, fn, tmps := a.tmps, params := ps, assign := A, body := B, defers := w.heap.size })).heap.size := by
            rw [addB_size, addB_size]; omega
          have fr12 : Frm F F2 s.ro w.heap.size := fr1.trans fr2 (Nat.le_refl _) (by rw [addB_size]; omega)
          have fr13 : Frm F F3 s.ro w.heap.size := fr12.trans fr3 (Nat.le_refl _) hsz2
          obtain ⟨g4, F4, x4, hr4, fr4, ro4, nx4, sz4⟩ := hb
          simp only at x4 fr4 ro4 nx4
          rw [ro3] at x4 fr4
          have hloc4 : g4.loc s.nx 0 = some (w.heap.size, 0, 0) := x4.le.loc _ _ _ (x3.le.loc _ _ _ (x2.le.loc _ _ _ loc1))
          obtain ⟨m5, rel5⟩ := h.afterG (hp := { hp1 with h := hp1.h.put (s.nx + 1) (some (.loop f1 p1 e1 A1 B1 a1 b1 2)) }) (x13.trans x4 (Nat.le_refl _)) hr4 (fr13.trans fr4 (Nat.le_refl _) (by omega)) ro3 (by simp only; omega) (by omega)
          exact hQ g4 F4 _ _ ⟨m5.ext, rfl, m5.nx⟩ hnt (rel5.mark hloc4)
    · simp only [Option.some.injEq, Prod.mk.injEq] at hc
      obtain ⟨rfl, rfl⟩ := hc
      simp [exec] at hs
  | _ =>
    intro ac ks ks' hc hro g F s s' a w out Q hs hnt hgP h hQ
    simp only [cCode, Option.some.injEq, Prod.mk.injEq] at hc
    obtain ⟨rfl, rfl⟩ := hc
    simp [exec] at hs
end
end Go.Proofs.YtohncbgkiojlnaaGreatDoor.Am
