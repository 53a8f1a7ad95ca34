/- Every operation that is no call: what the machine does, the program does. -/
import Derived.Test.YtohncbgkiojlnaaGreatDoorAm15
set_option linter.unusedVariables false
set_option linter.unusedSimpArgs false
namespace Go.Proofs.YtohncbgkiojlnaaGreatDoor.Am
open Go.RowKit (Below)

def plainOp : AOp → Bool
  | .lal .. => false
  | .lbx .. => false
  | .call .. => false
  | .cav .. => false
  | .dfr .. => false
  | op => provenOp op

section
variable {P : Program} {F0 : Lab → Option HObj} {N : Nat} {w0 : World} {g : G} {F : Lab → Option HObj} {s s' : St} {a : Act} {w : World}

theorem aggT_some {t : TypeId} {b : Bool} (h : aggT P t = some b) : ∃ d, P.underlying t = some d ∧ b = isAggD d := by
  simp only [aggT, Option.map_eq_some_iff] at h
  obtain ⟨d, h1, h2⟩ := h
  exact ⟨d, h1, h2.symm⟩
theorem szT_some {t : TypeId} {n : Nat} (h : szT P t = some n) : ∃ i, P.info? t = some i ∧ n = i.size := by
  simp only [szT, Option.map_eq_some_iff] at h
  obtain ⟨d, h1, h2⟩ := h
  exact ⟨d, h1, h2.symm⟩

theorem op_sound {modeOf : FuncId → Nat} {H : Hint} {draw : Bool} {ops : List Oper} {k : Nat} {o : Oper} {op : AOp} {call : Call} {v : AV}
    (hc : cOp P modeOf H draw ops k o = some op) (hp : plainOp op = true) (h : Rel F0 N w0 g F s a w) (hs : step call op s = some (v, s')) : Turns P F0 N w0 o g s a w v s' := by
  unfold cOp at hc
  split at hc
  · rename_i x heq
    simp only [Option.map_eq_some_iff] at hc
    obtain ⟨x', hx, rfl⟩ := hc
    simp only [step, Option.some.injEq, Prod.mk.injEq] at hs
    obtain ⟨rfl, rfl⟩ := hs
    exact .of_yields h (yields_move (.inl heq) hx h)
  · rename_i x heq
    simp only [Option.map_eq_some_iff] at hc
    obtain ⟨x', hx, rfl⟩ := hc
    simp only [step, Option.some.injEq, Prod.mk.injEq] at hs
    obtain ⟨rfl, rfl⟩ := hs
    exact .of_yields h (yields_move (.inr heq) hx h)
  · rename_i c x y heq
    simp only [Option.bind_eq_bind, Option.bind_eq_some_iff, Option.some.injEq] at hc
    obtain ⟨c', h1, x', h2, y', h3, rfl⟩ := hc
    simp only [step] at hs
    split at hs <;> try contradiction
    rename_i b hb
    simp only [Option.some.injEq, Prod.mk.injEq] at hs
    obtain ⟨rfl, rfl⟩ := hs
    exact .of_yields h (yields_pick heq h1 h2 h3 h hb)
  · rename_i t heq
    simp only [Option.bind_eq_bind, Option.bind_eq_some_iff] at hc
    obtain ⟨z, hz, hc⟩ := hc
    split at hc <;> try contradiction
    rename_i d hd
    cases hm : mem d H.loc with
    | true => rw [hm] at hc; simp only [cond_true, Option.some.injEq] at hc; subst hc; simp [plainOp] at hp
    | false =>
      rw [hm] at hc; simp only [cond_false, Option.some.injEq] at hc; subst hc
      simp only [step] at hs
      cases hf : s.free k with
      | false => rw [hf] at hs; simp at hs
      | true =>
        rw [hf] at hs; simp only [cond_true, Option.some.injEq, Prod.mk.injEq] at hs
        obtain ⟨rfl, rfl⟩ := hs
        exact turns_hal heq hz h hf
  · rename_i t x heq
    simp only [Option.bind_eq_bind, Option.bind_eq_some_iff] at hc
    obtain ⟨n, hn, x', hx, hc⟩ := hc
    split at hc <;> try contradiction
    rename_i d hd
    cases hm : mem d H.loc with
    | true => rw [hm] at hc; simp only [cond_true, Option.some.injEq] at hc; subst hc; simp [plainOp] at hp
    | false =>
      rw [hm] at hc; simp only [cond_false, Option.some.injEq] at hc; subst hc
      simp only [step] at hs
      split at hs <;> try contradiction
      rename_i u hu
      cases hf : ((len u.cells).beq n && s.free k) with
      | false => rw [hf] at hs; simp at hs
      | true =>
        rw [hf] at hs; simp only [cond_true, Option.some.injEq, Prod.mk.injEq] at hs
        obtain ⟨rfl, rfl⟩ := hs
        simp only [Bool.and_eq_true] at hf
        exact turns_hbx heq hx h hu hf.2
  · rename_i t ps heq
    simp only [Option.bind_eq_bind, Option.bind_eq_some_iff] at hc
    obtain ⟨z, hz, d, hd, hc⟩ := hc
    split at hc <;> try contradiction
    rename_i fs
    simp only [Option.bind_eq_some_iff, Option.some.injEq] at hc
    obtain ⟨ns, hns, qs, hq, rfl⟩ := hc
    simp only [step] at hs
    split at hs <;> try contradiction
    rename_i cs hf
    simp only [Option.some.injEq, Prod.mk.injEq] at hs
    obtain ⟨rfl, rfl⟩ := hs
    exact .of_yields h (yields_bld_struct heq hd hz hns hq h hf)
  · rename_i t n ps heq
    simp only [Option.bind_eq_bind, Option.bind_eq_some_iff] at hc
    obtain ⟨d, hd, hc⟩ := hc
    split at hc <;> try contradiction
    rename_i e
    simp only [Option.bind_eq_some_iff] at hc
    obtain ⟨sz, hsz, z, hz, qs, hq, hc⟩ := hc
    cases hb : (Nat.blt 0 sz && (n * sz).ble 16777216 && (len z.cells).beq sz) with
    | false => rw [hb] at hc; simp at hc
    | true =>
      rw [hb] at hc; simp only [cond_true, Option.some.injEq] at hc; subst hc
      simp only [Bool.and_eq_true, Nat.beq_eq, len_eq] at hb
      obtain ⟨⟨b1, b2⟩, b3⟩ := hb
      simp only [step] at hs
      split at hs <;> try contradiction
      rename_i es hf
      simp only [Option.some.injEq, Prod.mk.injEq] at hs
      obtain ⟨rfl, rfl⟩ := hs
      exact turns_lit heq hd hsz hz hq (Nat.le_of_ble_eq_true b1) (Nat.le_of_ble_eq_true b2) b3 h hf
  · rename_i t x heq
    simp only [Option.bind_eq_bind, Option.bind_eq_some_iff] at hc
    obtain ⟨ag, hag, n0, hn0, x', hx, hc⟩ := hc
    obtain ⟨d, hd, rfl⟩ := aggT_some hag
    obtain ⟨i, hi, rfl⟩ := szT_some hn0
    have hat : ∀ {op : AOp} {cs : List AV}, s.at_ (s.ev x') = some cs → part (isAggD d) (bif isAggD d then i.size else 1) 0 cs = some v → s' = s → Turns P F0 N w0 o g s a w v s' := by
      intro op cs h1 h2 h3
      subst h3
      exact .of_yields h (yields_ld heq hx hd hi h h1 h2)
    split at hc
    · rename_i dd hr
      simp only [Option.some.injEq] at hc; subst hc
      simp only [step] at hs
      split at hs <;> try contradiction
      rename_i d' off gen hev
      split at hs <;> try contradiction
      rename_i g' cs hg
      cases hb : (dd.beq d' && gen.beq g') with
      | false => rw [hb] at hs; simp at hs
      | true =>
        rw [hb] at hs; simp only [cond_true] at hs
        simp only [Bool.and_eq_true, Nat.beq_eq] at hb
        obtain ⟨rfl, rfl⟩ := hb
        split at hs <;> try contradiction
        rename_i u hu
        simp only [Option.some.injEq, Prod.mk.injEq] at hs
        obtain ⟨rfl, rfl⟩ := hs
        exact .of_yields h (yields_ldL heq hx hd hi h hev hg hu)
    · simp only [Option.some.injEq] at hc
      cases draw with
      | false =>
        simp only [cond_false] at hc; subst hc
        simp only [step] at hs
        split at hs <;> try contradiction
        rename_i cs hcs
        split at hs <;> try contradiction
        rename_i u hu
        simp only [Option.some.injEq, Prod.mk.injEq] at hs
        obtain ⟨rfl, rfl⟩ := hs
        exact hat (op := .fail) hcs hu rfl
      | true =>
        simp only [cond_true] at hc
        cases hel : elemental P ops 64 x with
        | true =>
          rw [hel] at hc; simp only [cond_true] at hc; subst hc
          simp only [step] at hs
          split at hs <;> try contradiction
          rename_i cs hcs
          split at hs <;> try contradiction
          rename_i u hu
          simp only [Option.some.injEq, Prod.mk.injEq] at hs
          obtain ⟨rfl, rfl⟩ := hs
          exact hat (op := .fail) (by rw [hcs]; rfl) hu rfl
        | false =>
          rw [hel] at hc; simp only [cond_false] at hc; subst hc
          simp only [step] at hs
          cases ho : oldAt s.rb (s.ev x') with
          | false => rw [ho] at hs; simp at hs
          | true =>
            rw [ho] at hs; simp only [cond_true] at hs
            split at hs <;> try contradiction
            rename_i cs hcs
            split at hs <;> try contradiction
            rename_i u hu
            simp only [Option.some.injEq, Prod.mk.injEq] at hs
            obtain ⟨rfl, rfl⟩ := hs
            exact hat (op := .fail) hcs hu rfl
  · rename_i t x y heq
    simp only [Option.bind_eq_bind, Option.bind_eq_some_iff] at hc
    obtain ⟨n, hn, x', hx, y', hy, hc⟩ := hc
    obtain ⟨i, hi, rfl⟩ := szT_some hn
    cases hb0 : Nat.beq i.size 0 with
    | true => rw [hb0] at hc; simp at hc
    | false =>
      rw [hb0] at hc; simp only [cond_false] at hc
      have h0 : i.size ≠ 0 := by intro e; rw [e] at hb0; simp at hb0
      split at hc
      · rename_i dd hr
        simp only [Option.some.injEq] at hc; subst hc
        simp only [step] at hs
        split at hs <;> try contradiction
        rename_i d' off gen u hev hu
        split at hs <;> try contradiction
        rename_i g' cs hg
        cases hb : (dd.beq d' && gen.beq g' && (len u.cells).beq i.size && (off + i.size).ble (len cs)) with
        | false => rw [hb] at hs; simp at hs
        | true =>
          rw [hb] at hs; simp only [cond_true, Option.some.injEq, Prod.mk.injEq] at hs
          obtain ⟨rfl, rfl⟩ := hs
          simp only [Bool.and_eq_true, Nat.beq_eq, len_eq] at hb
          obtain ⟨⟨⟨rfl, rfl⟩, b3⟩, b4⟩ := hb
          exact turns_stL heq hx hy hi h hev hg hu b3 h0 (Nat.le_of_ble_eq_true b4)
      · simp only [Option.some.injEq] at hc; subst hc
        simp only [step] at hs
        split at hs <;> try contradiction
        rename_i r off u hev hu
        split at hs <;> try contradiction
        rename_i cs hg
        cases hb : ((len u.cells).beq i.size && (off + i.size).ble (len cs) && s.ro.ble r) with
        | false => rw [hb] at hs; simp at hs
        | true =>
          rw [hb] at hs; simp only [cond_true, Option.some.injEq, Prod.mk.injEq] at hs
          obtain ⟨rfl, rfl⟩ := hs
          simp only [Bool.and_eq_true, Nat.beq_eq, len_eq] at hb
          obtain ⟨⟨b3, b4⟩, b5⟩ := hb
          exact turns_stH_ptr heq hx hy hi h hev hg hu b3 h0 (Nat.le_of_ble_eq_true b4) (Nat.le_of_ble_eq_true b5)
  · rename_i x heq
    simp only [Option.map_eq_some_iff] at hc
    obtain ⟨x', hx, rfl⟩ := hc
    obtain ⟨k1, e⟩ := yields_nilck (P := P) heq hx h hs
    subst e
    exact .of_yields h k1
  · rename_i bop t x y yt heq
    simp only [Option.bind_eq_bind, Option.bind_eq_some_iff] at hc
    obtain ⟨x', hx, y', hy, hc⟩ := hc
    have hbin : ∀ {op2 : BinOp}, op = .bin op2 x' y' → bop = op2 → Turns P F0 N w0 o g s a w v s' := by
      intro op2 e1 e2
      subst e1; subst e2
      simp only [step] at hs
      split at hs <;> try contradiction
      rename_i u hu
      simp only [Option.some.injEq, Prod.mk.injEq] at hs
      obtain ⟨rfl, rfl⟩ := hs
      exact .of_yields h (yields_bin heq hx hy h hu)
    have heqb : ∀ {neq : Bool}, op = .eqb neq x' y' → bop = (if neq then .neq else .eql) → P.underlying t = some .bool → Turns P F0 N w0 o g s a w v s' := by
      intro neq e1 e2 ht
      subst e1
      simp only [step] at hs
      split at hs <;> try contradiction
      rename_i p q hp' hq'
      simp only [Option.some.injEq, Prod.mk.injEq] at hs
      obtain ⟨rfl, rfl⟩ := hs
      exact .of_yields h (yields_eqb heq e2 ht hx hy h hp' hq')
    have heqn : ∀ {neq : Bool} {kk : NK} {d : TypeDesc}, op = .eqn kk neq x' y' → bop = (if neq then .neq else .eql) → P.underlying t = some d → nkFits kk d = true → ((∃ ms, d = .interface ms) → (isConst' x || isConst' y) = true) →
        Turns P F0 N w0 o g s a w v s' := by
      intro neq kk d e1 e2 ht hfit hcst
      subst e1
      simp only [step] at hs
      split at hs <;> try contradiction
      rename_i b hb
      simp only [Option.some.injEq, Prod.mk.injEq] at hs
      obtain ⟨rfl, rfl⟩ := hs
      exact .of_yields h (yields_eqn heq e2 ht hfit hcst hx hy h hb)
    have hE : ∀ {neq : Bool}, bop = (if neq then .neq else .eql) → (do
          let d ← P.underlying t
          match d with
            | TypeDesc.int k => some (AOp.bin bop x' y')
            | TypeDesc.string => some (AOp.bin bop x' y')
            | TypeDesc.bool => some (AOp.eqb neq x' y')
            | TypeDesc.struct fields => do
              let ks ← shapeT P 64 t
              bif !P.stoodInHeld t && !P.eqGuardType P.depth t then some (AOp.eqp ks neq x' y') else none
            | TypeDesc.array len elem => do
              let ks ← shapeT P 64 t
              bif !P.eqGuardType P.depth t then some (AOp.eqp ks neq x' y') else none
            | TypeDesc.pointer elem => some (AOp.eqn NK.p neq x' y')
            | TypeDesc.map key elem => some (AOp.eqn NK.m neq x' y')
            | TypeDesc.func params results variadic => some (AOp.eqn NK.f neq x' y')
            | TypeDesc.slice elem => some (AOp.eqn NK.s neq x' y')
            | TypeDesc.interface methods => bif isConst' x || isConst' y then some (AOp.eqn NK.i neq x' y') else none
            | x => none) = some op → Turns P F0 N w0 o g s a w v s' := by
      intro neq e2 hc
      simp only [Option.bind_eq_bind, Option.bind_eq_some_iff] at hc
      obtain ⟨d, hd, hc⟩ := hc
      split at hc
      · simp only [Option.some.injEq] at hc; exact hbin hc.symm rfl
      · simp only [Option.some.injEq] at hc; exact hbin hc.symm rfl
      · simp only [Option.some.injEq] at hc; exact heqb hc.symm e2 hd
      · simp only [Option.bind_eq_some_iff] at hc
        obtain ⟨ks, _, hc⟩ := hc
        cases hb : (!P.stoodInHeld t && !P.eqGuardType P.depth t) with
        | false => rw [hb] at hc; simp at hc
        | true => rw [hb] at hc; simp only [cond_true, Option.some.injEq] at hc; subst hc; simp [plainOp, provenOp] at hp
      · simp only [Option.bind_eq_some_iff] at hc
        obtain ⟨ks, _, hc⟩ := hc
        cases hb : (!P.eqGuardType P.depth t) with
        | false => rw [hb] at hc; simp at hc
        | true => rw [hb] at hc; simp only [cond_true, Option.some.injEq] at hc; subst hc; simp [plainOp, provenOp] at hp
      · simp only [Option.some.injEq] at hc; exact heqn hc.symm e2 hd rfl (by rintro ⟨ms, e⟩; cases e)
      · simp only [Option.some.injEq] at hc; exact heqn hc.symm e2 hd rfl (by rintro ⟨ms, e⟩; cases e)
      · simp only [Option.some.injEq] at hc; exact heqn hc.symm e2 hd rfl (by rintro ⟨ms, e⟩; cases e)
      · simp only [Option.some.injEq] at hc; exact heqn hc.symm e2 hd rfl (by rintro ⟨ms, e⟩; cases e)
      · cases hb : (isConst' x || isConst' y) with
        | false => rw [hb] at hc; simp at hc
        | true => rw [hb] at hc; simp only [cond_true, Option.some.injEq] at hc; exact heqn hc.symm e2 hd rfl (fun _ => hb)
      · cases hc
    split at hc
    · exact hE (neq := false) rfl hc
    · exact hE (neq := true) rfl hc
    · simp only [Option.bind_eq_bind, Option.bind_eq_some_iff] at hc
      obtain ⟨d, hd, hc⟩ := hc
      split at hc <;> simp only [Option.some.injEq, reduceCtorEq] at hc
      · exact hbin hc.symm rfl
      · exact hbin hc.symm rfl
  · rename_i bop t x heq
    simp only [Option.bind_eq_bind, Option.bind_eq_some_iff, Option.some.injEq] at hc
    obtain ⟨x', hx, rfl⟩ := hc
    obtain ⟨k1, e⟩ := yields_una (P := P) heq hx h hs
    subst e
    exact .of_yields h k1
  · rename_i src dst x heq
    simp only [Option.bind_eq_bind, Option.bind_eq_some_iff] at hc
    obtain ⟨x', hx, d1, h1, d2, h2, hc⟩ := hc
    split at hc <;> try contradiction
    · rename_i l k'
      simp only [Option.some.injEq] at hc; subst hc
      simp only [step] at hs
      split at hs <;> try contradiction
      rename_i kk n hev
      simp only [Option.some.injEq, Prod.mk.injEq] at hs
      obtain ⟨rfl, rfl⟩ := hs
      exact .of_yields h (yields_cvi heq h1 h2 hx h hev)
    · simp only [Option.some.injEq] at hc; subst hc
      simp only [step] at hs
      split at hs <;> try contradiction
      rename_i b hev
      simp only [Option.some.injEq, Prod.mk.injEq] at hs
      obtain ⟨rfl, rfl⟩ := hs
      exact .of_yields h (yields_cvs heq h1 h2 hx h hev)
    · rename_i e
      simp only [Option.bind_eq_some_iff] at hc
      obtain ⟨d3, he, hc⟩ := hc
      split at hc <;> try contradiction
      simp only [Option.some.injEq] at hc; subst hc
      simp only [step] at hs
      split at hs <;> try contradiction
      rename_i b hev
      simp only [Option.some.injEq, Prod.mk.injEq] at hs
      obtain ⟨rfl, rfl⟩ := hs
      exact turns_s2b heq h1 h2 he hx h hev
    · rename_i e
      simp only [Option.bind_eq_some_iff] at hc
      obtain ⟨d3, he, hc⟩ := hc
      split at hc <;> try contradiction
      simp only [Option.some.injEq] at hc; subst hc
      simp only [step] at hs
      split at hs <;> try contradiction
      rename_i sz xs own hev
      split at hs <;> try contradiction
      rename_i l hl
      simp only [Option.some.injEq, Prod.mk.injEq] at hs
      obtain ⟨rfl, rfl⟩ := hs
      exact .of_yields h (yields_b2s heq h1 h2 he hx h hev hl)
  · rename_i t x heq
    split at hc <;> try contradiction
    rename_i d hd hn
    simp only [Option.bind_eq_bind, Option.bind_eq_some_iff, Option.some.injEq] at hc
    obtain ⟨x', hx, rfl⟩ := hc
    simp only [step] at hs
    split at hs <;> try contradiction
    rename_i u hu
    simp only [Option.some.injEq, Prod.mk.injEq] at hs
    obtain ⟨rfl, rfl⟩ := hs
    exact .of_yields h (yields_ifc heq hn (fun ms e => hd ms (by rw [e])) hx h hu)
  · rename_i f caps heq
    simp only [Option.bind_eq_bind, Option.bind_eq_some_iff, Option.some.injEq] at hc
    obtain ⟨cs, hx, rfl⟩ := hc
    simp only [step] at hs
    split at hs <;> try contradiction
    rename_i vs hv
    simp only [Option.some.injEq, Prod.mk.injEq] at hs
    obtain ⟨rfl, rfl⟩ := hs
    exact .of_yields h (yields_fn heq hx h hv)
  · rename_i t x fi heq
    simp only [Option.bind_eq_bind, Option.bind_eq_some_iff] at hc
    obtain ⟨d, hd, hc⟩ := hc
    split at hc <;> try contradiction
    rename_i fs
    simp only [Option.bind_eq_some_iff] at hc
    obtain ⟨f, hf, n, hn, x', hx, hc⟩ := hc
    obtain ⟨ti, hi, rfl⟩ := szT_some hn
    cases hb : Nat.beq ti.size 0 with
    | true => rw [hb] at hc; simp at hc
    | false =>
      rw [hb] at hc; simp only [cond_false, Option.some.injEq] at hc; subst hc
      have h0 : ti.size ≠ 0 := by intro e; rw [e] at hb; simp at hb
      simp only [step] at hs
      split at hs <;> try contradiction
      · rename_i d' o' gg hev
        cases hh : s.here (root P H ops 64 x) d' gg with
        | false => rw [hh] at hs; simp at hs
        | true =>
          rw [hh] at hs; simp only [cond_true, Option.some.injEq, Prod.mk.injEq] at hs
          obtain ⟨rfl, rfl⟩ := hs
          exact .of_yields h (yields_fad heq hd hf hi h0 hx h (by rw [hev]; rfl) (fun d o gen e => by rw [hev] at e; cases e; exact hh))
      all_goals
        rename_i hev
        simp only [Option.some.injEq, Prod.mk.injEq] at hs
        obtain ⟨rfl, rfl⟩ := hs
        exact .of_yields h (yields_fad (l := none) heq hd hf hi h0 hx h (by rw [hev]; rfl) (fun d o gen e => by rw [hev] at e; cases e))
  · rename_i t x fi heq
    simp only [Option.bind_eq_bind, Option.bind_eq_some_iff] at hc
    obtain ⟨d, hd, hc⟩ := hc
    split at hc <;> try contradiction
    rename_i fs
    simp only [Option.bind_eq_some_iff, Option.some.injEq] at hc
    obtain ⟨f, hf, ag, hag, n, hn, x', hx, rfl⟩ := hc
    obtain ⟨ti, hi, rfl⟩ := szT_some hn
    obtain ⟨d2, hd2, rfl⟩ := aggT_some hag
    simp only [step] at hs
    split at hs <;> try contradiction
    rename_i cs hev
    split at hs <;> try contradiction
    rename_i u hu
    simp only [Option.some.injEq, Prod.mk.injEq] at hs
    obtain ⟨rfl, rfl⟩ := hs
    exact .of_yields h (yields_fld heq hd hf hd2 hi hx h hev hu)
  · rename_i t x j heq
    simp only [Option.bind_eq_bind, Option.bind_eq_some_iff] at hc
    obtain ⟨x', hx, j', hj, d, hd, hc⟩ := hc
    split at hc <;> try contradiction
    · rename_i e
      simp only [Option.bind_eq_some_iff, Option.some.injEq] at hc
      obtain ⟨n, hn, rfl⟩ := hc
      obtain ⟨ti, hi, rfl⟩ := szT_some hn
      simp only [step] at hs
      split at hs <;> try contradiction
      · rename_i sz' xs own n hev hidx
        split at hs <;> try contradiction
        rename_i h0
        split at hs <;> try contradiction
        rename_i u hu
        cases hb : ti.size.beq sz' with
        | false => rw [hb] at hs; simp at hs
        | true =>
          rw [hb] at hs; simp only [cond_true, Option.some.injEq, Prod.mk.injEq] at hs
          obtain ⟨rfl, rfl⟩ := hs
          simp only [Nat.beq_eq] at hb
          rw [← hb] at hev
          exact .of_yields h (yields_iad_slice heq hd hi hx hj h hev hidx h0 hu)
      · rename_i sz' r ver off l n hev hidx
        split at hs <;> try contradiction
        rename_i h0
        cases hb : ti.size.beq sz' with
        | false => rw [hb] at hs; simp at hs
        | true =>
          rw [hb] at hs; simp only [cond_true, Option.some.injEq, Prod.mk.injEq] at hs
          obtain ⟨rfl, rfl⟩ := hs
          simp only [Nat.beq_eq] at hb
          rw [← hb] at hev
          exact .of_yields h (yields_iad_vec heq hd hi hx hj h hev hidx h0.1 h0.2)
    · rename_i m e
      simp only [Option.bind_eq_some_iff, Option.some.injEq] at hc
      obtain ⟨n, hn, rfl⟩ := hc
      obtain ⟨ti, hi, rfl⟩ := szT_some hn
      simp only [step] at hs
      split at hs <;> try contradiction
      rename_i n hidx
      split at hs <;> try contradiction
      rename_i h0
      split at hs <;> try contradiction
      · rename_i d' o' gg hev
        cases hh : s.here (root P H ops 64 x) d' gg with
        | false => rw [hh] at hs; simp at hs
        | true =>
          rw [hh] at hs; simp only [cond_true, Option.some.injEq, Prod.mk.injEq] at hs
          obtain ⟨rfl, rfl⟩ := hs
          exact .of_yields h (yields_iaa heq hd hi hx hj h hidx h0.1 h0.2 (by rw [hev]; rfl) (fun d o gen e => by rw [hev] at e; cases e; exact hh))
      all_goals
        rename_i hev
        simp only [Option.some.injEq, Prod.mk.injEq] at hs
        obtain ⟨rfl, rfl⟩ := hs
        exact .of_yields h (yields_iaa (l := none) heq hd hi hx hj h hidx h0.1 h0.2 (by rw [hev]; rfl) (fun d o gen e => by rw [hev] at e; cases e))
  · rename_i t x j heq
    simp only [Option.bind_eq_bind, Option.bind_eq_some_iff] at hc
    obtain ⟨x', hx, j', hj, d, hd, hc⟩ := hc
    split at hc <;> try contradiction
    · simp only [Option.some.injEq] at hc; subst hc
      simp only [step] at hs
      split at hs <;> try contradiction
      rename_i b n hev hidx
      split at hs <;> try contradiction
      rename_i h0
      split at hs <;> try contradiction
      rename_i c hcc
      simp only [Option.some.injEq, Prod.mk.injEq] at hs
      obtain ⟨rfl, rfl⟩ := hs
      exact .of_yields h (yields_idxs heq hd hx hj h hev hidx h0 hcc)
    · rename_i m e
      simp only [Option.bind_eq_some_iff] at hc
      obtain ⟨ag, hag, n0, hn0, hc⟩ := hc
      obtain ⟨ti, hi, rfl⟩ := szT_some hn0
      obtain ⟨d2, hd2, rfl⟩ := aggT_some hag
      cases hb : (isAggD d2 || ti.size.beq 1) with
      | false => rw [hb] at hc; simp at hc
      | true =>
        rw [hb] at hc; simp only [cond_true, Option.some.injEq] at hc; subst hc
        simp only [step] at hs
        split at hs <;> try contradiction
        rename_i cs n hev hidx
        split at hs <;> try contradiction
        rename_i h0
        split at hs <;> try contradiction
        rename_i u hu
        simp only [Option.some.injEq, Prod.mk.injEq] at hs
        obtain ⟨rfl, rfl⟩ := hs
        refine .of_yields h (yields_idxa heq hd hd2 hi (fun e => ?_) hx hj h hev hidx h0.1 h0.2 hu)
        rw [e] at hb
        simpa using hb
  · rename_i t x lo hi mx heq
    split at hc <;> try contradiction
    · rename_i hd
      simp only [Option.bind_eq_bind, Option.bind_eq_some_iff, Option.some.injEq] at hc
      obtain ⟨x', hx, lo', hlo, hi', hhi, mx', hmx, rfl⟩ := hc
      simp only [step] at hs
      have kx := eval_of hx h
      split at hs <;> try contradiction
      · rename_i b hev
        simp only [show Nat.beq 0 0 = true from rfl, cond_true] at hs
        split at hs <;> try contradiction
        split at hs <;> try contradiction
        rename_i hh h1
        split at hs <;> try contradiction
        rename_i ll h2
        simp only [Option.some.injEq, Prod.mk.injEq] at hs
        obtain ⟨rfl, rfl⟩ := hs
        have : mx = none := by
          cases mx with
          | none => rfl
          | some m => simp only [cO] at hmx; split at hmx <;> simp at hmx
        subst this
        exact .of_yields h (yields_sli_str heq hd hx hlo hhi h hev h1 h2)
    · rename_i e hd
      simp only [Option.bind_eq_bind, Option.bind_eq_some_iff] at hc
      obtain ⟨n0, hn0, hc⟩ := hc
      obtain ⟨ti, hti, rfl⟩ := szT_some hn0
      cases hb : (Nat.beq ti.size 0 || (mx.isSome && !hi.isSome)) with
      | true => rw [hb] at hc; simp at hc
      | false =>
        rw [hb] at hc
        simp only [cond_false, Option.bind_eq_some_iff, Option.some.injEq] at hc
        obtain ⟨x', hx, lo', hlo, hi', hhi, mx', hmx, rfl⟩ := hc
        simp only [Bool.or_eq_false_iff] at hb
        obtain ⟨hb0, hb⟩ := hb
        simp only [step, hb0, cond_false] at hs
        split at hs <;> try contradiction
        · rename_i sz xs own hev
          split at hs
          · split at hs <;> try contradiction
            rename_i hh h1
            split at hs <;> try contradiction
            rename_i ll h2
            cases hbb : (sz.beq ti.size || ll.beq 0) with
            | false => rw [hbb] at hs; simp at hs
            | true =>
              rw [hbb] at hs
              simp only [cond_true, Option.some.injEq, Prod.mk.injEq, len_eq, tk_eq, dp_eq] at hs h1 h2
              obtain ⟨rfl, rfl⟩ := hs
              simp only [Bool.or_eq_true, Nat.beq_eq] at hbb
              have : mx = none := by
                cases mx with
                | none => rfl
                | some m => simp only [cO] at hmx; split at hmx <;> simp at hmx
              subst this
              exact .of_yields h (yields_sli_slice heq hd hti hx hlo hhi h hev h1 h2 hbb)
          · rename_i m
            split at hs <;> try contradiction
            rename_i mm h0
            split at hs <;> try contradiction
            rename_i hh h1
            split at hs <;> try contradiction
            rename_i ll h2
            cases hbb : (hh.beq mm && (sz.beq ti.size || ll.beq 0)) with
            | false => rw [hbb] at hs; simp at hs
            | true =>
              rw [hbb] at hs
              simp only [cond_true, Option.some.injEq, Prod.mk.injEq, len_eq, tk_eq, dp_eq] at hs h0 h1 h2
              obtain ⟨rfl, rfl⟩ := hs
              simp only [Bool.and_eq_true, Bool.or_eq_true, Nat.beq_eq] at hbb
              cases mx with
              | none => simp [cO] at hmx
              | some m0 =>
                simp only [cO] at hmx
                split at hmx <;> simp only [Option.some.injEq, reduceCtorEq] at hmx
                rename_i m1 hm1
                subst hmx
                have hsome : hi ≠ none := by
                  intro e; subst e; simp at hb
                exact .of_yields h (yields_sli_slice3 heq hd hti hx hlo hhi hm1 h hev hsome h0 h1 h2 hbb.1 hbb.2)
        · rename_i sz r ver off n hev
          split at hs <;> try contradiction
          split at hs <;> try contradiction
          rename_i hh h1
          split at hs <;> try contradiction
          rename_i ll h2
          cases hbb : sz.beq ti.size with
          | false => rw [hbb] at hs; simp at hs
          | true =>
            rw [hbb] at hs
            simp only [cond_true, Option.some.injEq, Prod.mk.injEq] at hs
            obtain ⟨rfl, rfl⟩ := hs
            simp only [Nat.beq_eq] at hbb
            have : mx = none := by
              cases mx with
              | none => rfl
              | some m => simp only [cO] at hmx; split at hmx <;> simp at hmx
            subst this
            rw [hbb] at hev ⊢
            exact .of_yields h (yields_sli_vec heq hd hti hx hlo hhi h hev h1 h2)
  · rename_i t m key ok heq
    exfalso
    simp only [Option.bind_eq_bind, Option.bind_eq_some_iff] at hc
    obtain ⟨d, hd, hc⟩ := hc
    split at hc <;> try contradiction
    simp only [Option.bind_eq_some_iff] at hc
    obtain ⟨ks, _, ag, _, hc⟩ := hc
    obtain ⟨_, _, _, _, _, _, hc⟩ := hc
    generalize (!P.stoodInHeld _) = hb at hc
    cases hb with
    | false => simp at hc
    | true => simp only [cond_true, Option.some.injEq] at hc; subst hc; simp [plainOp, provenOp] at hp
  · rename_i t m key u heq
    exfalso
    simp only [Option.bind_eq_bind, Option.bind_eq_some_iff] at hc
    obtain ⟨d, hd, hc⟩ := hc
    split at hc <;> try contradiction
    simp only [Option.bind_eq_some_iff] at hc
    obtain ⟨ks, _, ag, _, hc⟩ := hc
    generalize (!P.stoodInHeld _) = hb at hc
    cases hb with
    | false => simp at hc
    | true =>
      simp only [cond_true, Option.bind_eq_some_iff, Option.some.injEq] at hc
      obtain ⟨_, _, _, _, _, _, rfl⟩ := hc
      simp [plainOp, provenOp] at hp
  · exfalso
    simp only [Option.some.injEq] at hc
    subst hc
    simp [plainOp, provenOp] at hp
  · rename_i t l c heq
    exfalso
    simp only [Option.bind_eq_bind, Option.bind_eq_some_iff] at hc
    obtain ⟨d, hd, hc⟩ := hc
    split at hc <;> try contradiction
    simp only [Option.bind_eq_some_iff] at hc
    obtain ⟨i, _, z, _, hc⟩ := hc
    cases hb : Nat.blt 0 i.size with
    | false => rw [hb] at hc; simp at hc
    | true =>
      rw [hb] at hc
      simp only [cond_true, Option.bind_eq_some_iff, Option.some.injEq] at hc
      obtain ⟨_, _, _, _, rfl⟩ := hc
      simp [plainOp, provenOp] at hp
  · rename_i t x heq
    split at hc <;> try contradiction
    rename_i hd
    simp only [Option.bind_eq_bind, Option.bind_eq_some_iff, Option.some.injEq] at hc
    obtain ⟨x', hx, rfl⟩ := hc
    simp only [step] at hs
    split at hs <;> try contradiction
    rename_i b hev
    cases hf : s.free k with
    | false => rw [hf] at hs; simp at hs
    | true =>
      rw [hf] at hs; simp only [cond_true, Option.some.injEq, Prod.mk.injEq] at hs
      obtain ⟨rfl, rfl⟩ := hs
      exact turns_rng heq hd hx h hev hf
  · rename_i x isS heq
    simp only [Option.bind_eq_bind, Option.bind_eq_some_iff, Option.some.injEq] at hc
    obtain ⟨x', hx, rfl⟩ := hc
    simp only [plainOp, provenOp] at hp
    subst hp
    simp only [step] at hs
    split at hs <;> try contradiction
    rename_i r _ hev
    split at hs <;> try contradiction
    rename_i b pos hg
    exact turns_nxt heq hx h hev hg hs
  · rename_i x xt t ok heq
    split at hc <;> try contradiction
    rename_i d hn hd
    simp only [Option.bind_eq_bind, Option.bind_eq_some_iff, Option.some.injEq] at hc
    obtain ⟨z, hz, x', hx, rfl⟩ := hc
    obtain ⟨k1, e⟩ := yields_tas (P := P) heq hd (fun ms e => hn ms (by rw [e])) hz hx h hs
    subst e
    exact .of_yields h k1
  · rename_i x i heq
    simp only [Option.bind_eq_bind, Option.bind_eq_some_iff, Option.some.injEq] at hc
    obtain ⟨x', hx, rfl⟩ := hc
    simp only [step] at hs
    split at hs <;> try contradiction
    rename_i vs hev
    split at hs <;> try contradiction
    rename_i u hu
    simp only [Option.some.injEq, Prod.mk.injEq] at hs
    obtain ⟨rfl, rfl⟩ := hs
    exact .of_yields h (yields_ext heq hx h hev hu)
  · rename_i c heq
    obtain ⟨callee, args, ts⟩ := c
    simp only at hc
    split at hc <;> try contradiction
    · simp only [Option.bind_eq_bind, Option.bind_eq_some_iff] at hc
      obtain ⟨x, h0, x', hx, t, ht0, d, hd, hc⟩ := hc
      split at hc <;> try contradiction
      · simp only [Option.some.injEq] at hc; subst hc
        simp only [step] at hs
        split at hs <;> try contradiction
        · rename_i b _ hev
          simp only [Option.some.injEq, Prod.mk.injEq] at hs
          obtain ⟨rfl, rfl⟩ := hs
          exact .of_yields h (yields_len heq h0 ht0 hd (.inl rfl) hx h (.inr (.inr ⟨b, hev, rfl, rfl⟩)))
      · rename_i e
        simp only [Option.some.injEq] at hc; subst hc
        simp only [step] at hs
        split at hs <;> try contradiction
        · rename_i sz xs own _ hev
          simp only [Option.some.injEq, Prod.mk.injEq, len_eq] at hs
          obtain ⟨rfl, rfl⟩ := hs
          exact .of_yields h (yields_len heq h0 ht0 hd (.inr ⟨e, rfl⟩) hx h (.inl ⟨sz, xs, own, hev, rfl, e, rfl⟩))
        · rename_i sz r ver off n _ hev
          simp only [Option.some.injEq, Prod.mk.injEq] at hs
          obtain ⟨rfl, rfl⟩ := hs
          exact .of_yields h (yields_len heq h0 ht0 hd (.inr ⟨e, rfl⟩) hx h (.inr (.inl ⟨sz, r, ver, off, hev, e, rfl⟩)))
      · simp only [Option.some.injEq] at hc; subst hc; simp [plainOp, provenOp] at hp
    · simp only [Option.bind_eq_bind, Option.bind_eq_some_iff] at hc
      obtain ⟨t, ht0, d, hd, hc⟩ := hc
      split at hc <;> try contradiction
      rename_i e
      simp only [Option.bind_eq_some_iff] at hc
      obtain ⟨i, hi, z, hz, tx, htx, d2, hd2, hc⟩ := hc
      have key : ((∃ e', d2 = .slice e') ∨ d2 = .string) → (do
            let x ← args[0]?
            let x' ← cX x
            let y ← args[1]?
            let y' ← cX y
            bif Nat.blt 0 i.size && (len z.cells).beq i.size && args.size.beq 2 && ts.size.beq 2 then
                  some
                    (AOp.app k i.size i.bytes
                      (match o.dst with
                      | some d => mem d H.vecs
                      | none => false)
                      x' y')
                else none) = some op → Turns P F0 N w0 o g s a w v s' := by
        intro hkd hc
        simp only [Option.bind_eq_bind, Option.bind_eq_some_iff] at hc
        obtain ⟨x, hx0, x', hx, y, hy0, y', hy, hc⟩ := hc
        cases hb : (Nat.blt 0 i.size && (len z.cells).beq i.size && args.size.beq 2 && ts.size.beq 2) with
        | false => rw [hb] at hc; simp at hc
        | true =>
          rw [hb] at hc
          simp only [cond_true, Option.some.injEq] at hc; subst hc
          simp only [Bool.and_eq_true, Nat.beq_eq, len_eq] at hb
          obtain ⟨⟨⟨b1, b2⟩, b3⟩, b4⟩ := hb
          have e1 : args = #[x, y] := by
            apply Array.ext_getElem?
            intro j
            match j with
            | 0 => simpa using hx0
            | 1 => simpa using hy0
            | j + 2 => rw [Array.getElem?_eq_none (by omega), Array.getElem?_eq_none (by simp)]
          have e2 : ts = #[t, tx] := by
            apply Array.ext_getElem?
            intro j
            match j with
            | 0 => simpa using ht0
            | 1 => simpa using htx
            | j + 2 => rw [Array.getElem?_eq_none (by omega), Array.getElem?_eq_none (by simp)]
          subst e1; subst e2
          simp only [step] at hs
          generalize (match o.dst with
                      | some d => mem d H.vecs
                      | none => false) = vec at hs hp
          cases vec with
          | true => simp [plainOp, provenOp] at hp
          | false => exact turns_app heq hd hi hz b2 (Nat.le_of_ble_eq_true b1) (by rcases hkd with ⟨e', rfl⟩ | rfl; exact .inl ⟨e', hd2⟩; exact .inr hd2) hx hy h hs
      split at hc <;> try contradiction
      · exact key (.inl ⟨_, rfl⟩) hc
      · exact key (.inr rfl) hc
    · simp only [Option.bind_eq_bind, Option.bind_eq_some_iff] at hc
      obtain ⟨t, ht0, d, hd, hc⟩ := hc
      split at hc <;> try contradiction
      simp only [Option.bind_eq_some_iff, Option.some.injEq] at hc
      obtain ⟨xs, hx, rfl⟩ := hc
      obtain ⟨k1, e⟩ := yields_minmax (P := P) (mx := false) heq hx h hs
      subst e
      exact .of_yields h k1
    · simp only [Option.bind_eq_bind, Option.bind_eq_some_iff] at hc
      obtain ⟨t, ht0, d, hd, hc⟩ := hc
      split at hc <;> try contradiction
      simp only [Option.bind_eq_some_iff, Option.some.injEq] at hc
      obtain ⟨xs, hx, rfl⟩ := hc
      obtain ⟨k1, e⟩ := yields_minmax (P := P) (mx := true) heq hx h hs
      subst e
      exact .of_yields h k1
    · simp only [Option.some.injEq] at hc; subst hc; simp [plainOp, provenOp] at hp
    · simp only [Option.bind_eq_bind, Option.bind_eq_some_iff, Option.some.injEq] at hc
      obtain ⟨xs, hx, rfl⟩ := hc
      simp [plainOp] at hp
    · simp only [Option.bind_eq_bind, Option.bind_eq_some_iff, Option.some.injEq] at hc
      obtain ⟨xs, hx, rfl⟩ := hc
      simp [plainOp] at hp
  · rename_i c heq
    exfalso
    split at hc <;> try contradiction
    simp only [Option.bind_eq_bind, Option.bind_eq_some_iff, Option.some.injEq] at hc
    obtain ⟨_, _, _, _, rfl⟩ := hc
    simp [plainOp] at hp
  · cases hc
end
end Go.Proofs.YtohncbgkiojlnaaGreatDoor.Am
