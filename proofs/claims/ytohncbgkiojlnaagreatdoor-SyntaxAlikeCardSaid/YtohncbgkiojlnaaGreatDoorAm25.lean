/- Whatever order is drawn, the run is the same. -/
import Derived.Test.YtohncbgkiojlnaaGreatDoorAm24
import Derived.Orders
set_option linter.unusedVariables false
set_option linter.unusedSimpArgs false
namespace Go.Proofs.YtohncbgkiojlnaaGreatDoor.Am

theorem mem_iff {n : Nat} {l : List Nat} : mem n l = true ↔ n ∈ l := by
  induction l with
  | nil => simp [mem]
  | cons m l ih => simp [mem, ih, Nat.beq_eq]
theorem apart_iff {a b : List Nat} : apart a b = true ↔ ∀ x ∈ a, x ∉ b := by
  induction a with
  | nil => simp [apart]
  | cons x xs ih =>
    simp only [apart, Bool.and_eq_true, Bool.not_eq_true', ih, List.mem_cons, forall_eq_or_imp]
    constructor
    · rintro ⟨h1, h2⟩
      exact ⟨fun h => (by rw [mem_iff.2 h] at h1; exact absurd h1 (by simp)), h2⟩
    · rintro ⟨h1, h2⟩
      refine ⟨?_, h2⟩
      cases hm : mem x b with
      | false => rfl
      | true => exact absurd (mem_iff.1 hm) h1

theorem plainO_iff {o : AOper} (h : plainO o = true) : o.ap = [] ∧ (noPut o.op = true → o.guard = none) := by
  simp only [plainO, Bool.and_eq_true, Bool.or_eq_true, Bool.not_eq_true'] at h
  refine ⟨?_, fun hn => ?_⟩
  · cases hap : o.ap with
    | nil => rfl
    | cons x xs => rw [hap] at h; simp at h
  · rw [hn] at h
    cases hgd : o.guard with
    | none => rfl
    | some x => rw [hgd] at h; simp at h

theorem agree_puts {e : Tr AV} {L : List (Nat × AV)} {S : List Nat} (h : ∀ p ∈ L, p.1 ∉ S) : Agree (puts e L) e S := fun i hi => puts_get e L i (fun p hp e1 => h p hp (e1 ▸ hi))
theorem agree_puts' {e : Tr AV} {L : List (Nat × AV)} {S : List Nat} (h : ∀ p ∈ L, p.1 ∉ S) : Agree e (puts e L) S := fun i hi => (puts_get e L i (fun p hp e1 => h p hp (e1 ▸ hi))).symm

theorem stepO_reads {call : Call} {o : AOper} {s s1 : St} (hn : isRd (hc o.op) = true) (h : stepO call o s = some s1) : s1 = s.sete s1.e := by
  have hput : ∀ {s s1 : St} {d v}, s.put d v = some s1 → s1 = s.sete s1.e := by
    intro s s1 d v h
    obtain ⟨L, _, k, _⟩ := put_local h
    rw [k]; rfl
  rw [stepO_put] at h
  split at h <;> try contradiction
  · exact hput h
  · cases hap : apOk s o with
    | false => rw [hap] at h; simp at h
    | true =>
      rw [hap] at h
      simp only [Bool.not_true, cond_false] at h
      split at h <;> try contradiction
      rename_i v s2 hst
      have h2 := step_reads o.op hn hst
      split at h
      · simp only [Option.some.injEq] at h; subst h; exact h2
      · have h3 := hput h
        rw [h3, h2]; rfl

theorem stepO_free {call : Call} {o : AOper} {s s1 : St} (hap : o.ap = []) (hn : isN (hc o.op) = true) (h : stepO call o s = some s1) (t : St) : stepO call o (t.sete s.e) = some (t.sete s1.e) := by
  have hput : ∀ {s s1 : St} {d v}, s.put d v = some s1 → ∀ t : St, (t.sete s.e).put d v = some (t.sete s1.e) := by
    intro s s1 d v h t
    obtain ⟨L, _, k, k2⟩ := put_local h
    rw [k2 t s.e (fun _ _ => rfl), k]
    rfl
  have hapo : ∀ t : St, apOk t o = true := by intro t; simp [apOk, hap]
  have hw : wanted (t.sete s.e) o.guard = wanted s o.guard := by
    cases o.guard with
    | none => rfl
    | some p => rfl
  rw [stepO_put] at h ⊢
  rw [hw]
  split at h <;> try contradiction
  · exact hput h t
  · simp only [hapo, Bool.not_true, cond_false] at h ⊢
    rw [step_free o.op hn]
    split at h <;> try contradiction
    rename_i v s2 hst
    rw [hst]
    simp only [Option.map_some]
    split at h
    · rename_i hnp
      simp only [Option.some.injEq] at h; subst h
      rw [if_pos hnp]
    · rename_i hnp
      rw [if_neg hnp]
      exact hput h t

/-- Two that may change places do. -/
theorem swap_runs {call : Call} {x y : AOper} {s s1 s2 : St} (h : swaps x y = true) (h1 : stepO call x s = some s1) (h2 : stepO call y s1 = some s2) : ∃ t, stepO call y s = some t ∧ stepO call x t = some s2 := by
  simp only [swaps, Bool.and_eq_true] at h
  obtain ⟨⟨⟨⟨⟨hpx, hpy⟩, ha1⟩, ha2⟩, ha3⟩, hcl⟩ := h
  obtain ⟨apx, gx⟩ := plainO_iff hpx
  obtain ⟨apy, gy⟩ := plainO_iff hpy
  have ha1 := apart_iff.1 ha1
  have ha2 := apart_iff.1 ha2
  have ha3 := apart_iff.1 ha3
  obtain ⟨Lx, x1, x2, x3⟩ := stepO_local apx h1 gx
  obtain ⟨Ly, y1, y2, y3⟩ := stepO_local apy h2 gy
  have dxy : ∀ p ∈ Lx, ∀ q ∈ Ly, p.1 ≠ q.1 := fun p hp q hq e => ha1 _ (x1 p hp) (e ▸ y1 q hq)
  -- y at the frame ahead of x
  have hy : stepO call y (s1.sete s.e) = some (s2.sete (puts s.e Ly)) := by
    refine y3 s.e ?_ ?_
    · rw [x2]; exact agree_puts' fun p hp hq => ha2 _ (x1 p hp) hq
    · rw [x2]; exact agree_puts' fun p hp hq => ha1 _ (x1 p hp) hq
  have agx1 : Agree (puts s.e Ly) s.e (insO x) := agree_puts fun p hp hq => ha3 _ (y1 p hp) hq
  have agx2 : Agree (puts s.e Ly) s.e (outs x) := agree_puts fun p hp hq => ha1 _ hq (y1 p hp)
  have hs2e : s2.e = puts (puts s.e Ly) Lx := by rw [y2, x2]; exact puts_comm s.e Lx Ly dxy
  by_cases nx : isN (hc x.op) = true
  · -- x asks nothing
    have hrx : s1 = s.sete s1.e := stepO_reads (by cases hh : hc x.op <;> rw [hh] at nx <;> simp_all [isN, isRd]) h1
    have e1 : s1.sete s.e = s := by rw [hrx]; rfl
    rw [e1] at hy
    refine ⟨_, hy, ?_⟩
    have hf := stepO_free apx nx h1 s2
    -- from s2.sete s.e to s2.sete (puts s.e Ly)
    obtain ⟨Lx', q1, q2, q3⟩ := stepO_local apx hf gx
    have := x3
    have hL : stepO call x ((s2.sete s.e).sete (puts s.e Ly)) = some ((s2.sete s1.e).sete (puts (puts s.e Ly) Lx')) := q3 (puts s.e Ly) agx1 agx2
    have hx3 := x3 (puts s.e Ly) agx1 agx2
    have hfr := stepO_free apx nx hx3 s2
    simp only [sete_e, sete_sete] at hfr
    rw [hfr, ← hs2e]
    rfl
  · by_cases ny : isN (hc y.op) = true
    · have hry : s2 = s1.sete s2.e := stepO_reads (by cases hh : hc y.op <;> rw [hh] at ny <;> simp_all [isN, isRd]) h2
      have hf := stepO_free apy ny hy s
      simp only [sete_e, sete_self, sete_sete] at hf
      refine ⟨_, hf, ?_⟩
      rw [x3 (puts s.e Ly) agx1 agx2, ← hs2e, ← hry]
    · have hr : isRd (hc x.op) = true ∧ isRd (hc y.op) = true := by
        cases hx : hc x.op <;> cases hyy : hc y.op <;> rw [hx, hyy] at hcl <;> simp_all [hcOk, isRd, isN]
      have hrx : s1 = s.sete s1.e := stepO_reads hr.1 h1
      have e1 : s1.sete s.e = s := by rw [hrx]; rfl
      rw [e1] at hy
      have hry : s2 = s1.sete s2.e := stepO_reads hr.2 h2
      refine ⟨_, hy, ?_⟩
      have e2 : s2.sete (puts s.e Ly) = s.sete (puts s.e Ly) := by rw [hry, hrx]; rfl
      rw [e2, x3 (puts s.e Ly) agx1 agx2, ← hs2e, ← hry]

theorem runOps_app {call : Call} {a b : List AOper} {s : St} : runOps call (a ++ b) s = match runOps call a s with | none => none | some s => runOps call b s := by
  induction a generalizing s with
  | nil => rfl
  | cons x a ih =>
    simp only [List.cons_append, runOps]
    cases stepO call x s with
    | none => rfl
    | some s1 => exact ih

/-- One is taken to the front. -/
theorem front_runs {call : Call} {x : AOper} {post : List AOper} : ∀ {pre : List AOper} {s s' : St}, (∀ p ∈ pre, swaps p x = true) → runOps call (pre ++ x :: post) s = some s' → runOps call (x :: (pre ++ post)) s = some s' := by
  intro pre
  induction pre with
  | nil => intro s s' _ h; exact h
  | cons p pre ih =>
    intro s s' hsw h
    simp only [List.cons_append, runOps] at h
    cases hp : stepO call p s with
    | none => rw [hp] at h; cases h
    | some s1 =>
      rw [hp] at h
      have h1 := ih (fun q hq => hsw q (by simp [hq])) h
      simp only [runOps] at h1
      cases hx : stepO call x s1 with
      | none => rw [hx] at h1; cases h1
      | some s2 =>
        rw [hx] at h1
        obtain ⟨t, k1, k2⟩ := swap_runs (hsw p (by simp)) hp hx
        simp only [List.cons_append, runOps, k1, k2]
        exact h1
end Go.Proofs.YtohncbgkiojlnaaGreatDoor.Am
