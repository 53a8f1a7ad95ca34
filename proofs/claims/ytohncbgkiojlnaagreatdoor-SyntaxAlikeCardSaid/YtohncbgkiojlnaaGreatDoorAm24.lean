/- Two operations that may change places do. -/
import Derived.Test.YtohncbgkiojlnaaGreatDoorAm23
set_option linter.unusedVariables false
set_option linter.unusedSimpArgs false
namespace Go.Proofs.YtohncbgkiojlnaaGreatDoor.Am

namespace Tr
variable {α : Type}
theorem putF_fuel : ∀ (f g : Nat) (t : Tr α) (i : Nat) (x : Option α), i < f → i < g → putF f t i x = putF g t i x := by
  intro f
  induction f with
  | zero => intro g t i x h; omega
  | succ f ih =>
    intro g t i x h1 h2
    cases g with
    | zero => omega
    | succ g =>
      cases i with
      | zero => cases t <;> rfl
      | succ i =>
        cases t with
        | nil => simp only [putF, ih g nil _ x (by omega : (i + 1) / 2 < f) (by omega), ih g nil _ x (by omega : (i + 1) / 2 - 1 < f) (by omega)]
        | nd l v r => simp only [putF, ih g l _ x (by omega : (i + 1) / 2 < f) (by omega), ih g r _ x (by omega : (i + 1) / 2 - 1 < f) (by omega)]
theorem put_nil (i : Nat) (x : Option α) : (nil : Tr α).put i x = (nd nil none nil).put i x := by
  cases i <;> rfl
theorem put_zero (l : Tr α) (v : Option α) (r : Tr α) (x : Option α) : (nd l v r).put 0 x = nd l x r := rfl
theorem put_odd (l : Tr α) (v : Option α) (r : Tr α) (k : Nat) (x : Option α) : (nd l v r).put (2 * k + 1) x = nd (l.put k x) v r := by
  have hb : Nat.beq ((2 * k + 1) % 2) 1 = true := by rw [Nat.beq_eq]; omega
  simp only [put, putF, hb, cond_true]
  rw [show (2 * k + 1) / 2 = k from by omega, putF_fuel (2 * k + 1) (k + 1) l k x (by omega) (by omega)]
theorem put_even (l : Tr α) (v : Option α) (r : Tr α) (k : Nat) (x : Option α) : (nd l v r).put (2 * k + 2) x = nd l v (r.put k x) := by
  have hb : Nat.beq ((2 * k + 1 + 1) % 2) 1 = false := by exact beq_f (by omega)
  simp only [put, putF, hb, cond_false]
  rw [show (2 * k + 1 + 1) / 2 - 1 = k from by omega, putF_fuel (2 * k + 2) (k + 1) r k x (by omega) (by omega)]
theorem put_comm : ∀ (n i j : Nat), i + j < n → i ≠ j → ∀ (t : Tr α) (x y : Option α), (t.put i x).put j y = (t.put j y).put i x := by
  intro n
  induction n with
  | zero => intro i j h; omega
  | succ n ih =>
    intro i j hn hij t x y
    have key : ∀ (l : Tr α) v r, ((nd l v r).put i x).put j y = ((nd l v r).put j y).put i x := by
      intro l v r
      have hi : i = 0 ∨ (∃ k, i = 2 * k + 1) ∨ ∃ k, i = 2 * k + 2 := by
        rcases Nat.eq_zero_or_pos i with h | h
        · exact .inl h
        · by_cases hp : i % 2 = 1
          · exact .inr (.inl ⟨i / 2, by omega⟩)
          · exact .inr (.inr ⟨i / 2 - 1, by omega⟩)
      have hj : j = 0 ∨ (∃ k, j = 2 * k + 1) ∨ ∃ k, j = 2 * k + 2 := by
        rcases Nat.eq_zero_or_pos j with h | h
        · exact .inl h
        · by_cases hp : j % 2 = 1
          · exact .inr (.inl ⟨j / 2, by omega⟩)
          · exact .inr (.inr ⟨j / 2 - 1, by omega⟩)
      rcases hi with rfl | ⟨k, rfl⟩ | ⟨k, rfl⟩ <;> rcases hj with rfl | ⟨m, rfl⟩ | ⟨m, rfl⟩ <;> simp only [put_zero, put_odd, put_even]
      · omega
      · rw [ih k m (by omega) (by omega)]
      · rw [ih k m (by omega) (by omega)]
    cases t with
    | nil => rw [put_nil i x, put_nil j y]; exact key _ _ _
    | nd l v r => exact key l v r
end Tr

theorem puts_app (e : Tr AV) (L M : List (Nat × AV)) : puts e (L ++ M) = puts (puts e L) M := by
  induction L generalizing e with
  | nil => rfl
  | cons p L ih => obtain ⟨d, v⟩ := p; simp only [List.cons_append, puts, ih]
theorem puts_put (e : Tr AV) (L : List (Nat × AV)) (d : Nat) (v : AV) (h : ∀ p ∈ L, p.1 ≠ d) : puts (e.put d (some v)) L = (puts e L).put d (some v) := by
  induction L generalizing e with
  | nil => rfl
  | cons p L ih =>
    obtain ⟨c, u⟩ := p
    simp only [puts]
    rw [Tr.put_comm _ d c (Nat.lt_succ_self _) (Ne.symm (h (c, u) (by simp))), ih _ (fun p hp => h p (by simp [hp]))]
theorem puts_comm (e : Tr AV) (L M : List (Nat × AV)) (h : ∀ p ∈ L, ∀ q ∈ M, p.1 ≠ q.1) : puts (puts e L) M = puts (puts e M) L := by
  induction M generalizing e with
  | nil => rfl
  | cons q M ih =>
    obtain ⟨d, v⟩ := q
    simp only [puts]
    rw [← puts_put e L d v (fun p hp => h p hp (d, v) (by simp)), ih _ (fun p hp q hq => h p hp q (by simp [hq]))]
theorem puts_get (e : Tr AV) (L : List (Nat × AV)) (i : Nat) (h : ∀ p ∈ L, p.1 ≠ i) : (puts e L).get i = e.get i := by
  induction L generalizing e with
  | nil => rfl
  | cons p L ih =>
    obtain ⟨d, v⟩ := p
    simp only [puts]
    rw [ih _ (fun p hp => h p (by simp [hp])), Tr.get_put, if_neg (Ne.symm (h (d, v) (by simp)))]
theorem puts_agree {e f : Tr AV} {S : List Nat} (h : Agree e f S) (L : List (Nat × AV)) : Agree (puts e L) (puts f L) S := by
  induction L generalizing e f with
  | nil => exact h
  | cons p L ih =>
    obtain ⟨d, v⟩ := p
    simp only [puts]
    refine ih fun i hi => ?_
    rw [Tr.get_put, Tr.get_put]
    split
    · rfl
    · exact h i hi

theorem wanted_eq {s : St} {e : Tr AV} {gd : Option (Nat × Bool)} (h : ∀ t b, gd = some (t, b) → e.get t = s.e.get t) : wanted (s.sete e) gd = wanted s gd := by
  cases gd with
  | none => rfl
  | some p => obtain ⟨t, b⟩ := p; simp only [wanted, sete_e, h t b rfl]

theorem put_local {s s1 : St} {d : Option Nat} {v : AV} (h : s.put d v = some s1) : ∃ L : List (Nat × AV), (∀ p ∈ L, d = some p.1) ∧ s1 = s.sete (puts s.e L) ∧
    ∀ (t : St) e2, (∀ i, d = some i → e2.get i = s.e.get i) → (t.sete e2).put d v = some (t.sete (puts e2 L)) := by
  cases d with
  | none => simp only [St.put, Option.some.injEq] at h; subst h; exact ⟨[], by simp, rfl, fun t e2 _ => rfl⟩
  | some d =>
    simp only [St.put] at h
    split at h <;> simp only [reduceCtorEq, Option.some.injEq] at h
    rename_i hne
    subst h
    refine ⟨[(d, v)], by simp, rfl, fun t e2 ha => ?_⟩
    have := ha d rfl
    simp only [St.put, sete_e]
    rw [this]
    split
    · rename_i heq; exact absurd heq (hne _ _)
    · rfl

theorem stepO_put {call : Call} {o : AOper} {s : St} : stepO call o s = (match wanted s o.guard with
    | none => none
    | some false => s.put o.dst (.tuple [])
    | some true => bif !apOk s o then none else match step call o.op s with
      | none => none
      | some (v, s1) => if noPut o.op then some s1 else s1.put o.dst v) := by
  unfold stepO
  cases wanted s o.guard with
  | none => rfl
  | some b =>
    cases b with
    | false => rfl
    | true =>
      simp only
      cases apOk s o with
      | false => rfl
      | true =>
        simp only [Bool.not_true, cond_false]
        cases step call o.op s with
        | none => rfl
        | some r => obtain ⟨v, s1⟩ := r; cases o.op <;> rfl

theorem outs_dst {o : AOper} (h : noPut o.op = false) : ∀ d, o.dst = some d → d ∈ outs o := by
  intro d hd
  unfold outs
  cases hop : o.op <;> simp_all [noPut]
theorem outs_op {o : AOper} : ∀ d ∈ outsOp o.op, d ∈ outs o := by
  intro d hd
  unfold outs
  cases hop : o.op <;> rw [hop] at hd <;> simp [outsOp] at hd
  · simp [hd]
  · simp [hd]
  · subst hd; cases o.dst <;> simp

/-- One operation at another frame that agrees on what it looks at. -/
theorem stepO_local {call : Call} {o : AOper} {s s1 : St} (hap : o.ap = []) (h : stepO call o s = some s1) (hg : noPut o.op = true → o.guard = none) :
    ∃ L : List (Nat × AV), (∀ p ∈ L, p.1 ∈ outs o) ∧ s1.e = puts s.e L ∧ ∀ e2, Agree e2 s.e (insO o) → Agree e2 s.e (outs o) → stepO call o (s.sete e2) = some (s1.sete (puts e2 L)) := by
  have hw : ∀ e2, Agree e2 s.e (insO o) → wanted (s.sete e2) o.guard = wanted s o.guard := by
    intro e2 ha
    refine wanted_eq fun t b hgd => ha t ?_
    simp [insO, hgd]
  have hins : ∀ e2, Agree e2 s.e (insO o) → Agree e2 s.e (ins o.op) := by
    intro e2 ha i hi
    refine ha i ?_
    unfold insO
    split
    · exact hi
    · exact List.mem_cons_of_mem _ hi
  have hapo : ∀ t : St, apOk t o = true := by intro t; simp [apOk, hap]
  rw [stepO_put] at h
  cases hwv : wanted s o.guard with
  | none => rw [hwv] at h; cases h
  | some b =>
    rw [hwv] at h
    cases b with
    | false =>
      simp only at h
      have hnp : noPut o.op = false := by
        cases hn : noPut o.op with
        | false => rfl
        | true => rw [hg hn] at hwv; simp [wanted] at hwv
      obtain ⟨L, k1, k2, k3⟩ := put_local h
      refine ⟨L, fun p hp => outs_dst hnp _ (k1 p hp), by rw [k2]; rfl, fun e2 ha hb => ?_⟩
      rw [stepO_put, hw e2 ha, hwv]
      simp only
      rw [k3 s e2 (fun i hi => hb i (outs_dst hnp i hi)), k2]
      rfl
    | true =>
      simp only [hapo, Bool.not_true, cond_false] at h
      cases hst : step call o.op s with
      | none => rw [hst] at h; cases h
      | some r =>
        obtain ⟨v, s2⟩ := r
        rw [hst] at h
        obtain ⟨L, k1, k2, k3⟩ := step_local o.op v s2 hst
        cases hn : noPut o.op with
        | true =>
          rw [hn] at h
          simp only [if_true, Option.some.injEq] at h
          subst h
          refine ⟨L, fun p hp => outs_op _ (k1 p hp), k2, fun e2 ha hb => ?_⟩
          rw [stepO_put, hw e2 ha, hwv]
          simp only [hapo, Bool.not_true, cond_false, k3 e2 (hins e2 ha), hn, if_true]
        | false =>
          rw [hn] at h
          simp only [Bool.false_eq_true, if_false] at h
          obtain ⟨M, m1, m2, m3⟩ := put_local h
          refine ⟨L ++ M, fun p hp => (List.mem_append.1 hp).elim (fun hp => outs_op _ (k1 p hp)) (fun hp => outs_dst hn _ (m1 p hp)), by rw [m2, puts_app, k2]; rfl, fun e2 ha hb => ?_⟩
          rw [stepO_put, hw e2 ha, hwv]
          simp only [hapo, Bool.not_true, cond_false, k3 e2 (hins e2 ha), hn, Bool.false_eq_true, if_false]
          rw [m3 s2 (puts e2 L) (fun i hi => ?_), puts_app, m2]
          · rfl
          · rw [k2]
            exact puts_agree (S := [i]) (fun j hj => by simp at hj; subst hj; exact hb j (outs_dst hn j hi)) L i (by simp)
end Go.Proofs.YtohncbgkiojlnaaGreatDoor.Am
