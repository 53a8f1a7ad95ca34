/- More rounds tell the same; the machine without a bound on rounds. -/
import Derived.Test.YtohncbgkiojlnaaGreatDoorAm30
set_option linter.unusedVariables false
set_option linter.unusedSimpArgs false
namespace Go.Proofs.YtohncbgkiojlnaaGreatDoor.Am

def CLe (c c' : Call) : Prop := ∀ f args hp r, c f args hp = some r → c' f args hp = some r

theorem rounds_mono {f f' : St → Option (Out × St)} (h : ∀ s r, f s = some r → f' s = some r) : ∀ (n m : Nat) (s : St) (r : Out × St), n ≤ m → rounds f n s = some r → rounds f' m s = some r := by
  intro n
  induction n with
  | zero => intro m s r _ hs; simp [rounds] at hs
  | succ n ih =>
    intro m s r hm hs
    obtain ⟨m, rfl⟩ : ∃ k, m = k + 1 := ⟨m - 1, by omega⟩
    simp only [rounds] at hs ⊢
    cases hf : f s with
    | none => rw [hf] at hs; simp at hs
    | some x =>
      rw [hf] at hs
      rw [h _ _ hf]
      obtain ⟨o, s1⟩ := x
      cases o with
      | norm => exact ih m s1 r (by omega) hs
      | exit i => exact hs
      | ret => exact hs

section
variable {c c' : Call} (hc : CLe c c')
include hc
theorem doCall_mono {s : St} {m : Nat} {f : FuncId} {args : List AV} {r : AV × St} (h : doCall c s m f args = some r) : doCall c' s m f args = some r := by
  unfold doCall at h ⊢
  split at h
  · split at h <;> try contradiction
    rename_i heq
    simp only [hc _ _ _ _ heq]; exact h
  · split at h <;> try contradiction
    rename_i heq
    simp only [hc _ _ _ _ heq]; exact h
  · split at h <;> try contradiction
    split at h <;> try contradiction
    rename_i heq
    simp only [hc _ _ _ _ heq]; exact h
  · split at h <;> try contradiction
    rename_i heq
    simp only [hc _ _ _ _ heq]; exact h
  · split at h <;> try contradiction
    rename_i heq
    simp only [hc _ _ _ _ heq]; exact h

theorem step_mono {o : AOp} {s : St} {r : AV × St} (h : step c o s = some r) : step c' o s = some r := by
  cases o
  case call m f as_ =>
    simp only [step] at h ⊢
    rw [cond_some_one] at h ⊢
    exact ⟨h.1, doCall_mono hc h.2⟩
  case cav m f as_ =>
    simp only [step] at h ⊢
    split at h <;> try contradiction
    · rw [cond_some_one] at h ⊢
      exact ⟨h.1, doCall_mono hc h.2⟩
    · split at h <;> try contradiction
      split at h <;> try contradiction
      rename_i heq
      simp only [hc _ _ _ _ heq]; exact h
  all_goals exact h

theorem stepO_mono {o : AOper} {s s' : St} (h : stepO c o s = some s') : stepO c' o s = some s' := by
  unfold stepO at h ⊢
  split at h
  · exact h
  · exact h
  · rename_i hw
    cases hap : apOk s o with
    | false => rw [hap] at h; simp at h
    | true =>
      rw [hap] at h
      simp only [Bool.not_true, cond_false] at h ⊢
      split at h <;> try contradiction
      rename_i v s1 heq
      rw [step_mono hc heq]
      exact h

theorem runOps_mono {os : List AOper} : ∀ {s s' : St}, runOps c os s = some s' → runOps c' os s = some s' := by
  induction os with
  | nil => intro s s' h; exact h
  | cons o os ih =>
    intro s s' h
    simp only [runOps] at h ⊢
    split at h <;> try contradiction
    rename_i s1 heq
    rw [stepO_mono hc heq]
    exact ih h

theorem exec_mono {n m : Nat} (hn : n ≤ m) {ac : ACode} : ∀ {s : St} {r : Out × St}, exec c n ac s = some r → exec c' m ac s = some r := by
  induction ac with
  | skip => intro s r h; exact h
  | exit id => intro s r h; exact h
  | ret => intro s r h; exact h
  | fail => intro s r h; exact h
  | region k ops =>
    intro s r h
    simp only [exec] at h ⊢
    split at h <;> try contradiction
    rename_i s1 heq
    rw [runOps_mono hc heq]; exact h
  | seq a b iha ihb =>
    intro s r h
    simp only [exec] at h ⊢
    split at h
    · rename_i s1 heq
      rw [iha heq]
      exact ihb h
    · rename_i hne
      cases ha : exec c n a s with
      | none => rw [ha] at h; simp at h
      | some x =>
        rw [ha] at h
        rw [iha ha]
        obtain ⟨o, s1⟩ := x
        cases o with
        | norm => exact absurd ha (hne s1)
        | exit i => exact h
        | ret => exact h
  | cond x a b iha ihb =>
    intro s r h
    simp only [exec] at h ⊢
    split at h <;> try contradiction
    · exact iha h
    · exact ihb h
  | block id a iha =>
    intro s r h
    simp only [exec] at h ⊢
    cases ha : exec c n a s with
    | none => rw [ha] at h; simp at h
    | some x => rw [ha] at h; rw [iha ha]; exact h
  | loop k o sh a iha =>
    intro s r h
    simp only [exec] at h ⊢
    split at h <;> try contradiction
    rename_i o1 s1 heq
    rw [rounds_mono (f' := fun s => exec c' m a (s.keepO k)) (fun s r hh => iha hh) n m s _ hn heq]
    exact h
  | keep l a iha =>
    intro s r h
    simp only [exec] at h ⊢
    exact iha h
  | rangeF ps A B aA aB f _ _ =>
    intro s r h
    simp only [exec] at h ⊢
    split at h <;> try contradiction
    split at h <;> try contradiction
    rename_i heq
    simp only [hc _ _ _ _ heq]
    exact h

theorem callD_mono {C : Tab} {n m : Nat} (hn : n ≤ m) {f : FuncId} {args : List AV} {hp hp' : Hp} (h : callD C c n f args hp = some hp') : callD C c' m f args hp = some hp' := by
  unfold callD at h ⊢
  split at h <;> try contradiction
  rename_i fn heq
  cases hb : ((len args).beq fn.np && fn.handler) with
  | false => rw [hb] at h; simp at h
  | true =>
    simp only [hb, cond_true] at h ⊢
    cases he : exec c n fn.body ⟨Tr.nil.ofList 0 args, hp.h, hp.nx, hp.nx, hp.ro, []⟩ with
    | none => rw [he] at h; simp at h
    | some x => rw [he] at h; rw [exec_mono hc hn he]; exact h
theorem runDf_mono {C : Tab} {n m : Nat} (hn : n ≤ m) : ∀ {ds : List Df} {hp hp' : Hp}, runDf (callD C c n) ds hp = some hp' → runDf (callD C c' m) ds hp = some hp' := by
  intro ds
  induction ds with
  | nil => intro hp hp' h; exact h
  | cons d ds ih =>
    intro hp hp' h
    cases d with
    | mark r =>
      simp only [runDf] at h ⊢
      split at h <;> try contradiction
      rw [cond_some_one] at h ⊢
      exact ⟨h.1, ih h.2⟩
    | call f args =>
      simp only [runDf] at h ⊢
      split at h <;> try contradiction
      rename_i heq
      rw [callD_mono hc hn heq]
      exact ih h
theorem callF_mono {C : Tab} {n m : Nat} (hn : n ≤ m) {f : FuncId} {args : List AV} {hp : Hp} {r : AV × Hp} (h : callF C c n f args hp = some r) : callF C c' m f args hp = some r := by
  unfold callF at h ⊢
  split at h <;> try contradiction
  rename_i fn heq
  cases hb : ((len args).beq fn.np && !fn.handler) with
  | false => rw [hb] at h; simp at h
  | true =>
    simp only [hb, cond_true] at h ⊢
    cases he : exec c n fn.body ⟨Tr.nil.ofList 0 args, hp.h, hp.nx, hp.nx, hp.ro, []⟩ with
    | none => rw [he] at h; simp at h
    | some x =>
      rw [he] at h; rw [exec_mono hc hn he]
      obtain ⟨o, s⟩ := x
      cases o with
      | exit i => simp at h
      | norm =>
        simp only at h ⊢
        split at h <;> try contradiction
        rename_i hd
        rw [runDf_mono hc hn hd]; exact h
      | ret =>
        simp only at h ⊢
        split at h <;> try contradiction
        rename_i hd
        rw [runDf_mono hc hn hd]; exact h
theorem callY_mono {n m : Nat} (hn : n ≤ m) {l : Nat} {args : List AV} {hp : Hp} {r : AV × Hp} (h : callY c n l args hp = some r) : callY c' m l args hp = some r := by
  unfold callY at h ⊢
  split at h <;> try contradiction
  rw [cond_some_one] at h ⊢
  refine ⟨h.1, ?_⟩
  have h := h.2
  split at h <;> try contradiction
  rename_i s1 h1
  rw [exec_mono hc hn h1]
  simp only
  cases h2 : s1.h.get l with
  | none => rw [h2] at h; exact h
  | some o =>
    rw [h2] at h
    cases o with
    | loop f1 p1 e1 A1 B1 a1 b1 st =>
      cases st with
      | succ st => exact h
      | zero =>
        simp only at h ⊢
        split at h <;> try contradiction
        rename_i s2 h3
        rw [exec_mono hc hn h3]
        exact h
    | _ => exact h
end

theorem callN_mono {C : Tab} {nat : FuncId → Option Call} : ∀ (n m : Nat), n ≤ m → CLe (callN C nat n) (callN C nat m) := by
  intro n
  induction n with
  | zero => intro m _ f args hp r h; simp [callN] at h
  | succ n ih =>
    intro m hm f args hp r h
    obtain ⟨m, rfl⟩ : ∃ k, m = k + 1 := ⟨m - 1, by omega⟩
    have hle := ih m (by omega)
    have hnm : n ≤ m := by omega
    simp only [callN] at h ⊢
    generalize Nat.ble ycode f = b1 at h ⊢
    generalize Nat.beq ((f - ycode) % 2) 0 = b2 at h ⊢
    generalize (f - ycode) / 2 = q at h ⊢
    cases b1 with
    | true =>
      cases b2 with
      | true => exact callY_mono hle hnm h
      | false => exact callF_mono hle hnm h
    | false =>
      simp only [cond_false] at h ⊢
      split at h
      · exact h
      · exact callF_mono hle hnm h

/-! ### Without a bound -/
open Classical in
noncomputable def lim {α : Type} (p : Nat → Option α) : Option α := if h : ∃ n r, p n = some r then p (Classical.choose h) else none
theorem lim_iff {α : Type} {p : Nat → Option α} (hm : ∀ n m r, n ≤ m → p n = some r → p m = some r) {r : α} : lim p = some r ↔ ∃ n, p n = some r := by
  constructor
  · intro h
    unfold lim at h
    split at h <;> try contradiction
    exact ⟨_, h⟩
  · rintro ⟨n, hn⟩
    have hx : ∃ n r, p n = some r := ⟨n, r, hn⟩
    unfold lim
    rw [dif_pos hx]
    obtain ⟨r', hr'⟩ := Classical.choose_spec hx
    rw [hr']
    rcases Nat.le_total n (Classical.choose hx) with h | h
    · rw [← hr', hm _ _ _ h hn]
    · rw [← hm _ _ _ h hr', hn]

/-! ### What is kept is kept again -/
def eff : Option AV → Option AV
  | none => none
  | some (.lptr ..) => none
  | some v => some v
theorem eff_eff (v : Option AV) : eff (eff v) = eff v := by
  cases v with
  | none => rfl
  | some v => cases v <;> rfl
theorem keepE_step {e : Tr AV} {d : Nat} {ds : List Nat} {t : Tr AV} : keepE e (d :: ds) t = keepE e ds (match eff (e.get d) with | none => t | some v => t.put d (some v)) := by
  simp only [keepE]
  cases e.get d with
  | none => rfl
  | some v => cases v <;> rfl
theorem keepE_ext {e e' : Tr AV} : ∀ (l : List Nat) (t : Tr AV), (∀ d ∈ l, eff (e'.get d) = eff (e.get d)) → keepE e' l t = keepE e l t := by
  intro l
  induction l with
  | nil => intro t _; rfl
  | cons d ds ih =>
    intro t h
    rw [keepE_step, keepE_step, h d (by simp)]
    exact ih _ fun x hx => h x (by simp [hx])
theorem keepE_eff {e : Tr AV} : ∀ (l : List Nat) (t : Tr AV) (d : Nat), (t.get d = none ∨ t.get d = eff (e.get d)) → (d ∈ l → (keepE e l t).get d = eff (e.get d)) ∧ ((keepE e l t).get d = none ∨ (keepE e l t).get d = eff (e.get d)) := by
  intro l
  induction l with
  | nil => intro t d h; exact ⟨fun hd => by simp at hd, h⟩
  | cons x xs ih =>
    intro t d h
    rw [keepE_step]
    have h2 : (match eff (e.get x) with | none => t | some v => t.put x (some v)).get d = none ∨ (match eff (e.get x) with | none => t | some v => t.put x (some v)).get d = eff (e.get d) := by
      cases hx : eff (e.get x) with
      | none => exact h
      | some v =>
        simp only [Tr.get_put]
        by_cases e1 : d = x
        · subst e1; rw [if_pos rfl, hx]; exact .inr rfl
        · rw [if_neg e1]; exact h
    obtain ⟨k1, k2⟩ := ih _ d h2
    refine ⟨fun hd => ?_, k2⟩
    by_cases hdx : d ∈ xs
    · exact k1 hdx
    · have : d = x := by simp at hd; rcases hd with h | h; exact h; exact absurd h hdx
      subst this
      rcases k2 with k2 | k2
      · rw [k2]
        cases hx : eff (e.get d) with
        | none => rfl
        | some v =>
          have keepn : ∀ (l : List Nat) (t : Tr AV) (d : Nat) (v : AV), t.get d = some v → ∃ u, (keepE e l t).get d = some u := by
            intro l
            induction l with
            | nil => intro t d v h; exact ⟨v, h⟩
            | cons y ys ihy =>
              intro t d v h
              rw [keepE_step]
              cases hy : eff (e.get y) with
              | none => exact ihy t d v h
              | some u =>
                by_cases e1 : d = y
                · exact ihy _ d u (by rw [Tr.get_put, if_pos e1])
                · exact ihy _ d v (by rw [Tr.get_put, if_neg e1]; exact h)
          obtain ⟨u, hu⟩ := keepn xs (match eff (e.get d) with | none => t | some v => t.put d (some v)) d v (by rw [hx]; simp only [Tr.get_put, if_true])
          rw [k2] at hu; cases hu
      · exact k2
theorem keepO_keepO (s : St) (k : Option (List Nat)) : (s.keepO k).keepO k = s.keepO k := by
  cases k with
  | none => rfl
  | some l =>
    simp only [St.keepO, St.keep]
    have : keepE (keepE s.e l .nil) l .nil = keepE s.e l .nil := keepE_ext l .nil fun d hd => by
      rw [((keepE_eff l .nil d (.inl (Tr.get_nil d))).1 hd), eff_eff]
    rw [this]
theorem exec_loop_keep {call : Call} {n : Nat} {k o : Option (List Nat)} {sh : List (Nat × Sh)} {c : ACode} {s : St} : exec call n (.loop k o sh c) (s.keepO k) = exec call n (.loop k o sh c) s := by
  simp only [exec]
  have : rounds (fun s => exec call n c (s.keepO k)) n (s.keepO k) = rounds (fun s => exec call n c (s.keepO k)) n s := by
    cases n with
    | zero => rfl
    | succ n => simp only [rounds, keepO_keepO]
  rw [this]

section
variable (C : Tab) (nat : FuncId → Option Call)
noncomputable def runW : Call := fun f args hp => lim fun n => callN C nat n f args hp
noncomputable def lpW (k o : Option (List Nat)) (c : ACode) (s : St) : Option (Out × St) := lim fun n => exec (callN C nat n) n (.loop k o [] c) s
variable {C nat}
theorem runW_iff {f : FuncId} {args : List AV} {hp : Hp} {r : AV × Hp} : runW C nat f args hp = some r ↔ ∃ n, callN C nat n f args hp = some r :=
  lim_iff fun n m r h hh => callN_mono n m h _ _ _ _ hh
theorem lpW_iff {k o : Option (List Nat)} {c : ACode} {s : St} {r : Out × St} : lpW C nat k o c s = some r ↔ ∃ n, exec (callN C nat n) n (.loop k o [] c) s = some r :=
  lim_iff fun n m r h hh => exec_mono (callN_mono n m h) h hh
theorem run_runW {n : Nat} {f : FuncId} {args : List AV} {hp : Hp} {r : AV × Hp} (h : callN C nat n f args hp = some r) : runW C nat f args hp = some r := runW_iff.2 ⟨n, h⟩

/-- The code's run over given calls and given loops. -/
def execL (call : Call) (lp : Option (List Nat) → Option (List Nat) → ACode → St → Option (Out × St)) : ACode → St → Option (Out × St)
  | .skip, s => some (.norm, s)
  | .region m ops, s => match runOps call ops { s with rb := s.nx, nx := s.nx + m } with
    | none => none
    | some s => some (.norm, s)
  | .seq a b, s => match execL call lp a s with
    | some (.norm, s) => execL call lp b s
    | r => r
  | .cond x a b, s => match s.ev x with
    | .bool true => execL call lp a s
    | .bool false => execL call lp b s
    | _ => none
  | .block id c, s => match execL call lp c s with
    | some (.exit i, s) => some (bif Nat.beq i id then .norm else .exit i, s)
    | r => r
  | .loop keep outs _ c, s => lp keep outs c (s.keepO keep)
  | .exit id, s => some (.exit id, s)
  | .ret, s => some (.ret, s)
  | .keep l c, s => execL call lp c (s.keep l)
  | .rangeF .., _ => none
  | .fail, _ => none

theorem runOps_lim {os : List AOper} : ∀ {s s' : St}, runOps (runW C nat) os s = some s' → ∃ n, runOps (callN C nat n) os s = some s' := by
  have hdo : ∀ {s : St} {m : Nat} {f : FuncId} {args : List AV} {r : AV × St}, doCall (runW C nat) s m f args = some r → ∃ n, doCall (callN C nat n) s m f args = some r := by
    intro s m f args r h
    unfold doCall at h
    split at h
    · split at h <;> try contradiction
      rename_i heq
      obtain ⟨n, hn⟩ := runW_iff.1 heq
      exact ⟨n, by simp only [doCall, hn]; exact h⟩
    · split at h <;> try contradiction
      rename_i heq
      obtain ⟨n, hn⟩ := runW_iff.1 heq
      exact ⟨n, by simp only [doCall, hn]; exact h⟩
    · split at h <;> try contradiction
      rename_i hsn
      split at h <;> try contradiction
      rename_i heq
      obtain ⟨n, hn⟩ := runW_iff.1 heq
      exact ⟨n, by simp only [doCall, hsn, hn]; exact h⟩
    · split at h <;> try contradiction
      rename_i heq
      obtain ⟨n, hn⟩ := runW_iff.1 heq
      exact ⟨n, by simp only [doCall, hn]; exact h⟩
    · rename_i h0 h1 h2 h3
      split at h <;> try contradiction
      rename_i heq
      obtain ⟨n, hn⟩ := runW_iff.1 heq
      refine ⟨n, ?_⟩
      unfold doCall
      split
      · exact absurd rfl h0
      · exact absurd rfl h1
      · exact absurd rfl h2
      · exact absurd rfl h3
      · rw [hn]; exact h
  have hstep : ∀ {o : AOp} {s : St} {r : AV × St}, step (runW C nat) o s = some r → ∃ n, step (callN C nat n) o s = some r := by
    intro o s r h
    cases o
    case call m f as_ =>
      simp only [step] at h ⊢
      rw [cond_some_one] at h
      obtain ⟨n, hn⟩ := hdo h.2
      exact ⟨n, by rw [cond_some_one]; exact ⟨h.1, hn⟩⟩
    case cav m f as_ =>
      simp only [step] at h
      split at h <;> try contradiction
      · rename_i hev
        rw [cond_some_one] at h
        obtain ⟨n, hn⟩ := hdo h.2
        exact ⟨n, by simp only [step, hev]; rw [cond_some_one]; exact ⟨h.1, hn⟩⟩
      · rename_i hev
        split at h <;> try contradiction
        split at h <;> try contradiction
        rename_i heq
        obtain ⟨n, hn⟩ := runW_iff.1 heq
        exact ⟨n, by simp only [step, hev, hn]; exact h⟩
    all_goals exact ⟨0, h⟩
  have hO : ∀ {o : AOper} {s s' : St}, stepO (runW C nat) o s = some s' → ∃ n, stepO (callN C nat n) o s = some s' := by
    intro o s s' h
    unfold stepO at h
    split at h
    · exact absurd h (by simp)
    · rename_i hw
      exact ⟨0, by unfold stepO; rw [hw]; exact h⟩
    · rename_i hw
      cases hap : apOk s o with
      | false => rw [hap] at h; simp at h
      | true =>
        rw [hap] at h
        simp only [Bool.not_true, cond_false] at h
        split at h <;> try contradiction
        rename_i v s1 heq
        obtain ⟨n, hn⟩ := hstep heq
        exact ⟨n, by unfold stepO; rw [hw]; simp only [hap, Bool.not_true, cond_false, hn]; exact h⟩
  induction os with
  | nil => intro s s' h; exact ⟨0, h⟩
  | cons o os ih =>
    intro s s' h
    simp only [runOps] at h
    split at h <;> try contradiction
    rename_i s1 heq
    obtain ⟨n, hn⟩ := hO heq
    obtain ⟨m, hm⟩ := ih h
    refine ⟨n + m, ?_⟩
    simp only [runOps]
    rw [stepO_mono (callN_mono n (n + m) (by omega)) hn]
    exact runOps_mono (callN_mono m (n + m) (by omega)) hm

theorem execL_lim {ac : ACode} : ∀ {s : St} {r : Out × St}, execL (runW C nat) (lpW C nat) ac s = some r → ∃ n, exec (callN C nat n) n ac s = some r := by
  induction ac with
  | skip => intro s r h; exact ⟨0, h⟩
  | exit id => intro s r h; exact ⟨0, h⟩
  | ret => intro s r h; exact ⟨0, h⟩
  | fail => intro s r h; simp [execL] at h
  | rangeF ps A B aA aB f _ _ => intro s r h; simp [execL] at h
  | region k ops =>
    intro s r h
    simp only [execL] at h
    split at h <;> try contradiction
    rename_i s1 heq
    obtain ⟨n, hn⟩ := runOps_lim heq
    exact ⟨n, by simp only [exec, hn]; exact h⟩
  | seq a b iha ihb =>
    intro s r h
    simp only [execL] at h
    split at h
    · rename_i s1 heq
      obtain ⟨n, hn⟩ := iha heq
      obtain ⟨m, hm⟩ := ihb h
      refine ⟨n + m, ?_⟩
      simp only [exec]
      rw [exec_mono (callN_mono n (n + m) (by omega)) (by omega) hn]
      exact exec_mono (callN_mono m (n + m) (by omega)) (by omega) hm
    · rename_i hne
      obtain ⟨n, hn⟩ := iha h
      refine ⟨n, ?_⟩
      simp only [exec, hn]
      obtain ⟨o, s1⟩ := r
      cases o with
      | norm => exact absurd h (hne s1)
      | exit i => rfl
      | ret => rfl
  | cond x a b iha ihb =>
    intro s r h
    simp only [execL] at h
    split at h <;> try contradiction
    · rename_i hev
      obtain ⟨n, hn⟩ := iha h
      exact ⟨n, by simp only [exec, hev]; exact hn⟩
    · rename_i hev
      obtain ⟨n, hn⟩ := ihb h
      exact ⟨n, by simp only [exec, hev]; exact hn⟩
  | block id a iha =>
    intro s r h
    simp only [execL] at h
    cases ha : execL (runW C nat) (lpW C nat) a s with
    | none => rw [ha] at h; simp at h
    | some x =>
      rw [ha] at h
      obtain ⟨n, hn⟩ := iha ha
      exact ⟨n, by simp only [exec, hn]; exact h⟩
  | loop k o sh a iha =>
    intro s r h
    simp only [execL] at h
    obtain ⟨n, hn⟩ := lpW_iff.1 h
    exact ⟨n, by rw [exec_loop_keep] at hn; exact hn⟩
  | keep l a iha =>
    intro s r h
    simp only [execL] at h
    obtain ⟨n, hn⟩ := iha h
    exact ⟨n, by simp only [exec]; exact hn⟩

/-- A function's run out of its body's. -/
theorem runW_of {f : FuncId} {args : List AV} {hp : Hp} {fn : AFunc} {o : Out} {s : St} {v : AV} (hf : Nat.ble ycode f = false) (hn : nat f = none) (hC : C f = some fn) (hl : (Nat.beq (len args) fn.np && !fn.handler) = true)
    (he : execL (runW C nat) (lpW C nat) fn.body ⟨Tr.nil.ofList 0 args, hp.h, hp.nx, hp.nx, hp.ro, []⟩ = some (o, s)) (ho : ∀ i, o ≠ .exit i) (hd : s.df = []) (hr : results s fn.res = some v) :
    runW C nat f args hp = some (v, ⟨s.h, s.nx, s.ro⟩) := by
  obtain ⟨n, hn'⟩ := execL_lim he
  obtain ⟨e, h, nx, rb, ro, df⟩ := s
  simp only at hd
  subst hd
  refine run_runW (n := n + 1) ?_
  simp only [callN, hf, cond_false, hn, callF, hC, hl, cond_true, hn']
  cases o with
  | exit i => exact absurd rfl (ho i)
  | norm => simp only [runDf, hr]
  | ret => simp only [runDf, hr]

theorem lpW_keep {k o : Option (List Nat)} {c : ACode} {s : St} : lpW C nat k o c (s.keepO k) = lpW C nat k o c s := by
  simp only [lpW, exec_loop_keep]

/-- A loop's run out of a round's. -/
theorem lpW_of {k o : Option (List Nat)} {c : ACode} {s : St} {r : Out × St}
    (h : (match execL (runW C nat) (lpW C nat) c (s.keepO k) with | some (.norm, s') => lpW C nat k o c s' | some (out, s') => some (out, s'.keepO o) | none => none) = some r) : lpW C nat k o c s = some r := by
  cases he : execL (runW C nat) (lpW C nat) c (s.keepO k) with
  | none => rw [he] at h; simp at h
  | some x =>
    rw [he] at h
    obtain ⟨n, hn⟩ := execL_lim he
    obtain ⟨out, s1⟩ := x
    cases out with
    | norm =>
      simp only at h
      obtain ⟨m, hm⟩ := lpW_iff.1 h
      refine lpW_iff.2 ⟨n + m + 1, ?_⟩
      simp only [exec] at hm ⊢
      split at hm <;> try contradiction
      rename_i o2 s2 h2
      have h3 := rounds_mono (f' := fun s => exec (callN C nat (n + m + 1)) (n + m + 1) c (s.keepO k)) (fun s r hh => exec_mono (callN_mono m (n + m + 1) (by omega)) (by omega) hh) m (n + m) s1 _ (by omega) h2
      simp only [rounds]
      rw [exec_mono (callN_mono n (n + m + 1) (by omega)) (by omega) hn]
      simp only [h3]
      exact hm
    | exit i =>
      refine lpW_iff.2 ⟨n + 1, ?_⟩
      simp only [exec, rounds]
      rw [exec_mono (callN_mono n (n + 1) (by omega)) (by omega) hn]
      exact h
    | ret =>
      refine lpW_iff.2 ⟨n + 1, ?_⟩
      simp only [exec, rounds]
      rw [exec_mono (callN_mono n (n + 1) (by omega)) (by omega) hn]
      exact h
end
end Go.Proofs.YtohncbgkiojlnaaGreatDoor.Am
