/- Drawn orders, whole. -/
import Derived.Test.YtohncbgkiojlnaaGreatDoorAm25
set_option linter.unusedVariables false
set_option linter.unusedSimpArgs false
namespace Go.Proofs.YtohncbgkiojlnaaGreatDoor.Am

def stepB (acc : Array Nat) (o : Oper) : Array Nat :=
  acc.push (o.after.foldl (fun s e => if Region.binds .any e then s ||| 2 ^ e.on ||| acc.getD e.on 0 else s) 0)

theorem fold_bits {acc : Array Nat} {m : Nat} : ∀ (l : List Edge) (s : Nat), (l.foldl (fun s e => if Region.binds .any e then s ||| 2 ^ e.on ||| acc.getD e.on 0 else s) s).testBit m = true →
    s.testBit m = true ∨ ∃ e ∈ l, Region.binds .any e = true ∧ (m = e.on ∨ (acc.getD e.on 0).testBit m = true) := by
  intro l
  induction l with
  | nil => intro s h; exact .inl h
  | cons e l ih =>
    intro s h
    simp only [List.foldl_cons] at h
    rcases ih _ h with h1 | ⟨e', he, h1, h2⟩
    · by_cases hb : Region.binds .any e = true
      · rw [if_pos hb] at h1
        simp only [Nat.testBit_or, Bool.or_eq_true, Nat.testBit_two_pow, decide_eq_true_eq] at h1
        rcases h1 with (h1 | h1) | h1
        · exact .inl h1
        · exact .inr ⟨e, by simp, hb, .inl h1.symm⟩
        · exact .inr ⟨e, by simp, hb, .inr h1⟩
      · rw [if_neg hb] at h1; exact .inl h1
    · exact .inr ⟨e', by simp [he], h1, h2⟩

theorem fold_before : ∀ (os : List Oper) (acc : Array Nat), (os.foldl stepB acc).size = acc.size + os.length ∧ (∀ i, i < acc.size → (os.foldl stepB acc).getD i 0 = acc.getD i 0) ∧
    ∀ (j : Nat) o, os[j]? = some o → (∀ e ∈ o.after.toList, Region.binds .any e = true → e.on < acc.size + j) → ∀ m, ((os.foldl stepB acc).getD (acc.size + j) 0).testBit m = true →
      ∃ e ∈ o.after.toList, Region.binds .any e = true ∧ (m = e.on ∨ ((os.foldl stepB acc).getD e.on 0).testBit m = true) := by
  intro os
  induction os with
  | nil => intro acc; exact ⟨rfl, fun _ _ => rfl, fun j o h => by simp at h⟩
  | cons x os ih =>
    intro acc
    obtain ⟨h1, h2, h3⟩ := ih (stepB acc x)
    have hs : (stepB acc x).size = acc.size + 1 := by simp [stepB]
    have hold : ∀ i, i < acc.size → (stepB acc x).getD i 0 = acc.getD i 0 := by
      intro i hi
      simp only [stepB, Array.getD_eq_getD_getElem?]
      rw [Array.getElem?_push_lt (by omega), Array.getElem?_eq_getElem hi]
    simp only [List.foldl_cons]
    refine ⟨by rw [h1, hs]; simp; omega, fun i hi => by rw [h2 i (by omega), hold i hi], fun j o hj he m hm => ?_⟩
    cases j with
    | zero =>
      simp only [List.getElem?_cons_zero, Option.some.injEq] at hj
      subst hj
      rw [Nat.add_zero, h2 _ (by omega)] at hm
      have hnew : (stepB acc x).getD acc.size 0 = x.after.foldl (fun s e => if Region.binds .any e then s ||| 2 ^ e.on ||| acc.getD e.on 0 else s) 0 := by
        simp [stepB, Array.getD_eq_getD_getElem?]
      rw [hnew, ← Array.foldl_toList] at hm
      rcases fold_bits _ _ hm with h0 | ⟨e, he1, he2, he3⟩
      · simp at h0
      · refine ⟨e, he1, he2, he3.imp (fun h => h) fun h => ?_⟩
        have hlt : e.on < acc.size := by simpa using he e he1 he2
        rw [h2 _ (by omega), hold _ hlt]; exact h
    | succ j =>
      simp only [List.getElem?_cons_succ] at hj
      have := h3 j o hj (fun e he1 he2 => by have := he e he1 he2; omega) m (by rw [hs, show acc.size + 1 + j = acc.size + (j + 1) from by omega]; exact hm)
      exact this

theorem before_eq (ops : Array Oper) : Region.before ops = ops.toList.foldl stepB #[] := by
  show Array.foldl stepB #[] ops = _
  exact (Array.foldl_toList ..).symm

theorem edgesOk_spec : ∀ (os : List Oper) (i : Nat), edgesOk i os = true → ∀ (j : Nat) o, os[j]? = some o → ∀ e ∈ o.after.toList, Region.binds .any e = true → e.on < i + j := by
  intro os
  induction os with
  | nil => intro i _ j o h; simp at h
  | cons x os ih =>
    intro i h j o hj e he hb
    simp only [edgesOk, Bool.and_eq_true, List.all_eq_true] at h
    cases j with
    | zero =>
      simp only [List.getElem?_cons_zero, Option.some.injEq] at hj
      subst hj
      have := h.1 e he
      rw [hb] at this
      simp only [Bool.not_true, Bool.false_or] at this
      have := Nat.le_of_ble_eq_true this
      omega
    | succ j =>
      simp only [List.getElem?_cons_succ] at hj
      have := ih (i + 1) h.2 j o hj e he hb
      omega

theorem before_spec {ops : Array Oper} (h : edgesOk 0 ops.toList = true) {i : Nat} {o : Oper} (hi : ops[i]? = some o) {m : Nat} (hm : ((Region.before ops).getD i 0).testBit m = true) :
    ∃ e ∈ o.after.toList, Region.binds .any e = true ∧ e.on < i ∧ (m = e.on ∨ ((Region.before ops).getD e.on 0).testBit m = true) := by
  have hb : Region.before ops = ops.toList.foldl stepB #[] := before_eq ops
  have hi' : ops.toList[i]? = some o := by simpa using hi
  obtain ⟨_, _, h3⟩ := fold_before ops.toList #[]
  have he := edgesOk_spec _ _ h i o hi'
  rw [hb] at hm ⊢
  obtain ⟨e, k1, k2, k3⟩ := h3 i o hi' (fun e he1 he2 => by have := he e he1 he2; simpa using this) m (by simpa using hm)
  exact ⟨e, k1, k2, by have := he e k1 k2; omega, k3⟩

def rem (n : Nat) (listed : Array Bool) : List Nat := (List.range n).filter fun i => !listed.getD i true

theorem mem_rem {n : Nat} {listed : Array Bool} {i : Nat} : i ∈ rem n listed ↔ i < n ∧ listed.getD i true = false := by
  simp [rem]

theorem rem_set {n : Nat} {listed : Array Bool} {i : Nat} (hs : listed.size = n) (hi : i < n) : rem n (listed.setIfInBounds i true) = (rem n listed).filter (fun j => decide (j ≠ i)) := by
  simp only [rem, List.filter_filter]
  apply List.filter_congr
  intro j hj
  have hj : j < n := by simpa using hj
  simp only [Array.getD_eq_getD_getElem?, Array.getElem?_setIfInBounds]
  by_cases e : i = j
  · subst e; simp [hs, hi]
  · rw [if_neg e]
    have : j ≠ i := Ne.symm e
    simp [this]

theorem linear_runs {call : Call} {ops : Array Oper} {aos : List AOper} (hlen : aos.length = ops.size) (hd : drawOk (Region.before ops).toList aos = true) (he : edgesOk 0 ops.toList = true) :
    ∀ (fuel t : Nat) (listed : Array Bool), listed.size = ops.size → (∀ k, k < ops.size → listed.getD k false = true → ∀ m, ((Region.before ops).getD k 0).testBit m = true → listed.getD m false = true) →
      (rem ops.size listed).length ≤ fuel → ∀ s s', runOps call (picked aos (rem ops.size listed)) s = some s' →
      (∀ i ∈ Region.linearise.go .any ops fuel t listed [], i < ops.size) ∧ runOps call (picked aos (Region.linearise.go .any ops fuel t listed [])) s = some s' := by
  intro fuel
  induction fuel with
  | zero =>
    intro t listed hs hcl hf s s' h
    have : rem ops.size listed = [] := List.eq_nil_of_length_eq_zero (by omega)
    rw [this] at h
    simp only [Region.linearise.go, List.reverse_nil]
    exact ⟨by simp, h⟩
  | succ fuel ih =>
    intro t listed hs hcl hf s s' h
    have hgD : ∀ k, k < ops.size → listed.getD k true = listed.getD k false := by
      intro k hk
      simp only [Array.getD_eq_getD_getElem?]
      rw [Array.getElem?_eq_getElem (by omega)]
      rfl
    have hready : ∀ i, i ∈ Region.ready .any ops listed ↔ i < ops.size ∧ listed.getD i true = false ∧ ∀ o, ops[i]? = some o → ∀ e ∈ o.after.toList, Region.binds .any e = true → listed.getD e.on false = true := by
      intro i
      simp only [Region.ready, List.mem_filter, List.mem_range, Bool.and_eq_true, Bool.not_eq_true']
      constructor
      · rintro ⟨h1, h2, h3⟩
        refine ⟨h1, h2, fun o ho e hee hb => ?_⟩
        rw [ho] at h3
        simp only [Option.map_some, Option.getD_some] at h3
        rw [← Array.all_toList] at h3
        have := List.all_eq_true.1 h3 e hee
        rw [hb] at this
        simpa using this
      · rintro ⟨h1, h2, h3⟩
        refine ⟨h1, h2, ?_⟩
        rw [Array.getElem?_eq_getElem h1]
        simp only [Option.map_some, Option.getD_some]
        rw [← Array.all_toList, List.all_eq_true]
        intro e hee
        cases hb : Region.binds .any e with
        | false => rfl
        | true => simp only [Bool.not_true, Bool.false_or]; exact h3 _ (Array.getElem?_eq_getElem h1) e hee hb
    simp only [Region.linearise.go]
    change (∀ i ∈ (match (Region.ready .any ops listed)[t % (Region.ready .any ops listed).length]? with
      | some i => Region.linearise.go .any ops fuel (t / (Region.ready .any ops listed).length) (listed.setIfInBounds i true) [i]
      | none => [].reverse), i < ops.size) ∧ runOps call (picked aos (match (Region.ready .any ops listed)[t % (Region.ready .any ops listed).length]? with
      | some i => Region.linearise.go .any ops fuel (t / (Region.ready .any ops listed).length) (listed.setIfInBounds i true) [i]
      | none => [].reverse)) s = some s'
    cases hx : (Region.ready .any ops listed)[t % (Region.ready .any ops listed).length]? with
    | none =>
      have hnil : Region.ready .any ops listed = [] := by
        cases hr : Region.ready .any ops listed with
        | nil => rfl
        | cons x xs =>
          rw [hr] at hx
          have hlt : t % (x :: xs).length < (x :: xs).length := Nat.mod_lt _ (by simp)
          rw [List.getElem?_eq_getElem hlt] at hx
          cases hx
      have hrem : rem ops.size listed = [] := by
        cases hr : rem ops.size listed with
        | nil => rfl
        | cons i rest =>
          exfalso
          have hsorted : (rem ops.size listed).Pairwise (· < ·) := List.Pairwise.filter _ List.pairwise_lt_range
          rw [hr] at hsorted
          have hi : i ∈ rem ops.size listed := by rw [hr]; simp
          obtain ⟨h1, h2⟩ := mem_rem.1 hi
          have hin : i ∈ Region.ready .any ops listed := by
            refine (hready i).2 ⟨h1, h2, fun o ho e hee hb => ?_⟩
            have hlt := edgesOk_spec _ _ he i o (by simpa using ho) e hee hb
            rw [← hgD e.on (by omega)]
            cases hv : listed.getD e.on true with
            | true => rfl
            | false =>
              have hm : e.on ∈ rem ops.size listed := mem_rem.2 ⟨by omega, hv⟩
              rw [hr] at hm
              rcases List.mem_cons.1 hm with e1 | e1
              · omega
              · have := (List.pairwise_cons.1 hsorted).1 _ e1
                omega
          rw [hnil] at hin
          cases hin
      rw [hrem] at h
      simp only [List.reverse_nil]
      exact ⟨by simp, h⟩
    | some i =>
      simp only
      have hin := List.mem_of_getElem? hx
      obtain ⟨h1, h2, h3⟩ := (hready i).1 hin
      rw [linearise_go_acc, List.reverse_singleton, List.singleton_append]
      have hi : i ∈ rem ops.size listed := mem_rem.2 ⟨h1, h2⟩
      have hsorted : (rem ops.size listed).Pairwise (· < ·) := List.Pairwise.filter _ List.pairwise_lt_range
      obtain ⟨pre, post, hpp⟩ := List.append_of_mem hi
      have hrem' := rem_set hs h1
      rw [hpp] at hsorted hrem' h
      rw [List.pairwise_append] at hsorted
      obtain ⟨hs1, hs2, hs3⟩ := hsorted
      have hpre : ∀ j ∈ pre, j < i := fun j hj => hs3 j hj i (by simp)
      have hpost : ∀ j ∈ post, i < j := (List.pairwise_cons.1 hs2).1
      have hrem2 : rem ops.size (listed.setIfInBounds i true) = pre ++ post := by
        rw [hrem', List.filter_append, List.filter_cons]
        have f1 : pre.filter (fun j => decide (j ≠ i)) = pre := List.filter_eq_self.2 (fun j hj => decide_eq_true (by have := hpre j hj; omega))
        have f2 : post.filter (fun j => decide (j ≠ i)) = post := List.filter_eq_self.2 (fun j hj => decide_eq_true (by have := hpost j hj; omega))
        rw [f1, f2]
        simp
      have hai : ∃ x, aos[i]? = some x := ⟨aos[i], List.getElem?_eq_getElem (by omega)⟩
      obtain ⟨x, hax⟩ := hai
      have hpk : ∀ a b : List Nat, picked aos (a ++ b) = picked aos a ++ picked aos b := fun a b => by simp [picked]
      have hpi : ∀ l, picked aos (i :: l) = x :: picked aos l := fun l => by simp [picked, hax]
      rw [hpk, hpi] at h
      have hsw : ∀ p ∈ picked aos pre, swaps p x = true := by
        intro p hp
        simp only [picked, List.mem_filterMap] at hp
        obtain ⟨j, hj, hjp⟩ := hp
        have hji := hpre j hj
        have hjr : j ∈ rem ops.size listed := by rw [hpp]; simp [hj]
        obtain ⟨hjn, hjl⟩ := mem_rem.1 hjr
        simp only [drawOk, List.all_eq_true, List.mem_range, len_eq, nth_eq] at hd
        have := hd i (by omega)
        have hbi : (Region.before ops).toList[i]? = some ((Region.before ops).getD i 0) := by
          have hsz : (Region.before ops).size = ops.size := by
            have := (fold_before ops.toList #[]).1
            have hb : Region.before ops = ops.toList.foldl stepB #[] := before_eq ops
            rw [hb, this]; simp
          rw [Array.getElem?_toList, Array.getD_eq_getD_getElem?, Array.getElem?_eq_getElem (by omega)]
          rfl
        rw [hbi, hax] at this
        simp only [List.all_eq_true, List.mem_range] at this
        have := this j hji
        rw [hjp] at this
        simp only [Bool.or_eq_true] at this
        rcases this with hb | hb
        · exfalso
          obtain ⟨e, e1, e2, e3, e4⟩ := before_spec he (Array.getElem?_eq_getElem h1) hb
          have hl := h3 _ (Array.getElem?_eq_getElem h1) e e1 e2
          have hjt : listed.getD j false = true := by
            rcases e4 with rfl | e4
            · exact hl
            · exact hcl e.on (by omega) hl j e4
          rw [← hgD j hjn, hjl] at hjt
          cases hjt
        · exact hb
      have hfr := front_runs hsw h
      simp only [runOps] at hfr
      cases hst : stepO call x s with
      | none => rw [hst] at hfr; cases hfr
      | some s1 =>
        rw [hst] at hfr
        simp only at hfr
        rw [← hpk, ← hrem2] at hfr
        have hcl' : ∀ k, k < ops.size → (listed.setIfInBounds i true).getD k false = true → ∀ m, ((Region.before ops).getD k 0).testBit m = true → (listed.setIfInBounds i true).getD m false = true := by
          have hmono : ∀ m, listed.getD m false = true → (listed.setIfInBounds i true).getD m false = true := by
            intro m hm
            simp only [Array.getD_eq_getD_getElem?, Array.getElem?_setIfInBounds] at hm ⊢
            by_cases e : i = m
            · subst e; simp [hs, h1]
            · rw [if_neg e]; exact hm
          intro k hk hkl m hm
          by_cases e : i = k
          · subst e
            obtain ⟨e, e1, e2, e3, e4⟩ := before_spec he (Array.getElem?_eq_getElem h1) hm
            have hl := h3 _ (Array.getElem?_eq_getElem h1) e e1 e2
            rcases e4 with rfl | e4
            · exact hmono _ hl
            · exact hmono _ (hcl e.on (by omega) hl m e4)
          · have : listed.getD k false = true := by
              simp only [Array.getD_eq_getD_getElem?, Array.getElem?_setIfInBounds] at hkl ⊢
              rw [if_neg e] at hkl; exact hkl
            exact hmono _ (hcl k hk this m hm)
        have hlen2 : (rem ops.size (listed.setIfInBounds i true)).length ≤ fuel := by
          rw [hrem2]
          rw [hpp] at hf
          simp at hf ⊢; omega
        obtain ⟨q1, q2⟩ := ih (t / (Region.ready .any ops listed).length) (listed.setIfInBounds i true) (by simp [hs]) hcl' hlen2 s1 s' hfr
        refine ⟨fun j hj => ?_, ?_⟩
        · rcases List.mem_cons.1 hj with rfl | hj
          · exact h1
          · exact q1 j hj
        · rw [hpi]
          simp only [runOps, hst]
          exact q2

theorem draw_runs (call : Call) (aos : List AOper) (ops : Array Oper) : DrawRuns call aos ops := by
  intro hlen hd he b t s s' hb h
  simp only [Region.schedule]
  rw [if_pos hb]
  have hrem : rem ops.size (Array.replicate ops.size false) = List.range ops.size := by
    simp only [rem]
    apply List.filter_eq_self.2
    intro i hi
    have hi : i < ops.size := by simpa using hi
    simp [Array.getD_eq_getD_getElem?, hi]
  refine linear_runs hlen hd he ops.size t _ (by simp) (fun k hk hl => ?_) (by rw [hrem]; simp) s s' (by rw [hrem, picked_range hlen]; exact h)
  simp [Array.getD_eq_getD_getElem?, hk] at hl
end Go.Proofs.YtohncbgkiojlnaaGreatDoor.Am
