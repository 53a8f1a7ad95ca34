/- The frame that a loop's body starts from. -/
import Derived.Test.YtohncbgkiojlnaaGreatDoorAm18b
set_option linter.unusedVariables false
set_option linter.unusedSimpArgs false
namespace Go.Proofs.YtohncbgkiojlnaaGreatDoor.Am

theorem clean_get : ∀ (e : Tr AV) (i : Nat) (v : AV), (clean e).get i = some v → e.get i = some v ∧ isPlace v = false := by
  intro e
  induction e with
  | nil => intro i v h; simp [clean, Tr.get] at h
  | nd l u r ihl ihr =>
    intro i v h
    simp only [clean, Tr.get] at h ⊢
    cases h0 : Nat.beq i 0 with
    | true =>
      rw [h0] at h
      simp only [cond_true] at h ⊢
      cases u with
      | none => simp at h
      | some x => cases x <;> simp at h <;> subst h <;> exact ⟨rfl, rfl⟩
    | false =>
      rw [h0] at h
      simp only [cond_false] at h ⊢
      cases h1 : Nat.beq (i % 2) 1 with
      | true => rw [h1] at h; exact ihl _ v h
      | false => rw [h1] at h; exact ihr _ v h

theorem putArgs_sound {g : G} : ∀ (ps : List Nat) (as_ : List AV) (us : List Value) (e : Tr AV) (tmps : Array Value), VRs g as_ us → (∀ p ∈ ps, p < tmps.size) →
    (∀ (i : Nat) v, e.get i = some v → ∃ u, tmps[i]? = some u ∧ VR g v u) →
    ∀ (i : Nat) v, (putArgs e ps as_).get i = some v → ∃ u, ((ps.zip us).foldl (fun tmps (t : Nat × Value) => tmps.setIfInBounds t.1 t.2) tmps)[i]? = some u ∧ VR g v u := by
  intro ps
  induction ps with
  | nil => intro as_ us e tmps hv hp he i v h; cases as_ <;> simp only [putArgs] at h <;> simpa using he i v h
  | cons p ps ih =>
    intro as_ us e tmps hv hp he i v h
    cases as_ with
    | nil =>
      have : us = [] := List.eq_nil_of_length_eq_zero hv.1.symm
      subst this
      simp only [putArgs] at h
      simpa using he i v h
    | cons x as_ =>
      obtain ⟨u, us', rfl, h1, h2⟩ := hv.uncons
      simp only [putArgs] at h
      simp only [List.zip_cons_cons, List.foldl_cons]
      refine ih as_ us' _ _ h2 (fun q hq => by rw [Array.size_setIfInBounds]; exact hp q (by simp [hq])) (fun j y hj => ?_) i v h
      rw [Tr.get_put] at hj
      rw [put_get (hp p (by simp))]
      by_cases e1 : j = p
      · rw [if_pos e1] at hj ⊢
        simp only [Option.some.injEq] at hj
        subst hj
        exact ⟨u, rfl, h1⟩
      · rw [if_neg e1] at hj ⊢
        exact he j y hj

theorem fold_size (l : List (Nat × Value)) : ∀ (t : Array Value), (l.foldl (fun tmps (t : Nat × Value) => tmps.setIfInBounds t.1 t.2) t).size = t.size := by
  induction l with
  | nil => intro t; rfl
  | cons x l ih => intro t; simp only [List.foldl_cons, ih, Array.size_setIfInBounds]
theorem fold_arr (ps : Array Tmp) (us : List Value) (t : Array Value) : (ps.zip us.toArray).foldl (fun tmps (t, a) => tmps.setIfInBounds t a) t = (ps.toList.zip us).foldl (fun tmps (t : Nat × Value) => tmps.setIfInBounds t.1 t.2) t := by
  rw [← Array.foldl_toList, Array.toList_zip]
end Go.Proofs.YtohncbgkiojlnaaGreatDoor.Am
