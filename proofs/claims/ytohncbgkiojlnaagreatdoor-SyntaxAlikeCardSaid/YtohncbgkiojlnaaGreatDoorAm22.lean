/- Every operation looks only where it says. -/
import Derived.Test.YtohncbgkiojlnaaGreatDoorAm21
set_option linter.unusedVariables false
set_option linter.unusedSimpArgs false
namespace Go.Proofs.YtohncbgkiojlnaaGreatDoor.Am
theorem cond_ite {α : Type} (c : Bool) (x y : α) : (bif c then x else y) = if c = true then x else y := by cases c <;> rfl

theorem append_eq {s : St} {k sz bytes : Nat} {vec : Bool} {d x : AV} {e : Tr AV} : (s.sete e).append k sz bytes vec d x = (s.append k sz bytes vec d x).map fun r => (r.1, r.2.sete e) := by
  simp only [St.append, sete_source, sete_free, sete_h, sete_ro, sete_rb, cond_ite]
  repeat' split
  all_goals first | rfl | (simp_all; done)
theorem append_e {s : St} {k sz bytes : Nat} {vec : Bool} {d x : AV} {v : AV} {s1 : St} (h : s.append k sz bytes vec d x = some (v, s1)) : s1.e = s.e := by
  simp only [St.append, cond_ite] at h
  repeat' (first | contradiction | (split at h))
  all_goals (simp only [Option.some.injEq, Prod.mk.injEq] at h; rw [← h.2])

theorem step_local {call : Call} {s : St} (o : AOp) : Local call o s := by
  cases o
  case fail => intro v s1 hs; simp [step] at hs
  case lal d z =>
    intro v s1 hs
    simp only [step, Option.some.injEq, Prod.mk.injEq] at hs
    obtain ⟨rfl, rfl⟩ := hs
    cases hg : s.e.get d with
    | none => exact ⟨[(d, .box 0 z)], by simp [outsOp], by simp [St.lay, hg, puts], fun e2 ha => by have := ha d (by simp [ins]); simp [step, St.lay, this, hg, puts, St.sete]⟩
    | some u =>
      cases u
      case box g cs => exact ⟨[(d, .box (g + 1) z)], by simp [outsOp], by simp [St.lay, hg, puts], fun e2 ha => by have := ha d (by simp [ins]); simp [step, St.lay, this, hg, puts, St.sete]⟩
      all_goals exact ⟨[(d, .box 0 z)], by simp [outsOp], by simp [St.lay, hg, puts], fun e2 ha => by have := ha d (by simp [ins]); simp [step, St.lay, this, hg, puts, St.sete]⟩
  case lbx d n x =>
    intro v s1 hs
    simp only [step] at hs
    split at hs <;> try contradiction
    rename_i w hw
    rw [cond_some] at hs
    simp only [Prod.mk.injEq] at hs
    obtain ⟨hl, rfl, rfl⟩ := hs
    cases hg : s.e.get d with
    | none => exact ⟨[(d, .box 0 w.cells)], by simp [outsOp], by simp [St.lay, hg, puts], fun e2 ha => by
        simp only [ins] at ha
        have := ha.head
        have hx := ev_eq ha.tail
        simp only [step, hx, hw, hl, cond_true, St.lay, sete_e, this, hg, puts]
        rfl⟩
    | some u =>
      cases u
      case box g cs => exact ⟨[(d, .box (g + 1) w.cells)], by simp [outsOp], by simp [St.lay, hg, puts], fun e2 ha => by
        simp only [ins] at ha
        have := ha.head
        have hx := ev_eq ha.tail
        simp only [step, hx, hw, hl, cond_true, St.lay, sete_e, this, hg, puts]
        rfl⟩
      all_goals exact ⟨[(d, .box 0 w.cells)], by simp [outsOp], by simp [St.lay, hg, puts], fun e2 ha => by
        simp only [ins] at ha
        have := ha.head
        have hx := ev_eq ha.tail
        simp only [step, hx, hw, hl, cond_true, St.lay, sete_e, this, hg, puts]
        rfl⟩
  case stL d n x y =>
    intro v s1 hs
    simp only [step] at hs
    split at hs <;> try contradiction
    rename_i d' off g u hx hu
    split at hs <;> try contradiction
    rename_i g' cs hg
    rw [cond_some] at hs
    simp only [Prod.mk.injEq] at hs
    obtain ⟨hl, rfl, rfl⟩ := hs
    exact ⟨[(d, .box g (putCells cs off u.cells))], by simp [outsOp], by simp [puts], fun e2 ha => by
      simp only [ins] at ha
      have h0 := ha.head
      have h1 := ha.tail.left
      have h2 := ha.tail.right
      have e1 := ev_eq h1
      have e2' := ev_eq h2
      simp only [step, e1, e2', hx, hu, sete_e, h0, hg, hl, cond_true, puts]
      rfl⟩
  case nxt isStr x =>
    refine .same (fun e2 ha => ?_) (fun v s1 h => ?_)
    · simp only [ins] at ha
      simp only [step, ev_eq ha, sete_h]
      cases isStr with
      | false => rfl
      | true =>
        cases s.ev x <;> try rfl
        rename_i r off
        cases off with
        | succ k => rfl
        | zero =>
          simp only
          cases s.h.get r with
          | none => rfl
          | some o =>
            cases o <;> try rfl
            rename_i b pos
            simp only
            by_cases h1 : pos < b.size ∧ s.ro ≤ r
            · rw [if_pos h1, if_pos (show pos < b.size ∧ (s.sete e2).ro ≤ r from h1)]; rfl
            · rw [if_neg h1, if_neg (show ¬ (pos < b.size ∧ (s.sete e2).ro ≤ r) from h1)]
              by_cases h2 : pos < b.size
              · rw [if_pos h2, if_pos h2]; rfl
              · rw [if_neg h2, if_neg h2]; rfl
    · simp only [step, cond_ite] at h
      repeat' (first | contradiction | (split at h))
      all_goals (simp only [Option.some.injEq, Prod.mk.injEq] at h; rw [← h.2])
  case sli sz x lo hi mx =>
    refine .same (fun e2 ha => ?_) (fun v s1 h => ?_)
    · simp only [ins] at ha
      cases mx with
      | none =>
        simp only [step, ev_eq ha.left, opt_eq ha.right.left, opt_eq ha.right.right.left, cond_ite]
        repeat' split
        all_goals first | rfl | (simp_all; done)
      | some m =>
        have hm : (s.sete e2).ev m = s.ev m := ev_eq (show Agree e2 s.e (xSlots m) from ha.right.right.right)
        simp only [step, ev_eq ha.left, opt_eq ha.right.left, opt_eq ha.right.right.left, hm, cond_ite]
        repeat' split
        all_goals first | rfl | (simp_all; done)
    · simp only [step, cond_ite] at h
      repeat' (first | contradiction | (split at h))
      all_goals (simp only [Option.some.injEq, Prod.mk.injEq] at h; rw [← h.2])
  case mov  =>
    refine .same (fun e2 ha => ?_) (fun v s1 h => ?_)
    · simp only [ins] at ha
      simp only [step, ev_eq ha, sete_h, sete_nx, sete_rb, sete_ro, sete_df, sete_at, sete_source, sete_free, sete_snap, sete_e, cond_ite]
      repeat' split
      all_goals first | rfl | (simp_all; done)
    · simp only [step, cond_ite] at h
      repeat' (first | contradiction | (split at h))
      all_goals (simp only [Option.some.injEq, Prod.mk.injEq] at h; rw [← h.2])
  case pick  =>
    refine .same (fun e2 ha => ?_) (fun v s1 h => ?_)
    · simp only [ins] at ha
      simp only [step, ev_eq ha.left, ev_eq ha.right.left, ev_eq ha.right.right, sete_h, sete_nx, sete_rb, sete_ro, sete_df, sete_at, sete_source, sete_free, sete_snap, sete_e, cond_ite]
      repeat' split
      all_goals first | rfl | (simp_all; done)
    · simp only [step, cond_ite] at h
      repeat' (first | contradiction | (split at h))
      all_goals (simp only [Option.some.injEq, Prod.mk.injEq] at h; rw [← h.2])
  case hal  =>
    refine .same (fun e2 ha => ?_) (fun v s1 h => ?_)
    · simp only [step, sete_h, sete_nx, sete_rb, sete_ro, sete_df, sete_at, sete_source, sete_free, sete_snap, sete_e, cond_ite]
      repeat' split
      all_goals first | rfl | (simp_all; done)
    · simp only [step, cond_ite] at h
      repeat' (first | contradiction | (split at h))
      all_goals (simp only [Option.some.injEq, Prod.mk.injEq] at h; rw [← h.2])
  case hbx  =>
    refine .same (fun e2 ha => ?_) (fun v s1 h => ?_)
    · simp only [ins] at ha
      simp only [step, ev_eq ha, sete_h, sete_nx, sete_rb, sete_ro, sete_df, sete_at, sete_source, sete_free, sete_snap, sete_e, cond_ite]
      repeat' split
      all_goals first | rfl | (simp_all; done)
    · simp only [step, cond_ite] at h
      repeat' (first | contradiction | (split at h))
      all_goals (simp only [Option.some.injEq, Prod.mk.injEq] at h; rw [← h.2])
  case bld z ps =>
    refine .same (fun e2 ha => ?_) (fun v s1 h => ?_)
    · simp only [ins] at ha
      simp only [step, fillParts_eq (s := s) (e := e2) (ps := ps) (fun p hp i hi => ha i (List.mem_flatMap.2 ⟨p, hp, hi⟩)), sete_h, sete_nx, sete_rb, sete_ro, sete_df, sete_at, sete_source, sete_free, sete_snap, sete_e, cond_ite]
      repeat' split
      all_goals first | rfl | (simp_all; done)
    · simp only [step, cond_ite] at h
      repeat' (first | contradiction | (split at h))
      all_goals (simp only [Option.some.injEq, Prod.mk.injEq] at h; rw [← h.2])
  case lit sz n z ps =>
    refine .same (fun e2 ha => ?_) (fun v s1 h => ?_)
    · simp only [ins] at ha
      simp only [step, fillElems_eq (s := s) (e := e2) (ps := ps) (fun p hp i hi => ha i (List.mem_flatMap.2 ⟨p, hp, hi⟩)), sete_h, sete_nx, sete_rb, sete_ro, sete_df, sete_at, sete_source, sete_free, sete_snap, sete_e, cond_ite]
      repeat' split
      all_goals first | rfl | (simp_all; done)
    · simp only [step, cond_ite] at h
      repeat' (first | contradiction | (split at h))
      all_goals (simp only [Option.some.injEq, Prod.mk.injEq] at h; rw [← h.2])
  case ldL  =>
    refine .same (fun e2 ha => ?_) (fun v s1 h => ?_)
    · simp only [ins] at ha
      simp only [step, ha.head, ev_eq ha.tail, sete_h, sete_nx, sete_rb, sete_ro, sete_df, sete_at, sete_source, sete_free, sete_snap, sete_e, cond_ite]
      repeat' split
      all_goals first | rfl | (simp_all; done)
    · simp only [step, cond_ite] at h
      repeat' (first | contradiction | (split at h))
      all_goals (simp only [Option.some.injEq, Prod.mk.injEq] at h; rw [← h.2])
  case ldE  =>
    refine .same (fun e2 ha => ?_) (fun v s1 h => ?_)
    · simp only [ins] at ha
      simp only [step, ev_eq ha, sete_h, sete_nx, sete_rb, sete_ro, sete_df, sete_at, sete_source, sete_free, sete_snap, sete_e, cond_ite]
      repeat' split
      all_goals first | rfl | (simp_all; done)
    · simp only [step, cond_ite] at h
      repeat' (first | contradiction | (split at h))
      all_goals (simp only [Option.some.injEq, Prod.mk.injEq] at h; rw [← h.2])
  case ldH  =>
    refine .same (fun e2 ha => ?_) (fun v s1 h => ?_)
    · simp only [ins] at ha
      simp only [step, ev_eq ha, sete_h, sete_nx, sete_rb, sete_ro, sete_df, sete_at, sete_source, sete_free, sete_snap, sete_e, cond_ite]
      repeat' split
      all_goals first | rfl | (simp_all; done)
    · simp only [step, cond_ite] at h
      repeat' (first | contradiction | (split at h))
      all_goals (simp only [Option.some.injEq, Prod.mk.injEq] at h; rw [← h.2])
  case ldO  =>
    refine .same (fun e2 ha => ?_) (fun v s1 h => ?_)
    · simp only [ins] at ha
      simp only [step, ev_eq ha, sete_h, sete_nx, sete_rb, sete_ro, sete_df, sete_at, sete_source, sete_free, sete_snap, sete_e, cond_ite]
      repeat' split
      all_goals first | rfl | (simp_all; done)
    · simp only [step, cond_ite] at h
      repeat' (first | contradiction | (split at h))
      all_goals (simp only [Option.some.injEq, Prod.mk.injEq] at h; rw [← h.2])
  case stH  =>
    refine .same (fun e2 ha => ?_) (fun v s1 h => ?_)
    · simp only [ins] at ha
      simp only [step, ev_eq ha.left, ev_eq ha.right, sete_h, sete_nx, sete_rb, sete_ro, sete_df, sete_at, sete_source, sete_free, sete_snap, sete_e, cond_ite]
      repeat' split
      all_goals first | rfl | (simp_all; done)
    · simp only [step, cond_ite] at h
      repeat' (first | contradiction | (split at h))
      all_goals (simp only [Option.some.injEq, Prod.mk.injEq] at h; rw [← h.2])
  case nilck  =>
    refine .same (fun e2 ha => ?_) (fun v s1 h => ?_)
    · simp only [ins] at ha
      simp only [step, here_eq ha.left, ev_eq ha.right, sete_h, sete_nx, sete_rb, sete_ro, sete_df, sete_at, sete_source, sete_free, sete_snap, sete_e, cond_ite]
      repeat' split
      all_goals first | rfl | (simp_all; done)
    · simp only [step, cond_ite] at h
      repeat' (first | contradiction | (split at h))
      all_goals (simp only [Option.some.injEq, Prod.mk.injEq] at h; rw [← h.2])
  case bin  =>
    refine .same (fun e2 ha => ?_) (fun v s1 h => ?_)
    · simp only [ins] at ha
      simp only [step, ev_eq ha.left, ev_eq ha.right, sete_h, sete_nx, sete_rb, sete_ro, sete_df, sete_at, sete_source, sete_free, sete_snap, sete_e, cond_ite]
      repeat' split
      all_goals first | rfl | (simp_all; done)
    · simp only [step, cond_ite] at h
      repeat' (first | contradiction | (split at h))
      all_goals (simp only [Option.some.injEq, Prod.mk.injEq] at h; rw [← h.2])
  case eqb  =>
    refine .same (fun e2 ha => ?_) (fun v s1 h => ?_)
    · simp only [ins] at ha
      simp only [step, ev_eq ha.left, ev_eq ha.right, sete_h, sete_nx, sete_rb, sete_ro, sete_df, sete_at, sete_source, sete_free, sete_snap, sete_e, cond_ite]
      repeat' split
      all_goals first | rfl | (simp_all; done)
    · simp only [step, cond_ite] at h
      repeat' (first | contradiction | (split at h))
      all_goals (simp only [Option.some.injEq, Prod.mk.injEq] at h; rw [← h.2])
  case eqp  =>
    refine .same (fun e2 ha => ?_) (fun v s1 h => ?_)
    · simp only [ins] at ha
      simp only [step, ev_eq ha.left, ev_eq ha.right, sete_h, sete_nx, sete_rb, sete_ro, sete_df, sete_at, sete_source, sete_free, sete_snap, sete_e, cond_ite]
      repeat' split
      all_goals first | rfl | (simp_all; done)
    · simp only [step, cond_ite] at h
      repeat' (first | contradiction | (split at h))
      all_goals (simp only [Option.some.injEq, Prod.mk.injEq] at h; rw [← h.2])
  case eqn  =>
    refine .same (fun e2 ha => ?_) (fun v s1 h => ?_)
    · simp only [ins] at ha
      simp only [step, ev_eq ha.left, ev_eq ha.right, sete_h, sete_nx, sete_rb, sete_ro, sete_df, sete_at, sete_source, sete_free, sete_snap, sete_e, cond_ite]
      repeat' split
      all_goals first | rfl | (simp_all; done)
    · simp only [step, cond_ite] at h
      repeat' (first | contradiction | (split at h))
      all_goals (simp only [Option.some.injEq, Prod.mk.injEq] at h; rw [← h.2])
  case una  =>
    refine .same (fun e2 ha => ?_) (fun v s1 h => ?_)
    · simp only [ins] at ha
      simp only [step, ev_eq ha, sete_h, sete_nx, sete_rb, sete_ro, sete_df, sete_at, sete_source, sete_free, sete_snap, sete_e, cond_ite]
      repeat' split
      all_goals first | rfl | (simp_all; done)
    · simp only [step, cond_ite] at h
      repeat' (first | contradiction | (split at h))
      all_goals (simp only [Option.some.injEq, Prod.mk.injEq] at h; rw [← h.2])
  case cvi  =>
    refine .same (fun e2 ha => ?_) (fun v s1 h => ?_)
    · simp only [ins] at ha
      simp only [step, ev_eq ha, sete_h, sete_nx, sete_rb, sete_ro, sete_df, sete_at, sete_source, sete_free, sete_snap, sete_e, cond_ite]
      repeat' split
      all_goals first | rfl | (simp_all; done)
    · simp only [step, cond_ite] at h
      repeat' (first | contradiction | (split at h))
      all_goals (simp only [Option.some.injEq, Prod.mk.injEq] at h; rw [← h.2])
  case cvs  =>
    refine .same (fun e2 ha => ?_) (fun v s1 h => ?_)
    · simp only [ins] at ha
      simp only [step, ev_eq ha, sete_h, sete_nx, sete_rb, sete_ro, sete_df, sete_at, sete_source, sete_free, sete_snap, sete_e, cond_ite]
      repeat' split
      all_goals first | rfl | (simp_all; done)
    · simp only [step, cond_ite] at h
      repeat' (first | contradiction | (split at h))
      all_goals (simp only [Option.some.injEq, Prod.mk.injEq] at h; rw [← h.2])
  case s2b  =>
    refine .same (fun e2 ha => ?_) (fun v s1 h => ?_)
    · simp only [ins] at ha
      simp only [step, ev_eq ha, sete_h, sete_nx, sete_rb, sete_ro, sete_df, sete_at, sete_source, sete_free, sete_snap, sete_e, cond_ite]
      repeat' split
      all_goals first | rfl | (simp_all; done)
    · simp only [step, cond_ite] at h
      repeat' (first | contradiction | (split at h))
      all_goals (simp only [Option.some.injEq, Prod.mk.injEq] at h; rw [← h.2])
  case b2s  =>
    refine .same (fun e2 ha => ?_) (fun v s1 h => ?_)
    · simp only [ins] at ha
      simp only [step, ev_eq ha, sete_h, sete_nx, sete_rb, sete_ro, sete_df, sete_at, sete_source, sete_free, sete_snap, sete_e, cond_ite]
      repeat' split
      all_goals first | rfl | (simp_all; done)
    · simp only [step, cond_ite] at h
      repeat' (first | contradiction | (split at h))
      all_goals (simp only [Option.some.injEq, Prod.mk.injEq] at h; rw [← h.2])
  case fn  =>
    refine .same (fun e2 ha => ?_) (fun v s1 h => ?_)
    · simp only [ins] at ha
      simp only [step, evs_eq ha, sete_h, sete_nx, sete_rb, sete_ro, sete_df, sete_at, sete_source, sete_free, sete_snap, sete_e, cond_ite]
      repeat' split
      all_goals first | rfl | (simp_all; done)
    · simp only [step, cond_ite] at h
      repeat' (first | contradiction | (split at h))
      all_goals (simp only [Option.some.injEq, Prod.mk.injEq] at h; rw [← h.2])
  case ifc  =>
    refine .same (fun e2 ha => ?_) (fun v s1 h => ?_)
    · simp only [ins] at ha
      simp only [step, ev_eq ha, sete_h, sete_nx, sete_rb, sete_ro, sete_df, sete_at, sete_source, sete_free, sete_snap, sete_e, cond_ite]
      repeat' split
      all_goals first | rfl | (simp_all; done)
    · simp only [step, cond_ite] at h
      repeat' (first | contradiction | (split at h))
      all_goals (simp only [Option.some.injEq, Prod.mk.injEq] at h; rw [← h.2])
  case tas  =>
    refine .same (fun e2 ha => ?_) (fun v s1 h => ?_)
    · simp only [ins] at ha
      simp only [step, ev_eq ha, sete_h, sete_nx, sete_rb, sete_ro, sete_df, sete_at, sete_source, sete_free, sete_snap, sete_e, cond_ite]
      repeat' split
      all_goals first | rfl | (simp_all; done)
    · simp only [step, cond_ite] at h
      repeat' (first | contradiction | (split at h))
      all_goals (simp only [Option.some.injEq, Prod.mk.injEq] at h; rw [← h.2])
  case ext  =>
    refine .same (fun e2 ha => ?_) (fun v s1 h => ?_)
    · simp only [ins] at ha
      simp only [step, ev_eq ha, sete_h, sete_nx, sete_rb, sete_ro, sete_df, sete_at, sete_source, sete_free, sete_snap, sete_e, cond_ite]
      repeat' split
      all_goals first | rfl | (simp_all; done)
    · simp only [step, cond_ite] at h
      repeat' (first | contradiction | (split at h))
      all_goals (simp only [Option.some.injEq, Prod.mk.injEq] at h; rw [← h.2])
  case fld  =>
    refine .same (fun e2 ha => ?_) (fun v s1 h => ?_)
    · simp only [ins] at ha
      simp only [step, ev_eq ha, sete_h, sete_nx, sete_rb, sete_ro, sete_df, sete_at, sete_source, sete_free, sete_snap, sete_e, cond_ite]
      repeat' split
      all_goals first | rfl | (simp_all; done)
    · simp only [step, cond_ite] at h
      repeat' (first | contradiction | (split at h))
      all_goals (simp only [Option.some.injEq, Prod.mk.injEq] at h; rw [← h.2])
  case fad  =>
    refine .same (fun e2 ha => ?_) (fun v s1 h => ?_)
    · simp only [ins] at ha
      simp only [step, here_eq ha.left, ev_eq ha.right, sete_h, sete_nx, sete_rb, sete_ro, sete_df, sete_at, sete_source, sete_free, sete_snap, sete_e, cond_ite]
      repeat' split
      all_goals first | rfl | (simp_all; done)
    · simp only [step, cond_ite] at h
      repeat' (first | contradiction | (split at h))
      all_goals (simp only [Option.some.injEq, Prod.mk.injEq] at h; rw [← h.2])
  case iad  =>
    refine .same (fun e2 ha => ?_) (fun v s1 h => ?_)
    · simp only [ins] at ha
      simp only [step, ev_eq ha.left, idx_eq ha.right, sete_h, sete_nx, sete_rb, sete_ro, sete_df, sete_at, sete_source, sete_free, sete_snap, sete_e, cond_ite]
      repeat' split
      all_goals first | rfl | (simp_all; done)
    · simp only [step, cond_ite] at h
      repeat' (first | contradiction | (split at h))
      all_goals (simp only [Option.some.injEq, Prod.mk.injEq] at h; rw [← h.2])
  case iaa  =>
    refine .same (fun e2 ha => ?_) (fun v s1 h => ?_)
    · simp only [ins] at ha
      simp only [step, here_eq ha.left, ev_eq ha.right.left, idx_eq ha.right.right, sete_h, sete_nx, sete_rb, sete_ro, sete_df, sete_at, sete_source, sete_free, sete_snap, sete_e, cond_ite]
      repeat' split
      all_goals first | rfl | (simp_all; done)
    · simp only [step, cond_ite] at h
      repeat' (first | contradiction | (split at h))
      all_goals (simp only [Option.some.injEq, Prod.mk.injEq] at h; rw [← h.2])
  case idxs  =>
    refine .same (fun e2 ha => ?_) (fun v s1 h => ?_)
    · simp only [ins] at ha
      simp only [step, ev_eq ha.left, idx_eq ha.right, sete_h, sete_nx, sete_rb, sete_ro, sete_df, sete_at, sete_source, sete_free, sete_snap, sete_e, cond_ite]
      repeat' split
      all_goals first | rfl | (simp_all; done)
    · simp only [step, cond_ite] at h
      repeat' (first | contradiction | (split at h))
      all_goals (simp only [Option.some.injEq, Prod.mk.injEq] at h; rw [← h.2])
  case idxa  =>
    refine .same (fun e2 ha => ?_) (fun v s1 h => ?_)
    · simp only [ins] at ha
      simp only [step, ev_eq ha.left, idx_eq ha.right, sete_h, sete_nx, sete_rb, sete_ro, sete_df, sete_at, sete_source, sete_free, sete_snap, sete_e, cond_ite]
      repeat' split
      all_goals first | rfl | (simp_all; done)
    · simp only [step, cond_ite] at h
      repeat' (first | contradiction | (split at h))
      all_goals (simp only [Option.some.injEq, Prod.mk.injEq] at h; rw [← h.2])
  case len  =>
    refine .same (fun e2 ha => ?_) (fun v s1 h => ?_)
    · simp only [ins] at ha
      simp only [step, ev_eq ha, sete_h, sete_nx, sete_rb, sete_ro, sete_df, sete_at, sete_source, sete_free, sete_snap, sete_e, cond_ite]
      repeat' split
      all_goals first | rfl | (simp_all; done)
    · simp only [step, cond_ite] at h
      repeat' (first | contradiction | (split at h))
      all_goals (simp only [Option.some.injEq, Prod.mk.injEq] at h; rw [← h.2])
  case mlen  =>
    refine .same (fun e2 ha => ?_) (fun v s1 h => ?_)
    · simp only [ins] at ha
      simp only [step, ev_eq ha, sete_h, sete_nx, sete_rb, sete_ro, sete_df, sete_at, sete_source, sete_free, sete_snap, sete_e, cond_ite]
      repeat' split
      all_goals first | rfl | (simp_all; done)
    · simp only [step, cond_ite] at h
      repeat' (first | contradiction | (split at h))
      all_goals (simp only [Option.some.injEq, Prod.mk.injEq] at h; rw [← h.2])
  case call  =>
    refine .same (fun e2 ha => ?_) (fun v s1 h => ?_)
    · simp only [ins] at ha
      simp only [step, evs_eq ha, doCall_eq, sete_h, sete_nx, sete_rb, sete_ro, sete_df, sete_at, sete_source, sete_free, sete_snap, sete_e, cond_ite]
      repeat' split
      all_goals first | rfl | (simp_all; done)
    · simp only [step] at h
      rw [cond_some_one] at h
      exact doCall_e h.2
  case cav m f as_ =>
    refine .same (fun e2 ha => ?_) (fun v s1 h => ?_)
    · simp only [ins] at ha
      simp only [step, ev_eq ha.left, evs_eq ha.right, sete_h, sete_nx, sete_ro, doCall_eq, cond_ite]
      repeat' split
      all_goals first | rfl | (simp_all; done)
    · simp only [step] at h
      split at h <;> try contradiction
      · rw [cond_some_one] at h
        exact doCall_e h.2
      · split at h <;> try contradiction
        split at h <;> try contradiction
        simp only [Option.some.injEq, Prod.mk.injEq] at h
        rw [← h.2]
  case app  =>
    refine .same (fun e2 ha => ?_) (fun v s1 h => ?_)
    · simp only [ins] at ha
      simp only [step, ev_eq ha.left, ev_eq ha.right, append_eq, sete_h, sete_nx, sete_rb, sete_ro, sete_df, sete_at, sete_source, sete_free, sete_snap, sete_e, cond_ite]
      repeat' split
      all_goals first | rfl | (simp_all; done)
    · exact append_e (by simpa only [step] using h)
  case mks  =>
    refine .same (fun e2 ha => ?_) (fun v s1 h => ?_)
    · simp only [ins] at ha
      simp only [step, idx_eq ha.left, idx_eq ha.right, sete_h, sete_nx, sete_rb, sete_ro, sete_df, sete_at, sete_source, sete_free, sete_snap, sete_e, cond_ite]
      repeat' split
      all_goals first | rfl | (simp_all; done)
    · simp only [step, cond_ite] at h
      repeat' (first | contradiction | (split at h))
      all_goals (simp only [Option.some.injEq, Prod.mk.injEq] at h; rw [← h.2])
  case mkm  =>
    refine .same (fun e2 ha => ?_) (fun v s1 h => ?_)
    · simp only [step, sete_h, sete_nx, sete_rb, sete_ro, sete_df, sete_at, sete_source, sete_free, sete_snap, sete_e, cond_ite]
      repeat' split
      all_goals first | rfl | (simp_all; done)
    · simp only [step, cond_ite] at h
      repeat' (first | contradiction | (split at h))
      all_goals (simp only [Option.some.injEq, Prod.mk.injEq] at h; rw [← h.2])
  case lku  =>
    refine .same (fun e2 ha => ?_) (fun v s1 h => ?_)
    · simp only [ins] at ha
      simp only [step, ev_eq ha.left, ev_eq ha.right, sete_h, sete_nx, sete_rb, sete_ro, sete_df, sete_at, sete_source, sete_free, sete_snap, sete_e, cond_ite]
      repeat' split
      all_goals first | rfl | (simp_all; done)
    · simp only [step, cond_ite] at h
      repeat' (first | contradiction | (split at h))
      all_goals (simp only [Option.some.injEq, Prod.mk.injEq] at h; rw [← h.2])
  case mup  =>
    refine .same (fun e2 ha => ?_) (fun v s1 h => ?_)
    · simp only [ins] at ha
      simp only [step, ev_eq ha.left, ev_eq ha.right.left, ev_eq ha.right.right, sete_h, sete_nx, sete_rb, sete_ro, sete_df, sete_at, sete_source, sete_free, sete_snap, sete_e, cond_ite]
      repeat' split
      all_goals first | rfl | (simp_all; done)
    · simp only [step, cond_ite] at h
      repeat' (first | contradiction | (split at h))
      all_goals (simp only [Option.some.injEq, Prod.mk.injEq] at h; rw [← h.2])
  case minmax  =>
    refine .same (fun e2 ha => ?_) (fun v s1 h => ?_)
    · simp only [ins] at ha
      simp only [step, evs_eq ha, sete_h, sete_nx, sete_rb, sete_ro, sete_df, sete_at, sete_source, sete_free, sete_snap, sete_e, cond_ite]
      repeat' split
      all_goals first | rfl | (simp_all; done)
    · simp only [step, cond_ite] at h
      repeat' (first | contradiction | (split at h))
      all_goals (simp only [Option.some.injEq, Prod.mk.injEq] at h; rw [← h.2])
  case rng  =>
    refine .same (fun e2 ha => ?_) (fun v s1 h => ?_)
    · simp only [ins] at ha
      simp only [step, ev_eq ha, sete_h, sete_nx, sete_rb, sete_ro, sete_df, sete_at, sete_source, sete_free, sete_snap, sete_e, cond_ite]
      repeat' split
      all_goals first | rfl | (simp_all; done)
    · simp only [step, cond_ite] at h
      repeat' (first | contradiction | (split at h))
      all_goals (simp only [Option.some.injEq, Prod.mk.injEq] at h; rw [← h.2])
  case dfr  =>
    refine .same (fun e2 ha => ?_) (fun v s1 h => ?_)
    · simp only [ins] at ha
      simp only [step, ev_eq ha.left, evs_eq ha.right, sete_h, sete_nx, sete_rb, sete_ro, sete_df, sete_at, sete_source, sete_free, sete_snap, sete_e, cond_ite]
      repeat' split
      all_goals first | rfl | (simp_all; done)
    · simp only [step, cond_ite] at h
      repeat' (first | contradiction | (split at h))
      all_goals (simp only [Option.some.injEq, Prod.mk.injEq] at h; rw [← h.2])
  case rcv  =>
    refine .same (fun e2 ha => ?_) (fun v s1 h => ?_)
    · simp only [step, sete_h, sete_nx, sete_rb, sete_ro, sete_df, sete_at, sete_source, sete_free, sete_snap, sete_e, cond_ite]
      repeat' split
      all_goals first | rfl | (simp_all; done)
    · simp only [step, cond_ite] at h
      repeat' (first | contradiction | (split at h))
      all_goals (simp only [Option.some.injEq, Prod.mk.injEq] at h; rw [← h.2])
end Go.Proofs.YtohncbgkiojlnaaGreatDoor.Am
