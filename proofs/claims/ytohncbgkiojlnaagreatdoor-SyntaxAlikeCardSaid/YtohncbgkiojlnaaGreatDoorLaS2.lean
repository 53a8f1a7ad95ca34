/- A program that is read: what it is on the abstract machine's side. -/
import Derived.Test.YtohncbgkiojlnaaGreatDoorSmS2
import Derived.Test.YtohncbgkiojlnaaGreatDoorAmDoor
set_option maxRecDepth 100000
set_option linter.unusedVariables false
set_option linter.unusedSimpArgs false
namespace Go.Proofs.YtohncbgkiojlnaaGreatDoor
open Go.Proofs.YtohncbgkiojlnaaGreatDoor.Am

theorem IsB_mono {P Q : AV → Prop} (h : ∀ x, P x → Q x) {v : AV} (hv : IsB P v) : IsB Q v := by
  obtain ⟨o, l, rfl, hl, hs⟩ := hv
  exact ⟨o, l, rfl, hl, fun s hs' => h s (hs s hs')⟩
theorem IsStm_succ : ∀ (n : Nat) {x : AV}, IsStm n x → IsStm (n + 1) x := by
  intro n
  induction n with
  | zero => intro x h; exact h.elim
  | succ n ih =>
    intro x h
    obtain ⟨k, a, b, c, o, kids, rfl, h1, h2⟩ := h
    exact ⟨k, a, b, c, o, kids, rfl, h1, fun v hv => IsB_mono (fun y => ih) (h2 v hv)⟩
theorem IsStm_mono {n m : Nat} (h : n ≤ m) {x : AV} (hx : IsStm n x) : IsStm m x := by
  induction h with
  | refl => exact hx
  | step _ ih => exact IsStm_succ _ ih
theorem IsProc_mono {n m : Nat} (h : n ≤ m) {x : AV} (hx : IsProc n x) : IsProc m x := by
  obtain ⟨s, o, l, rfl, h1, h2⟩ := hx
  exact ⟨s, o, l, rfl, h1, fun y hy => IsStm_mono h (h2 y hy)⟩
theorem IsProg_mono {n m : Nat} (h : n ≤ m) {x : AV} (hx : IsProg n x) : IsProg m x := by
  obtain ⟨vs, o, ps, q, rfl, h1, h2, h3, h4⟩ := hx
  exact ⟨vs, o, ps, q, rfl, h1, h2, h3, fun y hy => IsProc_mono h (h4 y hy)⟩

theorem cells1 : Tryz.prog.cellsOf 9 = 1 := by kernel_rfl
theorem cells5 : Tryz.prog.cellsOf 103 = 5 := by kernel_rfl
theorem cells2 : Tryz.prog.cellsOf 60 = 2 := by kernel_rfl
theorem cells58 : Tryz.prog.cellsOf 58 = 1 := by kernel_rfl
theorem maxLenN : maxLen ≤ maxN := Nat.le_refl _

theorem has9 {n : Nat} {cs : List AV} (h : HasT Tryz.prog n 9 cs) : ∃ s, cs = [.str s] := by
  cases n with
  | zero => exact h.elim
  | succ n =>
    simp only [HasT, Tryz.underlying9] at h
    obtain ⟨s, hs, _⟩ := h
    exact ⟨s, hs⟩
theorem has2 {n : Nat} {cs : List AV} (h : HasT Tryz.prog n 2 cs) : ∃ x, cs = [.int .i64 x] := by
  cases n with
  | zero => exact h.elim
  | succ n =>
    simp only [HasT, Tryz.underlying2] at h
    obtain ⟨s, hs, _⟩ := h
    exact ⟨s, hs⟩
theorem has100 {n : Nat} {cs : List AV} (h : HasT Tryz.prog n 100 cs) : ∃ x, cs = [.int .i64 x] := by
  cases n with
  | zero => exact h.elim
  | succ n =>
    simp only [HasT, Tryz.underlying100] at h
    obtain ⟨s, hs, _⟩ := h
    exact ⟨s, hs⟩
theorem has103 : ∀ (n : Nat) {cs : List AV}, HasT Tryz.prog n 103 cs → IsStm n (.agg cs) := by
  intro n
  induction n using Nat.strongRecOn with
  | ind n ih =>
    intro cs h
    cases n with
    | zero => exact h.elim
    | succ n =>
      simp only [HasT, Tryz.underlying103, HasFs] at h
      obtain ⟨a1, r1, rfl, h1, a2, r2, rfl, h2, a3, r3, rfl, h3, a4, r4, rfl, h4, a5, r5, rfl, h5, rfl⟩ := h
      obtain ⟨k, rfl⟩ := has100 h1
      obtain ⟨x, rfl⟩ := has9 h2
      obtain ⟨y, rfl⟩ := has9 h3
      obtain ⟨c, rfl⟩ := has2 h4
      cases n with
      | zero => exact h5.elim
      | succ n =>
        simp only [HasT, Tryz.underlying101, cells58] at h5
        obtain ⟨kids, o, rfl, h5, h6⟩ := h5
        refine ⟨k, x, y, c, o, kids, rfl, Nat.le_trans h5 maxLenN, fun b hb => ?_⟩
        obtain ⟨ds, rfl, h7⟩ := h6 b hb
        cases n with
        | zero => exact h7.elim
        | succ n =>
          simp only [HasT, Tryz.underlying58, cells5] at h7
          obtain ⟨l, o', rfl, h8, h9⟩ := h7
          refine ⟨o', l, by simp [elT, Tryz.underlying58], Nat.le_trans h8 maxLenN, fun s hs => ?_⟩
          obtain ⟨ds, rfl, h10⟩ := h9 s hs
          have : elT Tryz.prog 103 ds = .agg ds := by simp [elT, Tryz.underlying103]
          rw [this]
          exact IsStm_mono (by omega) (ih n (by omega) h10)
theorem has60 {n : Nat} {cs : List AV} (h : HasT Tryz.prog n 60 cs) : IsProc n (.agg cs) := by
  cases n with
  | zero => exact h.elim
  | succ n =>
    simp only [HasT, Tryz.underlying60, HasFs] at h
    obtain ⟨a1, r1, rfl, h1, a2, r2, rfl, h2, rfl⟩ := h
    obtain ⟨x, rfl⟩ := has9 h1
    cases n with
    | zero => exact h2.elim
    | succ n =>
      simp only [HasT, Tryz.underlying58, cells5] at h2
      obtain ⟨l, o', rfl, h8, h9⟩ := h2
      refine ⟨x, o', l, rfl, Nat.le_trans h8 maxLenN, fun s hs => ?_⟩
      obtain ⟨ds, rfl, h10⟩ := h9 s hs
      have : elT Tryz.prog 103 ds = .agg ds := by simp [elT, Tryz.underlying103]
      rw [this]
      exact IsStm_mono (by omega) (has103 n h10)
theorem has25 {n : Nat} {cs : List AV} (h : HasT Tryz.prog n 25 cs) : IsProg n (.agg cs) := by
  cases n with
  | zero => exact h.elim
  | succ n =>
    simp only [HasT, Tryz.underlying25, HasFs] at h
    obtain ⟨a1, r1, rfl, h1, a2, r2, rfl, h2, rfl⟩ := h
    cases n with
    | zero => exact h1.elim
    | succ n =>
      simp only [HasT, Tryz.underlying22, Tryz.underlying23, cells1, cells2] at h1 h2
      obtain ⟨vs, o, rfl, h3, h4⟩ := h1
      obtain ⟨ps, q, rfl, h5, h6⟩ := h2
      refine ⟨vs, o, ps, q, rfl, Nat.le_trans h3 maxLenN, Nat.le_trans h5 maxLenN, fun x hx => ?_, fun p hp => ?_⟩
      · obtain ⟨ds, rfl, h10⟩ := h4 x hx
        obtain ⟨s, rfl⟩ := has9 h10
        exact ⟨s, by simp [elT, Tryz.underlying9]⟩
      · obtain ⟨ds, rfl, h10⟩ := h6 p hp
        have : elT Tryz.prog 60 ds = .agg ds := by simp [elT, Tryz.underlying60]
        rw [this]
        exact IsProc_mono (by omega) (has60 h10)

def progTs : List TypeId := [25, 22, 23, 60, 9, 58, 103, 100, 2, 101]
theorem progTs_ok : ∀ t ∈ progTs, okT Tryz.prog progTs t = true := by
  have h : progTs.all (fun t => okT Tryz.prog progTs t) = true := by kernel_rfl
  exact List.all_eq_true.1 h

theorem ext184 : IsExt Tryz.prog 184 Extern.BytealgIndexByte.indexByte := ⟨Tryz.f184, Tryz.func184, by kernel_rfl, by kernel_rfl, by kernel_rfl, by kernel_rfl⟩
theorem ext124 : IsExt Tryz.prog 124 Extern.BytealgCount.count := ⟨Tryz.f124, Tryz.func124, by kernel_rfl, by kernel_rfl, by kernel_rfl, by kernel_rfl⟩
theorem nats_ok (W : World) : NatOk Tryz.prog W nats := natOk (fun f hf => by simp only [List.mem_singleton] at hf; subst hf; exact ext184) (fun f hf => by simp only [List.mem_singleton] at hf; subst hf; exact ext124)
theorem tab_ok : TabOk Tryz.prog tab := tabOk _ _ _

/-- A program that comes in: its cells, and what they are. -/
theorem read_prog {H : Type} {enc : TypeId × Value → H} {W : World} {v : Value} {d : DataW H} {ps : List MemPlace} (hv : ∃ cs : Array Value, v = .agg cs) (h : DataW.Trod enc Tryz.prog W 0 (fun _ => true) true 25 v d ps) :
    ∃ n x, IsProg n x ∧ VR (g0 Tryz.prog W) x v := by
  obtain ⟨cs, rfl⟩ := hv
  obtain ⟨n, avs, h1, h2, h3⟩ := read_arg progTs_ok (by decide) h
  refine ⟨n, .agg avs, has25 h1, ?_⟩
  exact VR.agg (us := cs.toList) h2.1 h2.2 h3
end Go.Proofs.YtohncbgkiojlnaaGreatDoor
