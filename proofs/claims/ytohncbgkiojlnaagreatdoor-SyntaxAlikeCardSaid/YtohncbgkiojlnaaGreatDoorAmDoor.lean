/- From a row's reading of the arguments to the abstract machine's values, and from the machine's run to the call's contract. -/
import Derived.Test.YtohncbgkiojlnaaGreatDoorAk3
import Derived.CallsIn
import Derived.ChangeArms
set_option linter.unusedVariables false
set_option linter.unusedSimpArgs false
namespace Go.Proofs.YtohncbgkiojlnaaGreatDoor.Am
open Go.RowKit (Below)

/-- What is known of a world at a call's door: every cell of it stays. -/
def g0 (P : Program) (W : World) : G := { P, fz := fun b o => W.cell? ⟨b, o, none⟩, ow := fun _ _ => none, loc := fun _ _ => none }
theorem hr0 (P : Program) (W : World) : HR (g0 P W) (fun _ => none) W W ⟨.nil, 0, 0⟩ :=
  ⟨⟨Below.refl _ W, fun b o v h => h, fun b o l h => (by cases h), fun l o h => (by cases h)⟩, fun r o h => (by cases h), fun r _ => rfl, fun r _ _ v => rfl, fun r _ => rfl, Nat.le_refl _⟩

theorem calls_of_run {P : Program} {C : Tab} {nat : FuncId → Option Call} {W : World} (hC : TabOk P C) (hnat : NatOk P W nat) {f : FuncId} {args : List AV} {v : AV} {hp : Hp} {us : List Value} (hf : Nat.ble ycode f = false) (hn : nat f = none)
    (hrun : runW C nat f args ⟨.nil, 0, 0⟩ = some (v, hp)) (hv : VRs (g0 P W) args us) :
    Calls P f us.toArray W fun e W' => ∃ u g', e = .returned u ∧ VR g' v u ∧ Below W.heap.size W W' := by
  obtain ⟨n, h⟩ := runW_iff.1 hrun
  cases n with
  | zero => simp [callN] at h
  | succ n =>
    simp only [callN, hf, cond_false, hn] at h
    obtain ⟨hc, hy⟩ := callN_both (w0 := W) hC hnat n
    obtain ⟨_, k⟩ := callF_sound hC hc hy h (g := g0 P W) rfl (hr0 P W) hv
    refine (callsIn_wide.1 k).mono fun e W' hh => ?_
    obtain ⟨u, rfl, g', F', h1, h2, h3, h4, h5, h6, h7⟩ := hh
    exact ⟨u, g', rfl, h2, h3.wr.below⟩

/-! ### What a reading gives -/
def HasFs (H : TypeId → List AV → Prop) : List Field → List AV → Prop
  | [], cs => cs = []
  | f :: fs, cs => ∃ a b, cs = a ++ b ∧ H f.type a ∧ HasFs H fs b
def elT (P : Program) (e : TypeId) (ds : List AV) : AV := match P.underlying e with
  | some (.struct _) => .agg ds
  | _ => match ds with
    | [d] => d
    | _ => .undef
def HasT (P : Program) : Nat → TypeId → List AV → Prop
  | 0, _, _ => False
  | n + 1, t, cs => match P.underlying t with
    | some .bool => ∃ b, cs = [.bool b]
    | some (.int k) => ∃ x, cs = [.int k x] ∧ (Lit.int k x).wf = true
    | some .string => ∃ s, cs = [.str s] ∧ s.size ≤ maxLen
    | some (.slice e) => ∃ xs own, cs = [.slice (P.cellsOf e) xs own] ∧ xs.length ≤ maxLen ∧ ∀ x ∈ xs, ∃ ds, x = elT P e ds ∧ HasT P n e ds
    | some (.struct fs) => HasFs (HasT P n) fs.toList cs
    | _ => False

/-- Fields one behind the other. -/
def laidFs (P : Program) (S : List TypeId) : Nat → List Field → Option Nat
  | off, [] => some off
  | off, f :: fs => if f.offset = off ∧ f.type ∈ S then laidFs P S (off + P.cellsOf f.type) fs else none
/-- A type all of whose parts lie among some types: numbers, texts, rows, structs. -/
def okT (P : Program) (S : List TypeId) (t : TypeId) : Bool := match P.underlying t with
  | some .bool => decide (P.cellsOf t = 1)
  | some (.int _) => decide (P.cellsOf t = 1)
  | some .string => decide (P.cellsOf t = 1)
  | some (.slice e) => decide (P.cellsOf t = 1 ∧ e ∈ S ∧ 0 < P.cellsOf e)
  | some (.struct fs) => decide (laidFs P S 0 fs.toList = some (P.cellsOf t))
  | _ => false

section
variable {H : Type} {enc : TypeId × Value → H} {P : Program} {W : World}

theorem One.of_single {v : Value} (h : oneC v = true) : One [v] := One.single h
theorem mapM_add {w : World} {base : Nat} {a : Addr} {n : Nat} {cs : List Value} (h : w.cells? base a n = some cs) : cs.length = n ∧ ∀ j u, cs[j]? = some u → w.cell? (a.add j) = some u := by
  simp only [World.cells?] at h
  split at h <;> try contradiction
  have hl := mapM_some_length h
  simp only [List.length_range] at hl
  refine ⟨hl, fun j u hj => ?_⟩
  have hjn : j < n := by rw [← hl]; exact (List.getElem?_eq_some_iff.1 hj).1
  have := mapM_some_get h j j (by simp [hjn])
  rw [this, hj]

theorem spot_none {w : World} {a : Addr} {v : Value} (h : w.cell? a = some v) : a.spot = none := by
  simp only [World.cell?] at h
  split at h <;> try contradiction
  cases hs : a.spot with
  | none => rfl
  | some x => rw [hs] at h; simp at h

theorem cells_elT {n : Nat} {e : TypeId} {ds : List AV} (h : HasT P n e ds) : (elT P e ds).cells = ds := by
  cases n with
  | zero => exact h.elim
  | succ n =>
    simp only [HasT] at h
    unfold elT
    split at h
    · rename_i hu; rw [hu]; obtain ⟨b, rfl⟩ := h; rfl
    · rename_i hu; rw [hu]; obtain ⟨b, rfl, _⟩ := h; rfl
    · rename_i hu; rw [hu]; obtain ⟨b, rfl, _⟩ := h; rfl
    · rename_i hu; rw [hu]; obtain ⟨xs, own, rfl, _⟩ := h; rfl
    · rename_i hu; rw [hu]; rfl
    · exact h.elim

theorem read_plain {S : List TypeId} (hS : ∀ t ∈ S, okT P S t = true) : ∀ (fuel : Nat) (t : TypeId) (cs : List Value) (x : DataW H × List MemPlace), t ∈ S → DataW.trod enc P W 0 (fun _ => true) true fuel t cs = some x →
    ∃ avs, HasT P fuel t avs ∧ VRs (g0 P W) avs cs ∧ One cs ∧ cs.length = P.cellsOf t := by
  intro fuel
  induction fuel with
  | zero => intro t cs x ht h; simp [DataW.trod] at h
  | succ n ih =>
    intro t cs x ht h
    have hok := hS t ht
    simp only [okT] at hok
    split at hok
    · rename_i hu
      have hc := of_decide_eq_true hok
      unfold DataW.trod at h
      rw [hu] at h
      split at h <;> simp_all
      refine ⟨[.bool ‹Bool›], by simp [HasT, hu], VRs.cons (.bool _) (VRs.nil _), One.of_single rfl⟩
    · rename_i k hu
      have hc := of_decide_eq_true hok
      unfold DataW.trod at h
      rw [hu] at h
      split at h <;> simp_all
      obtain ⟨⟨rfl, hw⟩, _⟩ := h
      refine ⟨[.int _ ‹Int›], ?_, VRs.cons (.int _ _) (VRs.nil _), One.of_single rfl⟩
      simp only [HasT, hu]
      exact ⟨_, rfl, hw⟩
    · rename_i hu
      have hc := of_decide_eq_true hok
      unfold DataW.trod at h
      rw [hu] at h
      split at h <;> simp_all
      refine ⟨[.str ‹ByteArray›], ?_, VRs.cons (.str _) (VRs.nil _), One.of_single rfl⟩
      simp only [HasT, hu]
      exact ⟨_, rfl, h.1⟩
    · rename_i e hu
      obtain ⟨hc, heS, he0⟩ := of_decide_eq_true hok
      rcases DataW.trod_slice hu h with ⟨rfl, _⟩ | ⟨a, len, cap, elems, rest, n', hn', rfl, _, _, hlc, hcm, hel, helem, hsp, _⟩
      · refine ⟨[.slice (P.cellsOf e) [] .nil], ?_, VRs.cons .nils (VRs.nil _), One.of_single rfl, hc.symm⟩
        simp only [HasT, hu]
        exact ⟨[], .nil, rfl, by simp, by simp⟩
      · have hnn : n' = n := by omega
        subst hnn
        obtain ⟨hrl, hrest⟩ := hsp rfl
        by_cases hcap : cap = 0
        · have hlen : len = 0 := by omega
          subst hcap; subst hlen
          refine ⟨[.slice (P.cellsOf e) [] .no], ?_, VRs.cons (.slice0 (.inl rfl)) (VRs.nil _), One.of_single rfl, hc.symm⟩
          simp only [HasT, hu]
          exact ⟨[], .no, rfl, by simp, by simp⟩
        · have hspot : a.spot = none := by
            have hx : ∃ cs', W.cells? 0 a (P.cellsOf e) = some cs' := by
              by_cases hl0 : len = 0
              · have := hrest 0 (by omega)
                have hr0 : 0 < rest.length := by omega
                rw [List.getElem?_eq_getElem hr0] at this
                obtain ⟨cs', h1, _⟩ := Option.bind_eq_some_iff.1 this
                subst hl0
                simp only [Nat.add_zero, Nat.zero_mul, Addr.add, if_true] at h1
                exact ⟨cs', h1⟩
              · have := helem 0 (by omega)
                have hr0 : 0 < elems.length := by omega
                rw [List.getElem?_eq_getElem hr0] at this
                obtain ⟨cs', h1, _⟩ := Option.bind_eq_some_iff.1 this
                simp only [Nat.zero_mul, Addr.add, if_true] at h1
                exact ⟨cs', h1⟩
            obtain ⟨cs', h1⟩ := hx
            obtain ⟨k1, k2⟩ := mapM_add h1
            have hcl : 0 < cs'.length := by omega
            have := k2 0 cs'[0] (List.getElem?_eq_getElem hcl)
            simp only [Addr.add, if_true] at this
            exact spot_none this
          have key : ∀ m, m ≤ len → ∃ (xs : List AV) (us : List Value), xs.length = m ∧ VRs (g0 P W) (flat xs) us ∧ One us ∧ (∀ x ∈ xs, ∃ ds, x = elT P e ds ∧ HasT P n' e ds) ∧ (∀ x ∈ xs, x.cells.length = P.cellsOf e) ∧
              us.length = m * P.cellsOf e ∧ ∀ i u, us[i]? = some u → W.cell? ⟨a.block, a.off + i, none⟩ = some u := by
            intro m
            induction m with
            | zero => intro _; exact ⟨[], [], rfl, VRs.nil _, One.nil, by simp, by simp, by simp, by simp⟩
            | succ m ihm =>
              intro hm
              obtain ⟨xs, us, k1, k2, k3, k4, k5, k6, k7⟩ := ihm (by omega)
              have := helem m (by omega)
              have hr0 : m < elems.length := by omega
              rw [List.getElem?_eq_getElem hr0] at this
              obtain ⟨cs', h1, h2⟩ := Option.bind_eq_some_iff.1 this
              obtain ⟨ds, d1, d2, d3, d4⟩ := ih e cs' _ heS h2
              obtain ⟨c1, c2⟩ := mapM_add h1
              have hcells := cells_elT d1
              refine ⟨xs ++ [elT P e ds], us ++ cs', by simp [k1], ?_, k3.append d3, ?_, ?_, by rw [List.length_append, k6, d4, Nat.succ_mul], ?_⟩
              · rw [flat_app]
                refine k2.append ?_
                simp only [flat, hcells, List.append_nil]
                exact d2
              · intro x hx
                rcases List.mem_append.1 hx with hx | hx
                · exact k4 x hx
                · simp only [List.mem_singleton] at hx; subst hx; exact ⟨ds, rfl, d1⟩
              · intro x hx
                rcases List.mem_append.1 hx with hx | hx
                · exact k5 x hx
                · simp only [List.mem_singleton] at hx; subst hx; rw [hcells, d2.1, d4]
              · intro i u hi
                by_cases hlt : i < us.length
                · rw [List.getElem?_append_left hlt] at hi
                  exact k7 i u hi
                · rw [List.getElem?_append_right (by omega)] at hi
                  have := c2 _ u hi
                  have hadd : (a.add (m * P.cellsOf e)).add (i - us.length) = ⟨a.block, a.off + i, none⟩ := by
                    obtain ⟨ab, ao, as⟩ := a
                    simp only at hspot
                    subst hspot
                    unfold Addr.add
                    by_cases z1 : m * P.cellsOf e = 0 <;> by_cases z2 : i - us.length = 0 <;> simp [z1, z2] <;> omega
                  rw [hadd] at this
                  exact this
          obtain ⟨xs, us, k1, k2, k3, k4, k5, k6, k7⟩ := key len (Nat.le_refl _)
          refine ⟨[.slice (P.cellsOf e) xs .no], ?_, VRs.cons ?_ (VRs.nil _), One.of_single rfl, hc.symm⟩
          · simp only [HasT, hu]
            exact ⟨xs, .no, rfl, by omega, k4⟩
          · have ha : (some a : Option Addr) = some ⟨a.block, a.off, none⟩ := by
              obtain ⟨ab, ao, as⟩ := a
              simp only at hspot
              subst hspot
              rfl
            rw [ha]
            exact VR.slice k2.1 k2.2 k3 k5 k1.symm hlc (fun i u hi => k7 i u hi) trivial
    · rename_i fs hu
      have hc := of_decide_eq_true hok
      obtain ⟨xs, n', hn', _, hcl, hxl, hf⟩ := DataW.trod_struct hu h
      have hnn : n' = n := by omega
      subst hnn
      have key : ∀ (l : List Field) (off i0 : Nat), laidFs P S off l = some (P.cellsOf t) → (∀ i f, l[i]? = some f → fs[i0 + i]? = some f) → i0 + l.length = fs.size → off ≤ cs.length →
          ∃ avs, HasFs (HasT P n') l avs ∧ VRs (g0 P W) avs (cs.drop off) ∧ One (cs.drop off) := by
        intro l
        induction l with
        | nil =>
          intro off i0 hl _ _ _
          simp only [laidFs, Option.some.injEq] at hl
          refine ⟨[], rfl, ?_, ?_⟩
          · rw [hl, ← hcl, List.drop_length]; exact VRs.nil _
          · rw [hl, ← hcl, List.drop_length]; exact One.nil
        | cons f fs' ihl =>
          intro off i0 hl hix hlen hoff
          simp only [laidFs] at hl
          split at hl <;> try contradiction
          rename_i hfo
          obtain ⟨ho, hfS⟩ := hfo
          have hfi := hix 0 f rfl
          have htr := hf i0 f (by simpa using hfi)
          have hi0 : i0 < xs.length := by rw [hxl]; simp at hlen; omega
          rw [List.getElem?_eq_getElem hi0] at htr
          obtain ⟨ds, d1, d2, d3, d4⟩ := ih f.type _ _ hfS htr
          rw [ho] at d2 d3 d4
          have hle : off + P.cellsOf f.type ≤ cs.length := by
            simp only [List.length_take, List.length_drop] at d4; omega
          obtain ⟨avs, e1, e2, e3⟩ := ihl (off + P.cellsOf f.type) (i0 + 1) hl (fun i g hg => by have := hix (i + 1) g (by simpa using hg); rw [show i0 + 1 + i = i0 + (i + 1) from by omega]; exact this) (by simp at hlen; omega) hle
          have hsplit : cs.drop off = (cs.drop off).take (P.cellsOf f.type) ++ cs.drop (off + P.cellsOf f.type) := by
            rw [← List.drop_drop]; exact (List.take_append_drop _ _).symm
          refine ⟨ds ++ avs, ⟨ds, avs, rfl, d1, e1⟩, ?_, ?_⟩
          · rw [hsplit]; exact d2.append e2
          · rw [hsplit]; exact d3.append e3
      obtain ⟨avs, e1, e2, e3⟩ := key fs.toList 0 0 hc (fun i f hi => by simpa using hi) (by simp) (Nat.zero_le _)
      refine ⟨avs, ?_, by simpa using e2, by simpa using e3, hcl⟩
      simp only [HasT, hu]
      exact e1
    · simp at hok

/-- An argument that is read: what it is on the abstract machine's side. -/
theorem read_arg {S : List TypeId} (hS : ∀ t ∈ S, okT P S t = true) {t : TypeId} (ht : t ∈ S) {v : Value} {d : DataW H} {ps : List MemPlace} (h : DataW.Trod enc P W 0 (fun _ => true) true t v d ps) :
    ∃ n avs, HasT P n t avs ∧ VRs (g0 P W) avs v.cells.toList ∧ One v.cells.toList := by
  obtain ⟨fuel, hf⟩ := h
  obtain ⟨avs, h1, h2, h3, _⟩ := read_plain hS fuel t _ _ ht hf
  exact ⟨fuel, avs, h1, h2, h3⟩
end
end Go.Proofs.YtohncbgkiojlnaaGreatDoor.Am
