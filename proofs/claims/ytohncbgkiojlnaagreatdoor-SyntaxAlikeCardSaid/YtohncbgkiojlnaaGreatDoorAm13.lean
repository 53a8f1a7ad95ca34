/- A slice grows: append, and the literal. -/
import Derived.Test.YtohncbgkiojlnaaGreatDoorAm12
import Derived.Deep.Upon
set_option linter.unusedVariables false
set_option linter.unusedSimpArgs false
namespace Go.Proofs.YtohncbgkiojlnaaGreatDoor.Am
open Go.RowKit (Below)

theorem one' {us : List Value} (h : One us) : ∀ u ∈ us, u.oneCell' = true := by
  intro u hu
  have := h u hu
  cases u <;> simp_all [oneC, Value.oneCell']

section
variable {P : Program} {F0 : Lab → Option HObj} {N : Nat} {w0 : World} {g : G} {F : Lab → Option HObj} {s s' : St} {a : Act} {w : World}

theorem bytes_sound (g : G) (l : List UInt8) : VRs g (flat (l.map fun c => AV.int .u8 c.toNat)) (l.map fun c => Value.int .u8 c.toNat) ∧ One (l.map fun c => Value.int .u8 c.toNat) := by
  induction l with
  | nil => exact ⟨VRs.nil g, One.nil⟩
  | cons x xs ih =>
    refine ⟨VRs.cons (.int _ _) ih.1, fun u hu => ?_⟩
    rcases List.mem_cons.1 hu with rfl | hu
    · rfl
    · exact ih.2 u hu

theorem run_firstCells_nothing (w : World) (sz : Nat) (a : Addr) (cap : Nat) : (Builtin.firstCells sz 0 (.slice (some a) 0 cap)).run P w = .ok #[] w := by
  have := run_firstCells_some (P := P) w sz 0 a 0 cap [] (by simp) (fun j u hj => by simp at hj)
  simpa using this
theorem source_sound (h : Rel F0 N w0 g F s a w) {v : AV} {u : Value} {ys : List AV} {sz : Nat} {tx : TypeId} (hv : VR g v u) (hs : s.source v = some ys) (hz : szOk sz ys = true)
    (hk : (∃ e', P.underlying tx = some (.slice e')) ∨ P.underlying tx = some .string) :
    ∃ us, Src P sz tx u ys.length us w ∧ VRs g (flat ys) us ∧ One us := by
  have hsz := szOk_iff.1 hz
  cases hv <;> simp only [St.source, Option.some.injEq, reduceCtorEq] at hs
  case str b =>
    subst hs
    have hb := bytes_sound g b.data.toList
    have hn : (b.data.toList.map fun c => AV.int .u8 c.toNat).length = b.size := by simp
    refine ⟨byteCells b, ?_, hb.1, hb.2⟩
    rw [hn]
    refine ⟨hk, fun _ => rfl, firstCells_string b w, firstCells_string b w.drew, ?_, one' hb.2⟩
    rw [byteCells_length]
    cases hl : b.data.toList with
    | nil =>
      have : b.size = 0 := by rw [← hn, hl]; rfl
      simp [this]
    | cons x xs =>
      have := hsz (.int .u8 x.toNat) (by rw [hl]; simp)
      have e : sz = 1 := by simpa [AV.cells] using this.symm
      rw [e]; omega
  case nils =>
    subst hs
    exact ⟨[], ⟨hk, fun _ => rfl, run_firstCells_none w sz 0 0 0, run_firstCells_none w.drew sz 0 0 0, by simp, fun _ h => by cases h⟩, VRs.nil g, One.nil⟩
  case slice0 ho0 =>
    subst hs
    exact ⟨[], ⟨hk, fun _ => rfl, run_firstCells_nothing w sz _ 0, run_firstCells_nothing w.drew sz _ 0, by simp, fun _ h => by cases h⟩, VRs.nil g, One.nil⟩
  case slice sz' xs own us b o n cap hl hh h1 hs' hn hc hf ho =>
    subst hs
    have hc := Fz.cells h.wr hf
    have hlen : us.length = n * sz := by rw [← hl, flat_len hsz, hn]
    refine ⟨us, ?_, ⟨hl, hh⟩, h1⟩
    rw [← hn]
    exact ⟨hk, fun _ => rfl, run_firstCells_some w sz n ⟨b, o, none⟩ n cap us hlen (fun j u hj => by rw [add_plain]; exact hc j u hj),
      run_firstCells_some w.drew sz n ⟨b, o, none⟩ n cap us hlen (fun j u hj => by rw [add_plain]; exact hc j u hj), hlen, one' h1⟩
  case vec sz' r ver off n b cap o hloc hcc ho =>
    cases hg : s.h.get r with
    | none => rw [hg] at hs; simp at hs
    | some ob =>
      rw [hg] at hs
      cases ob <;> simp only [reduceCtorEq] at hs
      rename_i sz'' ver' xs
      cases hb : (sz'.beq sz'' && ver.beq ver' && (off + n).ble (len xs)) with
      | false => rw [hb] at hs; simp at hs
      | true =>
        rw [hb] at hs
        simp only [cond_true, Option.some.injEq] at hs
        simp only [Bool.and_eq_true, Nat.beq_eq] at hb
        obtain ⟨⟨rfl, rfl⟩, hle⟩ := hb
        have hle := Nat.le_of_ble_eq_true hle
        rw [len_eq] at hle
        obtain ⟨k0, k1, k2, us, k3, k4, k5⟩ := (h.wr.obj _ _ (h.hp r _ hg)).vec_at (b := b) (c := cap) hloc
        rw [tk_eq, dp_eq] at hs
        subst hs
        have hsub : ∀ x ∈ (xs.drop off).take n, x.cells.length = sz' := fun x hx => k1 x (List.mem_of_mem_drop (List.mem_of_mem_take hx))
        have hlen : ((xs.drop off).take n).length = n := by simp; omega
        have hfl : flat ((xs.drop off).take n) = ((flat xs).drop (off * sz')).take (n * sz') := by rw [flat_take (fun x hx => k1 x (List.mem_of_mem_drop hx)), flat_drop k1]
        have hul : ((us.drop (off * sz')).take (n * sz')).length = n * sz' := by
          have := ((k3.drop (off * sz')).take (n * sz')).1
          rw [← hfl, flat_len hsub, hlen] at this
          exact this.symm
        by_cases hn0 : n = 0
        · subst hn0
          refine ⟨[], ?_, by simp [flat]; exact VRs.nil g, One.nil⟩
          simp only [List.take_zero, List.length_nil]
          exact ⟨hk, fun _ => rfl, run_firstCells_some w sz 0 _ _ _ [] (by simp) (fun j u hj => by simp at hj), run_firstCells_some w.drew sz 0 _ _ _ [] (by simp) (fun j u hj => by simp at hj), by simp, fun _ h => by cases h⟩
        · have hoff : o = off * sz' := ho (by omega)
          have hsz' : sz' = sz := by
            have hx : ((xs.drop off).take n) ≠ [] := by intro e; rw [e] at hlen; simp at hlen; omega
            obtain ⟨x, hx⟩ := List.exists_mem_of_ne_nil _ hx
            rw [← hsub x hx, hsz x hx]
          subst hsz'
          have hcc : CellsAt w b o ((us.drop (off * sz')).take (n * sz')) := by
            rw [hoff]; have := (k5.drop (off * sz')).take (n * sz'); simpa using this
          refine ⟨(us.drop (off * sz')).take (n * sz'), ?_, by rw [hfl]; exact (k3.drop _).take _, (k4.drop _).take _⟩
          rw [hlen]
          exact ⟨hk, fun _ => rfl, run_firstCells_some w sz' n ⟨b, o, none⟩ n _ _ hul (fun j u hj => by rw [add_plain]; exact hcc j u hj),
            run_firstCells_some w.drew sz' n ⟨b, o, none⟩ n _ _ hul (fun j u hj => by rw [add_plain]; exact hcc j u hj), hul, one' ((k4.drop _).take _)⟩

/-! ### A new row with a right to grow -/
theorem Rel.grows (h : Rel F0 N w0 g F s a w) {r ver : Nat} (hr : s.ro ≤ r) (hlt : r < s.nx) (hloc : ∀ v, ver ≤ v → g.loc r v = none) {sz n cap : Nat} (h0 : 0 < sz) (hn : n ≤ cap)
    {es : List AV} {us : List Value} (hl : es.length = n) (hs : ∀ x ∈ es, x.cells.length = sz) (hv : VRs g (flat es) us) (h1 : One us) {rest : List Value} (hrest : rest.length = (cap - n) * sz) (t : TypeId) :
    ∃ g' F', G.ext s.ro g g' ∧ VR g' (.slice sz es (.chain r ver)) (.slice (some ⟨w.heap.size, 0, none⟩) n cap) ∧
      Rel F0 N w0 g' F' { s with h := s.h.put r (some (.chain sz ver)) } a (addB w (.cells (us ++ rest).toArray t)) := by
  have hul : us.length = n * sz := by rw [← hv.1, flat_len hs, hl]
  have hcs : n * sz + (cap - n) * sz = cap * sz := by rw [← Nat.add_mul]; congr 1; omega
  have hget : (addB w (.cells (us ++ rest).toArray t)).heap[w.heap.size]? = some (.cells (us ++ rest).toArray t (0, 0)) := by rw [addB_get, if_pos rfl]
  have := h.hnew' (r := r) (ver := ver) (x := (w.heap.size, n * sz, cap - n)) hr hlt (hloc ver (Nat.le_refl _)) (ob := .cells (us ++ rest).toArray t)
    (ow := fun i => if n * sz ≤ i ∧ i < cap * sz then some (.hp r) else none) (fz := fun i => us[i]?) (o := .chain sz ver)
    (fun i v hi => ⟨_, _, _, rfl, by
      have : i < us.length := (List.getElem?_eq_some_iff.1 hi).1
      simp only [List.getElem?_toArray]
      rw [List.getElem?_append_left this]; exact hi⟩)
    (fun i l hi => by
      split at hi
      · rename_i hh; exact List.getElem?_eq_none (by omega)
      · cases hi)
    (fun hle => ⟨w.heap.size, n * sz, cap - n, by simp [G.at_, G.grow, locSet], h0, fun i hi => ⟨by
        simp only [G.grow, if_true]
        rw [if_pos ⟨by omega, by omega⟩], by
        rw [cell_of hget]
        simp [hul, hrest]; omega, by
        rw [frozen_of hget]; simp⟩, fun v hv => by
        simp only [G.at_, G.grow, locSet]
        rw [if_neg (by omega)]
        exact hloc v (by omega)⟩)
  refine ⟨_, _, ⟨this.1, locSet_lo hr⟩, ?_, this.2⟩
  have hv' := hv.mono this.1
  refine VR.slice hv'.1 hv'.2 h1 hs hl.symm hn (fun i u hi => ?_) ⟨w.heap.size, n * sz, by simp [G.grow, locSet], fun _ => ⟨rfl, by omega⟩⟩
  simp only [G.grow, Nat.zero_add, if_true]
  exact hi

theorem setCells_eq {b o : Nat} {us : List Value} {cs : Array Value} {t : TypeId} {fr : Nat × Nat} (hb : w.heap[b]? = some (.cells cs t fr)) (h1 : One us) (hl : o + us.length ≤ cs.size)
    (hf : ∀ j, j < us.length → w.frozen? ⟨b, o + j, none⟩ = false) : w.setCells b o us = setB w b (.cells (putA cs o us) t fr) := by
  have k1 := storeCells_run (P := default) (off := o) us 0 cs w hb h1 (by omega) (fun j hj1 hj2 => by
    have := hf (j - o) (by omega)
    rw [frozen_of hb] at this
    rw [show o + (j - o) = j from by omega] at this
    exact this)
  have k2 := run_storeCells_cells (P := default) b o us 0 w (fun j hj => by
    rw [cell_of hb, Array.getElem?_eq_getElem (by omega)]; rfl) (fun j hj => by simpa using hf j hj) (one' h1)
  rw [k1] at k2
  simp only [Result.ok.injEq, true_and, Nat.add_zero] at k2
  exact k2.symm

/-- A row grows where it lies. -/
theorem Rel.extends (h : Rel F0 N w0 g F s a w) {c p sz n m cap b o : Nat} (hc : s.h.get c = some (.chain sz p)) (hro : s.ro ≤ c) {xs ys : List AV} {us : List Value}
    (hv : VR g (.slice sz xs (.chain c p)) (.slice (some ⟨b, o, none⟩) n cap)) (hm : 0 < m) (hle : n + m ≤ cap) (hl : ys.length = m) (hs : ∀ x ∈ ys, x.cells.length = sz) (hy : VRs g (flat ys) us) (h1 : One us) (hxs : ∀ x ∈ xs, x.cells.length = sz) :
    (∀ j, j < us.length → (w.cell? ⟨b, o + n * sz + j, none⟩).isSome = true) ∧ (∀ j, j < us.length → w.frozen? ⟨b, o + n * sz + j, none⟩ = false) ∧
    ∃ g' F', G.ext s.ro g g' ∧ VR g' (.slice sz (xs ++ ys) (.chain c (p + m))) (.slice (some ⟨b, o, none⟩) (n + m) cap) ∧
      Rel F0 N w0 g' F' { s with h := s.h.put c (some (.chain sz (p + m))) } a (w.setCells b (o + n * sz) us) := by
  have hul : us.length = m * sz := by rw [← hy.1, flat_len hs, hl]
  obtain ⟨b', e', sp, q1, q2, q3, q4⟩ := h.wr.obj _ _ (h.hp c _ hc)
  cases hv with
  | slice0 ho => simp at ho
  | slice hxl hxx hx1 hxs' hn hc' hf ho =>
    rename_i vs
    obtain ⟨b2, e2, r1, r2⟩ := ho
    obtain ⟨rfl, rfl⟩ := r2 (by omega)
    simp only [G.at_] at q1 q4
    rw [r1] at q1
    simp only [Option.some.injEq, Prod.mk.injEq] at q1
    obtain ⟨rfl, rfl, rfl⟩ := q1
    have hms : m * sz ≤ (cap - n) * sz := Nat.mul_le_mul_right _ (by omega)
    have hc1 : ∀ j, j < us.length → (w.cell? ⟨b2, o + n * sz + j, none⟩).isSome = true := fun j hj => (q3 j (by omega)).2.1
    have hf1 : ∀ j, j < us.length → w.frozen? ⟨b2, o + n * sz + j, none⟩ = false := fun j hj => (q3 j (by omega)).2.2
    refine ⟨hc1, hf1, ?_⟩
    have hpos : 0 < us.length := by rw [hul]; exact Nat.mul_pos hm q2
    have hne : us ≠ [] := fun e => by rw [e] at hpos; simp at hpos
    obtain ⟨v0, hv0⟩ := Option.isSome_iff_exists.1 (hc1 0 hpos)
    obtain ⟨cs, t, fr, hb, _⟩ := cells_of hv0
    have hsz : o + n * sz + us.length ≤ cs.size := by
      have := hc1 (us.length - 1) (by omega)
      rw [cell_of hb] at this
      obtain ⟨x, hx⟩ := Option.isSome_iff_exists.1 this
      have := (Array.getElem?_eq_some_iff.1 hx).1
      omega
    have hon : ∀ i, o + n * sz ≤ i → i < o + n * sz + us.length → g.ow b2 i = some (.hp c) := fun i h1 h2 => by
      have := (q3 (i - (o + n * sz)) (by omega)).1
      rw [show o + n * sz + (i - (o + n * sz)) = i from by omega] at this
      exact this
    rw [setCells_eq hb h1 hsz hf1]
    have hlocl : ∀ r v x, g.loc r v = some x → locSet g.loc c (p + m) (b2, o + n * sz + m * sz, cap - n - m) r v = some x := fun r v x hx => by
      simp only [locSet]
      rw [if_neg]
      · exact hx
      · rintro ⟨rfl, rfl⟩
        rw [q4 (p + m) (by omega)] at hx; cases hx
    have hle' := G.tell_le (us := us) h.wr hon hlocl
    have hself : (setB w b2 (.cells (putA cs (o + n * sz) us) t fr)).heap[b2]? = some (.cells (putA cs (o + n * sz) us) t fr) := by rw [setB_get, if_pos rfl, if_pos (lt_of_get hb)]
    have hFfr : ∀ b1, (F_set F (.hp c) (.chain sz (p + m))) (.fr b1) = F (.fr b1) := fun b1 => by simp [F_set]
    have hdist : (cap - n - m) * sz + m * sz = (cap - n) * sz := by rw [← Nat.add_mul]; congr 1; omega
    refine ⟨_, F_set F (.hp c) (.chain sz (p + m)), ⟨hle', locSet_lo hro⟩, ?_, ?_⟩
    · have hx' : VRs g (flat xs) vs := ⟨hxl, hxx⟩
      have hvl : vs.length = n * sz := by rw [← hxl, flat_len hxs, hn]
      have hall := (hx'.append hy).mono hle'
      rw [← flat_app] at hall
      refine VR.slice hall.1 hall.2 (hx1.append h1) (fun x hx => (List.mem_append.1 hx).elim (hxs x) (hs x)) (by simp [hn, hl]) (by omega) (fun i u hi => ?_) ⟨b2, o + n * sz + m * sz, ?_, fun _ => ⟨rfl, by rw [Nat.add_mul]; omega⟩⟩
      · by_cases hi' : i < vs.length
        · rw [List.getElem?_append_left hi'] at hi
          exact hle'.fz _ _ _ (hf i u hi)
        · rw [List.getElem?_append_right (by omega)] at hi
          have hi2 : i - vs.length < us.length := (List.getElem?_eq_some_iff.1 hi).1
          simp only [G.tell]
          rw [if_pos ⟨trivial, by omega, by omega⟩, show o + i - (o + n * sz) = i - vs.length from by omega]
          exact hi
      · simp only [G.tell, locSet]
        rw [if_pos ⟨trivial, trivial⟩]
        congr 3
        omega
    · refine ⟨h.er.mono hle' (fun b1 c1 _ hh => by rw [hFfr]; exact hh), h.df.mono hle', ?_, fun r' o' hr' => ?_, fun r' hr' => ?_, fun r' hr' hn' v => ?_, fun r' hr' => ?_, h.rb, h.nx, ⟨fun r' o' hr' ho' => ?_, fun b1 o' hb1 ho' => ?_⟩, by rw [setB_size]; exact h.big⟩
      · refine h.wr.tell hlocl hb hon hsz (fun l o' hl' => ?_) hne
        by_cases e : l = .hp c
        · subst e
          rw [F_set_same] at hl'
          simp only [Option.some.injEq] at hl'; subst hl'
          refine .inr ⟨b2, o + n * sz + m * sz, cap - n - m, by simp [G.at_, G.tell, locSet], q2, fun i hi => ?_, fun v hv => ?_⟩
          · have := q3 (m * sz + i) (by omega)
            rw [show o + n * sz + (m * sz + i) = o + n * sz + m * sz + i from by omega] at this
            refine ⟨?_, ?_, ?_⟩
            · simp only [G.tell]
              rw [if_neg (by omega)]
              exact this.1
            · rw [cell_of hself]
              have h3 := this.2.1
              rw [cell_of hb] at h3
              obtain ⟨x, hx⟩ := Option.isSome_iff_exists.1 h3
              have h5 := (Array.getElem?_eq_some_iff.1 hx).1
              rw [Array.getElem?_eq_getElem (by rw [putA_size]; exact h5)]; rfl
            · rw [frozen_of hself, ← frozen_of hb]; exact this.2.2
          · simp only [G.at_, G.tell, locSet]
            rw [if_neg (by omega)]
            exact q4 v (by omega)
        · rw [F_set_other F _ e] at hl'
          refine .inl ⟨e, hl', fun v hv => ?_⟩
          cases l with
          | hp r' =>
            simp only [G.at_, G.tell, locSet]
            rw [if_neg (fun hh => e (by rw [hh.1]))]
            exact hv
          | fr b1 => exact hv
      · simp only [Tr.get_put] at hr'
        by_cases e : r' = c
        · subst e; rw [if_pos rfl] at hr'; rw [F_set_same]; exact hr'
        · rw [if_neg e] at hr'; rw [F_set_other F _ (by simp [e])]; exact h.hp r' o' hr'
      · simp only [Tr.get_put]
        by_cases e : r' = c
        · subst e; rw [if_pos rfl, F_set_same]
        · rw [if_neg e, F_set_other F _ (by simp [e])]; exact h.hx r' hr'
      · simp only [Tr.get_put] at hn'
        by_cases e : r' = c
        · rw [if_pos e] at hn'; cases hn'
        · rw [if_neg e] at hn'
          simp only [G.tell, locSet]
          rw [if_neg (fun hh => e hh.1)]
          exact h.fresh r' hr' hn' v
      · simp only [Tr.get_put]
        rw [if_neg]
        · exact h.top r' hr'
        · intro e; subst e
          have := h.top r' hr'
          rw [hc] at this; cases this
      · have : r' ≠ c := by simp at hr'; omega
        rw [F_set_other F _ (by simp [this])]; exact h.frm.hp r' o' hr' ho'
      · rw [hFfr]; exact h.frm.fr b1 o' hb1 ho'

theorem source_plain {v : AV} {ys : List AV} (h : s.source v = some ys) : isPlace v = false := by
  cases v <;> first
    | rfl
    | simp [St.source] at h

theorem VR.old_cells {sz : Nat} {xs : List AV} {own : Own} {u : Value} (h : Rel F0 N w0 g F s a w) (hv : VR g (.slice sz xs own) u) {sz2 : Nat} (hs : xs.length = 0 ∨ sz2 = sz) :
    ∃ base n cap us, u = .slice base n cap ∧ n = xs.length ∧ n ≤ cap ∧ VRs g (flat xs) us ∧ One us ∧ (∀ x ∈ xs, x.cells.length = sz2) ∧ us.length = n * sz2 ∧
      (Builtin.firstCells sz2 n (.slice base n cap)).run P w.drew = .ok us.toArray w.drew := by
  cases hv with
  | nils => exact ⟨none, 0, 0, [], rfl, rfl, Nat.le_refl _, VRs.nil g, One.nil, by simp, by simp, run_firstCells_none w.drew sz2 0 0 0⟩
  | slice0 => exact ⟨_, 0, 0, [], rfl, rfl, Nat.le_refl _, VRs.nil g, One.nil, by simp, by simp, run_firstCells_nothing w.drew sz2 _ 0⟩
  | @slice _ _ _ us b o n cap hl hh h1 hs' hn hc hf ho =>
    have hx : ∀ x ∈ xs, x.cells.length = sz2 := by
      rcases hs with e | e
      · intro x hx
        rw [List.length_eq_zero_iff] at e
        subst e; cases hx
      · subst e; exact hs'
    have hlen : us.length = n * sz2 := by rw [← hl, flat_len hx, hn]
    have hcc := Fz.cells h.wr hf
    exact ⟨_, n, cap, us, rfl, hn, hc, ⟨hl, hh⟩, h1, hx, hlen, run_firstCells_some w.drew sz2 n ⟨b, o, none⟩ n cap us hlen (fun j u hj => by rw [add_plain]; exact hcc j u hj)⟩

theorem turns_app {o : Oper} {t tx e : TypeId} {x y : Operand} {x' y' : X} {i : TypeInfo} {z : AV} {k : Nat} {v : AV} {s' : St}
    (ho : o.op = .call { callee := .builtin .append, args := #[x, y], argTypes := #[t, tx] }) (ht : P.underlying t = some (.slice e)) (hi : P.info? e = some i) (hz : zeroT P e = some z) (hzs : z.cells.length = i.size) (h0 : 0 < i.size)
    (hk : (∃ e', P.underlying tx = some (.slice e')) ∨ P.underlying tx = some .string) (hx : cX x = some x') (hy : cX y = some y') (h : Rel F0 N w0 g F s a w)
    (hs : s.append k i.size i.bytes false (s.ev x') (s.ev y') = some (v, s')) : Turns P F0 N w0 o g s a w v s' := by
  obtain ⟨consts, ex⟩ := builtin_run ho a.eval
  have kx := eval_of hx h
  have ky := eval_of hy h
  simp only [St.append] at hs
  split at hs <;> try contradiction
  rename_i ys hsrc
  have ky := ky.plain (source_plain hsrc)
  cases hz1 : szOk i.size ys with
  | false => rw [hz1] at hs; simp at hs
  | true =>
    rw [hz1] at hs
    simp only [cond_true] at hs
    obtain ⟨us, sr, k2, k3⟩ := source_sound (P := P) (tx := tx) h ky hsrc hz1 hk
    have hysz := szOk_iff.1 hz1
    generalize hX : s.ev x' = X at kx hs
    have hrun : ∀ {u : Value} {w' : World}, (Builtin.append_ #[t, tx] o.type #[a.eval x, a.eval y]).run P w = .ok u w' → (execOp a.eval o).run P w = .ok (.value u) w' := by
      intro u w' hh
      rw [ex]
      have : (#[x, y] : Array Operand).map a.eval = #[a.eval x, a.eval y] := by simp
      rw [this]
      simp only [builtin, Sem.run_bind, hh, Result.andThen_ok, Sem.run_pure]
    cases X <;> simp only [reduceCtorEq, cond_false] at hs
    rename_i sz' xs own
    have kx : VR g (.slice sz' xs own) (a.eval x) := kx
    cases ys with
    | nil =>
      simp only [Option.some.injEq, Prod.mk.injEq] at hs
      obtain ⟨rfl, rfl⟩ := hs
      have hus : us = [] := by have := k2.1; simp [flat] at this; exact List.eq_nil_of_length_eq_zero this.symm
      subst hus
      have : ∃ base n cap, a.eval x = .slice base n cap ∧ n ≤ cap := by
        generalize a.eval x = u at kx
        cases kx with
        | nils => exact ⟨none, 0, 0, rfl, Nat.le_refl _⟩
        | slice0 => exact ⟨_, 0, 0, rfl, Nat.le_refl _⟩
        | slice hl hh h1 hs' hn hc hf ho => exact ⟨_, _, _, rfl, hc⟩
      obtain ⟨base, n, cap, e1, e2⟩ := this
      have hr := run_append_nothing w t tx o.type e i ht hi base n cap e2 (a.eval y) sr
      rw [← e1] at hr
      exact ⟨_, g, F, w, .inl (hrun hr), .same g rfl rfl, VX.of_plain rfl kx, h⟩
    | cons y0 ys0 =>
      simp only at hs
      generalize hys : y0 :: ys0 = ys at hs k2 k3 sr hysz hsrc hz1
      have hm : 0 < ys.length := by rw [← hys]; simp
      cases hb : (((len xs + len ys) * i.bytes).ble room && Nat.blt 0 i.bytes && ((len xs).beq 0 || i.size.beq sz')) with
      | false => rw [hb] at hs; simp at hs
      | true =>
        rw [hb] at hs
        simp only [cond_true] at hs
        simp only [Bool.and_eq_true, Bool.or_eq_true, Nat.beq_eq, len_eq] at hb
        obtain ⟨⟨hb1, hb2⟩, hb3⟩ := hb
        have hb1 := Nat.le_of_ble_eq_true hb1
        have hb2 : 0 < i.bytes := Nat.le_of_ble_eq_true hb2
        obtain ⟨base, n, cap, olds, e1, e2, e3, e4, e5, e6, e7, e8⟩ := VR.old_cells (P := P) h kx hb3
        subst e2
        obtain ⟨i', zv, z1, z2, z3, z4, z5⟩ := zeroT_sound g hz
        rw [hi] at z1
        simp only [Option.some.injEq] at z1; subst z1
        have hzl : zv.cells.size = i.size := by have := z4.1; simp at this; omega
        have hneed : xs.length + ys.length ≤ 35184372088832 := by
          have : (xs.length + ys.length) * 1 ≤ (xs.length + ys.length) * i.bytes := Nat.mul_le_mul_left _ hb2
          simp only [room] at hb1; omega
        have grow : cap < xs.length + ys.length → ∀ {r ver : Nat}, s.ro ≤ r → r < s.nx → (∀ v, ver ≤ v → g.loc r v = none) →
            Turns P F0 N w0 o g s a w (.slice i.size (xs ++ ys) (.chain r ver)) { s with h := s.h.put r (some (.chain i.size ver)) } := by
          intro hg r ver hr hlt hloc
          have hr1 := run_append_grow_src w t tx o.type e i zv ht hi z2 base xs.length cap olds e8 (a.eval y) ys.length us sr hg (by omega) (growslice_fits hg (by simp only [room] at hb1; omega))
          have hgc := grownCap_ge w (xs.length + ys.length) cap e
          generalize grownCap w (xs.length + ys.length) cap e = nc at hr1 hgc
          have hgr := (h.drew (w.drawn + 1)).grows (r := r) (ver := ver) hr hlt hloc h0 hgc (es := xs ++ ys) (us := olds ++ us) (by simp) (fun x hx => (List.mem_append.1 hx).elim (e6 x) (hysz x))
            (by rw [flat_app]; exact e4.append k2) (e5.append k3) (rest := (Builtin.zeroCells zv.cells (nc - (xs.length + ys.length))).toList) (by simp [Builtin.zeroCells, hzl]) e
          obtain ⟨g', F', m1, m2, m3⟩ := hgr
          rw [← e1] at hr1
          refine ⟨_, g', F', _, .inl (hrun hr1), .of m1 rfl rfl, VX.of_plain rfl m2, ?_⟩
          have hw : w.drew.alloc (.cells ((olds ++ us).toArray ++ Builtin.zeroCells zv.cells (nc - (xs.length + ys.length))) e) =
              addB { w with drawn := w.drawn + 1 } (.cells (olds ++ us ++ (Builtin.zeroCells zv.cells (nc - (xs.length + ys.length))).toList).toArray e) := by
            simp only [World.alloc, World.drew, addB]
            congr 3
            apply Array.ext'
            simp
          rw [hw]
          exact m3
        have hfull : (own = .nil ∨ own = .full) → cap = xs.length := by
          intro ho
          rw [e1] at kx
          rcases ho with rfl | rfl
          · cases kx with
            | nils => rfl
            | slice hl hh h1 hs' hn hc hf ho => exact ho.elim
            | slice0 ho => simp at ho
          · cases kx with
            | slice hl hh h1 hs' hn hc hf ho => exact ho
            | slice0 ho => rfl
        have hnew : (own = .nil ∨ own = .full) → s.free k = true → Turns P F0 N w0 o g s a w (.slice i.size (xs ++ ys) (.chain (s.rb + k) (xs.length + ys.length))) { s with h := s.h.put (s.rb + k) (some (.chain i.size (xs.length + ys.length))) } := by
          intro ho hf
          obtain ⟨q1, q2, q3⟩ := free_sound hf
          exact grow (by rw [hfull ho]; omega) q2 q1 (fun v _ => h.fresh _ q2 q3 v)
        cases own with
        | no => simp at hs
        | nil =>
          simp only at hs
          cases hf : s.free k with
          | false => rw [hf] at hs; simp at hs
          | true =>
            rw [hf] at hs
            simp only [cond_true, cond_false, Option.some.injEq, Prod.mk.injEq, len_eq, app_eq] at hs
            obtain ⟨rfl, rfl⟩ := hs
            exact hnew (.inl rfl) hf
        | full =>
          simp only at hs
          cases hf : s.free k with
          | false => rw [hf] at hs; simp at hs
          | true =>
            rw [hf] at hs
            simp only [cond_true, cond_false, Option.some.injEq, Prod.mk.injEq, len_eq, app_eq] at hs
            obtain ⟨rfl, rfl⟩ := hs
            exact hnew (.inr rfl) hf
        | chain c p =>
          simp only at hs
          split at hs <;> try contradiction
          rename_i sz'' tip hc
          cases hbb : (tip.beq p && i.size.beq sz'' && s.ro.ble c) with
          | false => rw [hbb] at hs; simp at hs
          | true =>
            rw [hbb] at hs
            simp only [cond_true, Option.some.injEq, Prod.mk.injEq, len_eq, app_eq] at hs
            obtain ⟨rfl, rfl⟩ := hs
            simp only [Bool.and_eq_true, Nat.beq_eq] at hbb
            obtain ⟨⟨rfl, rfl⟩, hro⟩ := hbb
            have hro := Nat.le_of_ble_eq_true hro
            by_cases hg : cap < xs.length + ys.length
            · have hlt : c < s.nx := by
                rcases Nat.lt_or_ge c s.nx with h1 | h1
                · exact h1
                · rw [h.top c h1] at hc; cases hc
              obtain ⟨b', e', sp, q1, q2, q3, q4⟩ := h.wr.obj _ _ (h.hp c _ hc)
              exact grow hg hro hlt (fun v hv => q4 v (by omega))
            · have kx' : VR g (.slice i.size xs (.chain c tip)) (.slice base xs.length cap) := by
                rw [e1] at kx
                cases kx with
                | slice0 ho => simp at ho
                | slice hl hh h1 hs' hn hc hf ho => exact .slice hl hh h1 e6 hn hc hf (by
                    obtain ⟨b', e', r1, r2⟩ := ho
                    refine ⟨b', e', r1, fun hlt => ?_⟩
                    obtain ⟨r3, r4⟩ := r2 hlt
                    refine ⟨r3, ?_⟩
                    rcases hb3 with h9 | h9
                    · rw [h9] at r4 ⊢; simp at r4 ⊢; exact r4
                    · rw [h9]; exact r4)
              have kx2 := kx'
              cases kx2 with
              | slice0 ho => simp at ho
              | slice hl hh h1 hs' hn hc' hf ho =>
                rename_i vs b off
                obtain ⟨f1, f2, g', F', m1, m2, m3⟩ := h.extends hc hro kx' hm (by omega) rfl hysz k2 k3 e6
                have hr1 := run_append_room_src w t tx o.type e i ht hi b off xs.length cap (a.eval y) ys.length us sr (by omega) f1 f2
                rw [← e1] at hr1
                exact ⟨_, g', F', _, .inl (hrun hr1), .of m1 rfl rfl, VX.of_plain rfl m2, m3⟩
end
end Go.Proofs.YtohncbgkiojlnaaGreatDoor.Am
