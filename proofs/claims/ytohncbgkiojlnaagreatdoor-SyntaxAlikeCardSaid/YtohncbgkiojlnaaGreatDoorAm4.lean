/- What a value of the abstract machine stands for, in a world: the relation, and how it lasts. -/
import Derived.Test.YtohncbgkiojlnaaGreatDoorAm3
import Derived.CallsIn
import Derived.Below
namespace Go.Proofs.YtohncbgkiojlnaaGreatDoor.Am
open Go.RowKit (Below)

/-! ### Lists -/
section
variable {α β : Type}
theorem len_eq (l : List α) : len l = l.length := by induction l <;> simp_all [len]
theorem nth_eq (l : List α) (i : Nat) : nth l i = l[i]? := by
  induction l generalizing i with
  | nil => simp [nth]
  | cons x xs ih => cases i <;> simp [nth, ih]
theorem app_eq (a b : List α) : app a b = a ++ b := by induction a <;> simp_all [app]
theorem tk_eq (n : Nat) (l : List α) : tk n l = l.take n := by
  induction n generalizing l with
  | zero => simp [tk]
  | succ n ih => cases l <;> simp [tk, ih]
theorem dp_eq (n : Nat) (l : List α) : dp n l = l.drop n := by
  induction n generalizing l with
  | zero => simp [dp]
  | succ n ih => cases l <;> simp [dp, ih]
theorem rep_eq (n : Nat) (x : α) : rep n x = List.replicate n x := by
  induction n <;> simp_all [rep, List.replicate_succ]
theorem setNth_eq (l : List α) (i : Nat) (x : α) : setNth l i x = l.set i x := by
  induction l generalizing i with
  | nil => simp [setNth]
  | cons y ys ih => cases i <;> simp [setNth, ih]
theorem mapO_len {f : α → Option β} {l : List α} {r : List β} (h : mapO f l = some r) : r.length = l.length := by
  induction l generalizing r with
  | nil => simp [mapO] at h; subst h; rfl
  | cons x xs ih =>
    simp only [mapO] at h
    split at h <;> try contradiction
    split at h <;> try contradiction
    rename_i ys h2
    simp only [Option.some.injEq] at h; subst h
    simp [ih h2]
theorem mapO_get {f : α → Option β} {l : List α} {r : List β} (h : mapO f l = some r) {i : Nat} {y : β} (hi : r[i]? = some y) : ∃ x, l[i]? = some x ∧ f x = some y := by
  induction l generalizing r i with
  | nil => simp [mapO] at h; subst h; simp at hi
  | cons x xs ih =>
    simp only [mapO] at h
    split at h <;> try contradiction
    rename_i y0 h1
    split at h <;> try contradiction
    rename_i ys h2
    simp only [Option.some.injEq] at h; subst h
    cases i with
    | zero => simp at hi; subst hi; exact ⟨x, rfl, h1⟩
    | succ i => simp at hi; simpa using ih h2 hi
end

def flat : List AV → List AV
  | [] => []
  | x :: xs => x.cells ++ flat xs
theorem flat_app (a b : List AV) : flat (a ++ b) = flat a ++ flat b := by induction a <;> simp_all [flat]
theorem szOk_iff {sz : Nat} {xs : List AV} : szOk sz xs = true ↔ ∀ x ∈ xs, x.cells.length = sz := by
  induction xs with
  | nil => simp [szOk]
  | cons x xs ih => simp [szOk, ih, len_eq, Nat.beq_eq]
theorem flat_len {sz : Nat} {xs : List AV} (h : ∀ x ∈ xs, x.cells.length = sz) : (flat xs).length = xs.length * sz := by
  induction xs with
  | nil => simp [flat]
  | cons x xs ih =>
    have h1 := h x (by simp)
    have h2 := ih (fun y hy => h y (by simp [hy]))
    simp [flat, h1, h2, Nat.add_mul]; omega
theorem flat_get {sz : Nat} {xs : List AV} (h : ∀ x ∈ xs, x.cells.length = sz) {i : Nat} {x : AV} (hi : xs[i]? = some x) {j : Nat} (hj : j < sz) :
    (flat xs)[i * sz + j]? = x.cells[j]? := by
  induction xs generalizing i with
  | nil => simp at hi
  | cons y ys ih =>
    have hy := h y (by simp)
    have hys : ∀ x ∈ ys, x.cells.length = sz := fun z hz => h z (by simp [hz])
    cases i with
    | zero =>
      simp at hi; subst hi
      simp only [flat, Nat.zero_mul, Nat.zero_add]
      rw [List.getElem?_append_left (by omega)]
    | succ i =>
      simp at hi
      have := ih hys hi
      simp only [flat, Nat.succ_mul]
      rw [List.getElem?_append_right (by omega), hy]
      rw [show i * sz + sz + j - sz = i * sz + j from by omega]
      exact this

/-! ### Ghosts -/
/-- Whose a cell is: an object of the abstract heap's, or a place of a frame's (by its block). -/
inductive Lab where
  | hp (r : Nat)
  | fr (b : Nat)
  deriving DecidableEq

/-- What is known of the world beside itself: cells that nobody writes any more, owners of the others, where a numbered thing lies (by its version). -/
structure G where
  P : Program
  fz : Nat → Nat → Option Value
  ow : Nat → Nat → Option Lab
  loc : Nat → Nat → Option (Nat × Nat × Nat)

structure G.le (g g' : G) : Prop where
  prog : g'.P = g.P
  fz : ∀ b o v, g.fz b o = some v → g'.fz b o = some v
  loc : ∀ r v x, g.loc r v = some x → g'.loc r v = some x
theorem G.le.refl (g : G) : g.le g := ⟨rfl, fun _ _ _ h => h, fun _ _ _ h => h⟩
theorem G.le.trans {a b c : G} (h : a.le b) (k : b.le c) : a.le c := ⟨k.prog.trans h.prog, fun x y v q => k.fz x y v (h.fz x y v q), fun r v x q => k.loc r v x (h.loc r v x q)⟩

/-- The ghosts go on; below a number nothing is laid. -/
structure G.ext (n : Nat) (g g' : G) : Prop where
  le : g.le g'
  lo : ∀ r v, r < n → g.loc r v = none → g'.loc r v = none
theorem G.ext.refl (n : Nat) (g : G) : G.ext n g g := ⟨G.le.refl g, fun _ _ _ h => h⟩
theorem G.ext.trans {n m : Nat} {a b c : G} (h : G.ext n a b) (k : G.ext m b c) (hm : n ≤ m) : G.ext n a c := ⟨h.le.trans k.le, fun r v hr h0 => k.lo r v (by omega) (h.lo r v hr h0)⟩
/-- A step's, or a run's, ghosts and numbers. -/
structure Moves (s s' : St) (g g' : G) : Prop where
  ext : G.ext s.ro g g'
  ro : s'.ro = s.ro
  nx : s.nx ≤ s'.nx
theorem Moves.same (g : G) {s s' : St} (h1 : s'.ro = s.ro) (h2 : s'.nx = s.nx) : Moves s s' g g := ⟨G.ext.refl _ g, h1, by omega⟩
theorem Moves.of {g g' : G} {s s' : St} (h : G.ext s.ro g g') (h1 : s'.ro = s.ro) (h2 : s'.nx = s.nx) : Moves s s' g g' := ⟨h, h1, by omega⟩
theorem Moves.trans {s1 s2 s3 : St} {a b c : G} (h : Moves s1 s2 a b) (k : Moves s2 s3 b c) : Moves s1 s3 a c := ⟨h.ext.trans k.ext (by rw [h.ro]; exact Nat.le_refl _), by rw [k.ro, h.ro], Nat.le_trans h.nx k.nx⟩

def oneC : Value → Bool
  | .agg _ | .tuple _ => false
  | _ => true
def One (us : List Value) : Prop := ∀ u ∈ us, oneC u = true
def Fz (g : G) (b o : Nat) (us : List Value) : Prop := ∀ i u, us[i]? = some u → g.fz b (o + i) = some u
theorem Fz.mono {g g' : G} {b o : Nat} {us : List Value} (h : Fz g b o us) (k : g.le g') : Fz g' b o us := fun i u hi => k.fz _ _ _ (h i u hi)

def OwnR (g : G) (own : Own) (b e n cap : Nat) : Prop :=
  match own with
  | .no => True
  | .nil => False
  | .full => cap = n
  | .chain c p => ∃ b' e', g.loc c p = some (b', e', cap - n) ∧ (n < cap → b' = b ∧ e' = e)
theorem OwnR.mono {g g' : G} {own : Own} {b e n cap : Nat} (h : OwnR g own b e n cap) (k : g.le g') : OwnR g' own b e n cap := by
  cases own with
  | chain c p => obtain ⟨b', e', h1, h2⟩ := h; exact ⟨b', e', k.loc _ _ _ h1, h2⟩
  | _ => exact h

inductive VR (g : G) : AV → Value → Prop where
  | undef (v : Value) : VR g .undef v
  | bool (b : Bool) : VR g (.bool b) (.bool b)
  | int (k : IntKind) (n : Int) : VR g (.int k n) (.int k n)
  | str (s : ByteArray) : VR g (.str s) (.string s)
  | nilptr : VR g .nilptr (.pointer none)
  | ptr {r off b x : Nat} (h : g.loc r 0 = some (b, 0, x)) : VR g (.ptr r off) (.pointer (some ⟨b, off, none⟩))
  | eptr {cs : List AV} {us : List Value} {b o : Nat} (hl : cs.length = us.length) (h : ∀ (i : Nat) c u, cs[i]? = some c → us[i]? = some u → VR g c u) (h1 : One us) (hf : Fz g b o us) :
      VR g (.eptr cs) (.pointer (some ⟨b, o, none⟩))
  | vptr {sz r ver i off b cap : Nat} (h : g.loc r ver = some (b, 0, cap)) : VR g (.vptr sz r ver i off) (.pointer (some ⟨b, i * sz + off, none⟩))
  | nils {sz : Nat} : VR g (.slice sz [] .nil) (.slice none 0 0)
  | slice {sz : Nat} {xs : List AV} {own : Own} {us : List Value} {b o n cap : Nat} (hl : (flat xs).length = us.length)
      (h : ∀ (i : Nat) c u, (flat xs)[i]? = some c → us[i]? = some u → VR g c u) (h1 : One us) (hs : ∀ x ∈ xs, x.cells.length = sz) (hn : n = xs.length) (hc : n ≤ cap)
      (hf : Fz g b o us) (ho : OwnR g own b (o + n * sz) n cap) : VR g (.slice sz xs own) (.slice (some ⟨b, o, none⟩) n cap)
  | slice0 {sz : Nat} {own : Own} {a : Addr} (ho : own = .no ∨ own = .full) : VR g (.slice sz [] own) (.slice (some a) 0 0)
  | vec {sz r ver off n b cap o : Nat} (h : g.loc r ver = some (b, 0, cap)) (hc : off + n ≤ cap) (ho : off < cap → o = off * sz) : VR g (.vec sz r ver off n) (.slice (some ⟨b, o, none⟩) n (cap - off))
  | map {r b x : Nat} (h : g.loc r 0 = some (b, 0, x)) : VR g (.map r) (.map (some b))
  | nilmap : VR g .nilmap (.map none)
  | func {f : FuncId} {cs : List AV} {us : List Value} (hl : cs.length = us.length) (h : ∀ (i : Nat) c u, cs[i]? = some c → us[i]? = some u → VR g c u) : VR g (.func f cs) (.func (.func f) #[] us.toArray)
  | nilfunc : VR g .nilfunc .nilFunc
  | yield {l b x : Nat} (h : g.loc l 0 = some (b, 0, x)) : VR g (.yield l) (.func (.yield b) #[] #[])
  | iface {t : TypeId} {v : AV} {u : Value} (h : VR g v u) : VR g (.iface t v) (.iface t u)
  | niliface : VR g .niliface .nilIface
  | agg {cs : List AV} {us : List Value} (hl : cs.length = us.length) (h : ∀ (i : Nat) c u, cs[i]? = some c → us[i]? = some u → VR g c u) (h1 : One us) : VR g (.agg cs) (.agg us.toArray)
  | tuple {cs : List AV} {us : List Value} (hl : cs.length = us.length) (h : ∀ (i : Nat) c u, cs[i]? = some c → us[i]? = some u → VR g c u) : VR g (.tuple cs) (.tuple us.toArray)

/-- Rows of values, one by one. -/
def VRs (g : G) (cs : List AV) (us : List Value) : Prop := cs.length = us.length ∧ ∀ (i : Nat) c u, cs[i]? = some c → us[i]? = some u → VR g c u

theorem VR.mono {g g' : G} (k : g.le g') {a : AV} {v : Value} (h : VR g a v) : VR g' a v := by
  induction h with
  | undef v => exact .undef v
  | bool b => exact .bool b
  | int q n => exact .int q n
  | str s => exact .str s
  | nilptr => exact .nilptr
  | ptr h => exact .ptr (k.loc _ _ _ h)
  | eptr hl _ h1 hf ih => exact .eptr hl ih h1 (hf.mono k)
  | vptr h => exact .vptr (k.loc _ _ _ h)
  | nils => exact .nils
  | slice hl _ h1 hs hn hc hf ho ih => exact .slice hl ih h1 hs hn hc (hf.mono k) (ho.mono k)
  | slice0 ho => exact .slice0 ho
  | vec h hc ho => exact .vec (k.loc _ _ _ h) hc ho
  | map h => exact .map (k.loc _ _ _ h)
  | nilmap => exact .nilmap
  | func hl _ ih => exact .func hl ih
  | nilfunc => exact .nilfunc
  | yield h => exact .yield (k.loc _ _ _ h)
  | iface _ ih => exact .iface ih
  | niliface => exact .niliface
  | agg hl _ h1 ih => exact .agg hl ih h1
  | tuple hl _ ih => exact .tuple hl ih
theorem VRs.mono {g g' : G} (k : g.le g') {a : List AV} {v : List Value} (h : VRs g a v) : VRs g' a v := ⟨h.1, fun i c u hc hu => (h.2 i c u hc hu).mono k⟩
theorem VRs.nil (g : G) : VRs g [] [] := ⟨rfl, by simp⟩
theorem VRs.cons {g : G} {a : AV} {v : Value} {as_ : List AV} {vs : List Value} (h : VR g a v) (hs : VRs g as_ vs) : VRs g (a :: as_) (v :: vs) := by
  refine ⟨by simp [hs.1], fun i c u hc hu => ?_⟩
  cases i with
  | zero => simp at hc hu; subst hc; subst hu; exact h
  | succ i => simp at hc hu; exact hs.2 i c u hc hu
theorem VRs.append {g : G} {a b : List AV} {u v : List Value} (h : VRs g a u) (k : VRs g b v) : VRs g (a ++ b) (u ++ v) := by
  refine ⟨by simp [h.1, k.1], fun i c w hc hu => ?_⟩
  by_cases hi : i < a.length
  · rw [List.getElem?_append_left hi] at hc
    rw [List.getElem?_append_left (by rw [← h.1]; exact hi)] at hu
    exact h.2 i c w hc hu
  · rw [List.getElem?_append_right (by omega)] at hc
    rw [List.getElem?_append_right (by rw [← h.1]; omega), ← h.1] at hu
    exact k.2 _ c w hc hu
theorem VRs.drop {g : G} {a : List AV} {u : List Value} (h : VRs g a u) (n : Nat) : VRs g (a.drop n) (u.drop n) := by
  refine ⟨by simp [h.1], fun i c w hc hu => ?_⟩
  rw [List.getElem?_drop] at hc hu
  exact h.2 _ c w hc hu
theorem VRs.take {g : G} {a : List AV} {u : List Value} (h : VRs g a u) (n : Nat) : VRs g (a.take n) (u.take n) := by
  refine ⟨by simp [h.1], fun i c w hc hu => ?_⟩
  rw [List.getElem?_take] at hc hu
  split at hc <;> try contradiction
  rename_i hi
  rw [if_pos hi] at hu
  exact h.2 _ c w hc hu
theorem VRs.set {g : G} {a : List AV} {u : List Value} (h : VRs g a u) (n : Nat) {x : AV} {v : Value} (hx : VR g x v) : VRs g (a.set n x) (u.set n v) := by
  refine ⟨by simp [h.1], fun i c w hc hu => ?_⟩
  rw [List.getElem?_set] at hc hu
  split at hc
  · rename_i e; subst e
    rw [if_pos rfl] at hu
    split at hc <;> try contradiction
    rename_i hl
    rw [if_pos (by rw [← h.1]; exact hl)] at hu
    simp at hc hu; subst hc; subst hu; exact hx
  · rename_i e
    rw [if_neg e] at hu
    exact h.2 i c w hc hu
theorem VRs.get {g : G} {a : List AV} {u : List Value} (h : VRs g a u) {i : Nat} {x : AV} (hx : a[i]? = some x) : ∃ v, u[i]? = some v ∧ VR g x v := by
  have hi : i < a.length := by
    rcases Nat.lt_or_ge i a.length with h | h
    · exact h
    · rw [List.getElem?_eq_none h] at hx; cases hx
  have : i < u.length := by rw [← h.1]; exact hi
  exact ⟨u[i], List.getElem?_eq_getElem this, h.2 i x _ hx (List.getElem?_eq_getElem this)⟩

theorem One.append {a b : List Value} (h : One a) (k : One b) : One (a ++ b) := fun u hu => (List.mem_append.1 hu).elim (h u) (k u)
theorem One.sub {a b : List Value} (h : One a) (k : ∀ u ∈ b, u ∈ a) : One b := fun u hu => h u (k u hu)
theorem One.drop {a : List Value} (h : One a) (n : Nat) : One (a.drop n) := h.sub fun _ hu => List.mem_of_mem_drop hu
theorem One.take {a : List Value} (h : One a) (n : Nat) : One (a.take n) := h.sub fun _ hu => List.mem_of_mem_take hu
theorem One.set {a : List Value} (h : One a) (n : Nat) {v : Value} (hv : oneC v = true) : One (a.set n v) := fun u hu => by
  rcases List.mem_or_eq_of_mem_set hu with hu | rfl
  · exact h u hu
  · exact hv
theorem One.nil : One [] := fun _ h => by cases h
theorem One.single {v : Value} (h : oneC v = true) : One [v] := fun u hu => by simp at hu; subst hu; exact h

theorem VRs.uncons0 {g : G} {x : AV} {a : List AV} {us : List Value} (h : VRs g (x :: a) us) : ∃ u vs, us = u :: vs ∧ VR g x u ∧ VRs g a vs := by
  cases us with
  | nil => exact absurd h.1 (by simp)
  | cons u vs => exact ⟨u, vs, rfl, h.2 0 x u rfl rfl, ⟨by have := h.1; simpa using this, fun i c w h1 h2 => h.2 (i + 1) c w (by simpa using h1) (by simpa using h2)⟩⟩

/-- A told value's cells. -/
theorem told_cells {g : G} {v w : AV} {u : Value} (h : told v = some w) (hv : VR g v u) : v = w ∧ VRs g w.cells u.cells.toList ∧ One u.cells.toList := by
  cases hv <;> simp [told] at h <;> subst h
  case agg us hl hh h1 => exact ⟨rfl, ⟨by simpa [AV.cells, Value.cells] using hl, by simpa [AV.cells, Value.cells] using hh⟩, by simpa [Value.cells] using h1⟩
  all_goals refine ⟨rfl, ?_, One.single rfl⟩
  all_goals (refine VRs.cons ?_ (VRs.nil g))
  · exact .bool _
  · exact .int _ _
  · exact .str _
  · exact .nilptr
  · rename_i h; exact .ptr h
  · rename_i a b c d; exact .eptr a b c d
  · rename_i h; exact .vptr h
  · exact .nils
  · rename_i a b c d e f k l; exact .slice a b c d e f k l
  · rename_i a; exact .slice0 a
  · rename_i a b c; exact .vec a b c
  · rename_i h; exact .map h
  · exact .nilmap
  · rename_i a b; exact .func a b
  · exact .nilfunc
  · rename_i h; exact .yield h
  · rename_i h; exact .iface h
  · exact .niliface
end Go.Proofs.YtohncbgkiojlnaaGreatDoor.Am
