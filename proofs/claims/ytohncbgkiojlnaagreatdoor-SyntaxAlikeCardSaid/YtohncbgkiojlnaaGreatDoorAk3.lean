/- Lemmas on the nodes, for walks with free inputs. -/
import Derived.Test.YtohncbgkiojlnaaGreatDoorAk2
import Derived.KernelRfl
set_option linter.unusedVariables false
namespace Go.Proofs.YtohncbgkiojlnaaGreatDoor.Am
section
variable {α β : Type}
theorem k_bnd (x : β) (k : β → Option α) : bnd (some x) k = k x := rfl
theorem k_bt (x y : Option α) : br true x y = x := rfl
theorem k_bf (x y : Option α) : br false x y = y := rfl
theorem k_nt (x : Option α) : need true x = x := rfl
theorem k_dB (b : Bool) (k : Bool → Option α) : dB (.bool b) k = k b := rfl
theorem k_dI (q : IntKind) (n : Int) (k : Int → Option α) : dI q (.int q n) k = k n := by simp [dI]
theorem k_dS (s : ByteArray) (k : ByteArray → Option α) : dS (.str s) k = k s := rfl
theorem k_dL (z : Nat) (x : List AV) (o : Own) (k : Nat → List AV → Own → Option α) : dL (.slice z x o) k = k z x o := rfl
theorem k_dP (r o : Nat) (k : Nat → Nat → Option α) : dP (.ptr r o) k = k r o := rfl
theorem k_dG (x : List AV) (k : List AV → Option α) : dG (.agg x) k = k x := rfl
theorem k_dT (x : List AV) (k : List AV → Option α) : dT (.tuple x) k = k x := rfl
theorem k_dX (g : Nat) (x : List AV) (k : List AV → Option α) : dX g (.box g x) k = k x := by simp [dX]
theorem k_dC (x : AV) (xs : List AV) (k : AV → List AV → Option α) : dC (x :: xs) k = k x xs := rfl
theorem k_dN (x : Option α) : dN [] x = x := rfl
theorem k_ex (i : Nat) (x : Option α) (y : Nat → Option α) : onOut (.exit i) x y = y i := rfl
theorem k_rt (x : Option α) (y : Nat → Option α) : onOut .ret x y = x := rfl
theorem k_df (x : Option α) : dfK [] x = x := rfl
theorem k_hb (cs : List AV) (k : List AV → Option α) : hbx (some (.box cs)) k = k cs := rfl
end
theorem f_b (h : Tr HObj) (n : Nat) (b : Bool) : Am.freeze h n deep (.bool b) = some (.bool b) := by kernel_rfl
theorem f_i (h : Tr HObj) (n : Nat) (q : IntKind) (x : Int) : Am.freeze h n deep (.int q x) = some (.int q x) := by kernel_rfl
theorem f_s (h : Tr HObj) (n : Nat) (s : ByteArray) : Am.freeze h n deep (.str s) = some (.str s) := by kernel_rfl
theorem f_a2 (h : Tr HObj) (n : Nat) (q l : IntKind) (x y : Int) : Am.freeze h n deep (.agg [.int q x, .int l y]) = some (.agg [.int q x, .int l y]) := by kernel_rfl

/-! ### Heaps -/
theorem Tr.putF_putF {α : Type} : ∀ (f : Nat) (t : Tr α) (i : Nat) (x y : Option α), i < f → Tr.putF f (Tr.putF f t i x) i y = Tr.putF f t i y := by
  intro f
  induction f with
  | zero => intro t i x y h; omega
  | succ f ih =>
    intro t i x y hi
    cases i with
    | zero => cases t <;> rfl
    | succ i =>
      cases t with
      | nil =>
        simp only [Tr.putF]
        cases hb : Nat.beq ((i + 1) % 2) 1 with
        | true => simp only [cond_true, Tr.putF, hb]; rw [ih _ _ _ _ (by have := of_beq hb; omega)]
        | false => simp only [cond_false, Tr.putF, hb]; rw [ih _ _ _ _ (by omega)]
      | nd l v r =>
        simp only [Tr.putF]
        cases hb : Nat.beq ((i + 1) % 2) 1 with
        | true => simp only [cond_true, Tr.putF, hb]; rw [ih _ _ _ _ (by have := of_beq hb; omega)]
        | false => simp only [cond_false, Tr.putF, hb]; rw [ih _ _ _ _ (by omega)]
theorem Tr.put_put {α : Type} (t : Tr α) (i : Nat) (x y : Option α) : (t.put i x).put i y = t.put i y := Tr.putF_putF _ _ _ _ _ (by omega)
theorem Tr.get_same {α : Type} (t : Tr α) (i : Nat) (x : Option α) : (t.put i x).get i = x := by rw [Tr.get_put, if_pos rfl]

/-- The bound of all rows that come in. -/
def maxN : Nat := 9223372036854775807
theorem wrap_up {i : Nat} (h : i < maxN) : IntKind.wrap .i64 ((i : Int) + 1) = ((i + 1 : Nat) : Int) := by
  simp only [maxN] at h
  have : IntKind.wrap .i64 ((i : Int) + 1) = (i : Int) + 1 := by
    rw [IntKind.wrap_i64]
    omega
  rw [this]; omega
theorem nth_some {α : Type} {l : List α} {i : Nat} (h : i < l.length) : nth l i = some l[i] := by rw [nth_eq]; exact List.getElem?_eq_getElem h

/-! ### Rows held against each other -/
def all2 (f : AV → AV → Bool) : List AV → List AV → Bool
  | [], [] => true
  | a :: as_, b :: bs => f a b && all2 f as_ bs
  | _, _ => false
theorem all2_step {f : AV → AV → Bool} {xs ys : List AV} {i : Nat} (h1 : i < xs.length) (h2 : i < ys.length) : all2 f (xs.drop i) (ys.drop i) = (f xs[i] ys[i] && all2 f (xs.drop (i + 1)) (ys.drop (i + 1))) := by
  rw [List.drop_eq_getElem_cons h1, List.drop_eq_getElem_cons h2]; rfl
theorem all2_end {f : AV → AV → Bool} {xs ys : List AV} (h : xs.length = ys.length) : all2 f (xs.drop xs.length) (ys.drop xs.length) = true := by
  rw [List.drop_length, h, List.drop_length]; rfl
theorem all2_ne {f : AV → AV → Bool} : ∀ {xs ys : List AV}, xs.length ≠ ys.length → all2 f xs ys = false := by
  intro xs
  induction xs with
  | nil => intro ys h; cases ys with
    | nil => exact absurd rfl h
    | cons y ys => rfl
  | cons x xs ih =>
    intro ys h
    cases ys with
    | nil => rfl
    | cons y ys =>
      simp only [all2]
      rw [ih (fun e => h (by simp [e]))]
      simp
theorem all2_refl {f : AV → AV → Bool} : ∀ {xs : List AV}, (∀ x ∈ xs, f x x = true) → all2 f xs xs = true := by
  intro xs
  induction xs with
  | nil => intro _; rfl
  | cons x xs ih => intro h; simp only [all2, h x (by simp), ih (fun y hy => h y (by simp [hy])), Bool.and_self]
theorem all2_congr {f g : AV → AV → Bool} : ∀ {xs ys : List AV}, (∀ x ∈ xs, ∀ y ∈ ys, f x y = g x y) → all2 f xs ys = all2 g xs ys := by
  intro xs
  induction xs with
  | nil => intro ys _; cases ys <;> rfl
  | cons x xs ih =>
    intro ys h
    cases ys with
    | nil => rfl
    | cons y ys =>
      simp only [all2]
      rw [h x (by simp) y (by simp), ih (fun a ha b hb => h a (by simp [ha]) b (by simp [hb]))]
end Go.Proofs.YtohncbgkiojlnaaGreatDoor.Am
