/- Two programs are held against each other: what the program's and the reference's functions answer. -/
import Derived.Test.YtohncbgkiojlnaaGreatDoorTrS2
import Derived.Test.YtohncbgkiojlnaaGreatDoorAk3
set_option maxRecDepth 100000
set_option linter.unusedVariables false
set_option linter.unusedSimpArgs false
namespace Go.Proofs.YtohncbgkiojlnaaGreatDoor
open Go.Proofs.YtohncbgkiojlnaaGreatDoor.Am

/-! ### The data -/
def IsB (P : AV → Prop) (v : AV) : Prop := ∃ o l, v = .slice 5 l o ∧ l.length ≤ maxN ∧ ∀ s ∈ l, P s
def IsStm : Nat → AV → Prop
  | 0, _ => False
  | n + 1, v => ∃ k x y c o kids, v = .agg [.int .i64 k, .str x, .str y, .int .i64 c, .slice 1 kids o] ∧ kids.length ≤ maxN ∧ ∀ b ∈ kids, IsB (IsStm n) b
def IsProc (n : Nat) (v : AV) : Prop := ∃ s o l, v = .agg [.str s, .slice 5 l o] ∧ l.length ≤ maxN ∧ ∀ s ∈ l, IsStm n s
def IsStr (v : AV) : Prop := ∃ s, v = .str s
def IsProg (n : Nat) (v : AV) : Prop := ∃ vs o ps q, v = .agg [.slice 1 vs o, .slice 2 ps q] ∧ vs.length ≤ maxN ∧ ps.length ≤ maxN ∧ (∀ x ∈ vs, IsStr x) ∧ ∀ p ∈ ps, IsProc n p

def eqB (f : AV → AV → Bool) : AV → AV → Bool
  | .slice _ l _, .slice _ m _ => all2 f l m
  | _, _ => false
def eqStr : AV → AV → Bool
  | .str a, .str b => a.data.toList == b.data.toList
  | _, _ => false
def eqS : Nat → AV → AV → Bool
  | n + 1, .agg [.int _ k, .str x, .str y, .int _ c, .slice _ ks _], .agg [.int _ k', .str x', .str y', .int _ c', .slice _ ks' _] =>
    (k == k') && ((x.data.toList == x'.data.toList) && ((y.data.toList == y'.data.toList) && ((c == c') && all2 (eqB (eqS n)) ks ks')))
  | _, _, _ => false
def eqProc (n : Nat) : AV → AV → Bool
  | .agg [.str x, .slice _ l _], .agg [.str y, .slice _ m _] => (x.data.toList == y.data.toList) && all2 (eqS n) l m
  | _, _ => false

/-! ### slices.EqualFunc at three types, slices.Equal -/
theorem loop65 {f : AV → AV → Bool} {n : Nat} {xs ys : List AV} {ox oy : Am.Own} {h : Tr HObj} {nx ro : Nat} {df : List Df} {b : Bool} (hx : xs.length ≤ maxN) (hl : xs.length = ys.length) (h1 : ∀ x ∈ xs, IsStm n x) (h2 : ∀ y ∈ ys, IsStm n y)
    (hf : ∀ x y, IsStm n x → IsStm n y → rw 66 [x, y] ⟨h, nx, ro⟩ = some (.bool (f x y), ⟨h, nx, ro⟩)) : ∀ (k i rb : Nat), i + k = xs.length →
    lw (some [1, 2, 6, 15, 16, 17]) (some [6]) c65_l0 ⟨(puts .nil [(1, (.slice 5 ys oy)), (2, (.func 66 [])), (6, (.bool b)), (15, (.slice 5 xs ox)), (16, (.int .i64 xs.length)), (17, (.int .i64 i))]), h, nx, rb, ro, df⟩ =
      some (if all2 f (xs.drop i) (ys.drop i) then (.exit 0, ⟨puts .nil [(6, .bool b)], h, nx, nx, ro, df⟩) else (.ret, ⟨puts .nil [(6, .bool false)], h, nx, nx, ro, df⟩)) := by
  intro k
  induction k with
  | zero =>
    intro i rb hi
    have hi : i = xs.length := by omega
    subst hi
    apply lpW_K
    rw [c65_l0_round]
    have e1 : decide ((xs.length : Int) < (xs.length : Int)) = false := by simp
    rw [all2_end hl]
    simp only [e1, k_bnd, k_bt, k_bf, k_nt, k_dB, k_dI, k_dS, k_dL, k_dP, k_dG, k_dT, k_dX, k_dC, k_dN, k_ex, k_rt, k_df, k_hb, f_b, f_i, f_s, f_a2, if_true]
  | succ k ih =>
    intro i rb hi
    have hix : i < xs.length := by omega
    have hiy : i < ys.length := by omega
    apply lpW_K
    rw [c65_l0_round]
    have e1 : decide ((i : Int) < (xs.length : Int)) = true := by simp; omega
    have e2 : decide ((0 : Int) ≤ (i : Int)) = true := by simp
    have e3 : (i : Int).toNat = i := rfl
    have sx := h1 _ (List.getElem_mem hix)
    have sy := h2 _ (List.getElem_mem hiy)
    have hc := hf _ _ sx sy
    rw [all2_step hix hiy]
    cases n with
    | zero => exact sx.elim
    | succ n =>
      obtain ⟨a1, a2, a3, a4, a5, a6, ha, _, _⟩ := sx
      obtain ⟨b1, b2, b3, b4, b5, b6, hb, _, _⟩ := sy
      have n1 : nth xs i = some xs[i] := nth_some hix
      have n2 : nth ys i = some ys[i] := nth_some hiy
      rw [ha] at n1
      rw [hb] at n2
      rw [ha, hb] at hc
      rw [ha, hb]
      have hc' : runW tab nats 66 [.agg [.int .i64 a1, .str a2, .str a3, .int .i64 a4, .slice 1 a6 a5], .agg [.int .i64 b1, .str b2, .str b3, .int .i64 b4, .slice 1 b6 b5]] ⟨h, nx, ro⟩ = _ := hc
      have z5 : Nat.beq 5 5 = true := rfl
      simp only [e1, e2, e3, n1, n2, z5, k_bnd, k_bt, k_bf, k_nt, k_dB, k_dI, k_dS, k_dL, k_dP, k_dG, k_dT, k_dX, k_dC, k_dN, k_ex, k_rt, k_df, k_hb, f_b, f_i, f_s, f_a2, hc']
      cases hff : f (.agg [.int .i64 a1, .str a2, .str a3, .int .i64 a4, .slice 1 a6 a5]) (.agg [.int .i64 b1, .str b2, .str b3, .int .i64 b4, .slice 1 b6 b5]) with
      | false => simp only [Bool.not_false, Bool.false_and, k_bnd, k_bt, k_bf, k_nt, k_dB, k_dI, k_dS, k_dL, k_dP, k_dG, k_dT, k_dX, k_dC, k_dN, k_ex, k_rt, k_df, k_hb, f_b, f_i, f_s, f_a2, Bool.false_eq_true, if_false]
      | true =>
        simp only [Bool.not_true, Bool.true_and, k_bnd, k_bt, k_bf, k_nt, k_dB, k_dI, k_dS, k_dL, k_dP, k_dG, k_dT, k_dX, k_dC, k_dN, k_ex, k_rt, k_df, k_hb, f_b, f_i, f_s, f_a2]
        rw [wrap_up (by omega)]
        exact ih (i + 1) nx (by omega)

theorem run65 {f : AV → AV → Bool} {n : Nat} {xs ys : List AV} {ox oy : Am.Own} {h : Tr HObj} {nx ro : Nat} (hx : xs.length ≤ maxN) (h1 : ∀ x ∈ xs, IsStm n x) (h2 : ∀ y ∈ ys, IsStm n y)
    (hf : ∀ x y, IsStm n x → IsStm n y → rw 66 [x, y] ⟨h, nx, ro⟩ = some (.bool (f x y), ⟨h, nx, ro⟩)) :
    rw 65 [.slice 5 xs ox, .slice 5 ys oy, .func 66 []] ⟨h, nx, ro⟩ = some (.bool (all2 f xs ys), ⟨h, nx, ro⟩) := by
  apply runW_K tab65 rfl
  rw [c65_tree]
  rw [len_eq, len_eq]
  by_cases hl : xs.length = ys.length
  · have e1 : ((xs.length : Int) != (ys.length : Int)) = false := by simp [hl]
    have hk := loop65 (b := false) (ox := ox) (oy := oy) (df := []) hx hl h1 h2 hf xs.length 0 nx (by omega)
    have hk' : lpW tab nats _ _ _ _ = _ := hk
    simp only [e1, k_bnd, k_bt, k_bf, k_nt, k_dB, k_dI, k_dS, k_dL, k_dP, k_dG, k_dT, k_dX, k_dC, k_dN, k_ex, k_rt, k_df, k_hb, f_b, f_i, f_s, f_a2, Int.natCast_zero] at hk' ⊢
    rw [hk']
    simp only [List.drop_zero]
    cases all2 f xs ys with
    | true => rfl
    | false => rfl
  · have e1 : ((xs.length : Int) != (ys.length : Int)) = true := by simp; omega
    rw [all2_ne hl]
    simp only [e1, k_bnd, k_bt, k_bf, k_nt, k_dB, k_dI, k_dS, k_dL, k_dP, k_dG, k_dT, k_dX, k_dC, k_dN, k_ex, k_rt, k_df, k_hb, f_b, f_i, f_s, f_a2]

theorem loop111 {f : AV → AV → Bool} {P : AV → Prop} {xs ys : List AV} {ox oy : Am.Own} {h : Tr HObj} {nx ro : Nat} {df : List Df} {b : Bool} (hx : xs.length ≤ maxN) (hl : xs.length = ys.length) (h1 : ∀ x ∈ xs, IsB P x) (h2 : ∀ y ∈ ys, IsB P y)
    (hf : ∀ x y, IsB P x → IsB P y → rw 34 [x, y] ⟨h, nx, ro⟩ = some (.bool (f x y), ⟨h, nx, ro⟩)) : ∀ (k i rb : Nat), i + k = xs.length →
    lw (some [1, 2, 6, 15, 16, 17]) (some [6]) c111_l0 ⟨(puts .nil [(1, (.slice 1 ys oy)), (2, (.func 34 [])), (6, (.bool b)), (15, (.slice 1 xs ox)), (16, (.int .i64 xs.length)), (17, (.int .i64 i))]), h, nx, rb, ro, df⟩ =
      some (if all2 f (xs.drop i) (ys.drop i) then (.exit 0, ⟨puts .nil [(6, .bool b)], h, nx, nx, ro, df⟩) else (.ret, ⟨puts .nil [(6, .bool false)], h, nx, nx, ro, df⟩)) := by
  intro k
  induction k with
  | zero =>
    intro i rb hi
    have hi : i = xs.length := by omega
    subst hi
    apply lpW_K
    rw [c111_l0_round]
    have e1 : decide ((xs.length : Int) < (xs.length : Int)) = false := by simp
    rw [all2_end hl]
    simp only [e1, k_bnd, k_bt, k_bf, k_nt, k_dB, k_dI, k_dS, k_dL, k_dP, k_dG, k_dT, k_dX, k_dC, k_dN, k_ex, k_rt, k_df, k_hb, f_b, f_i, f_s, f_a2, if_true]
  | succ k ih =>
    intro i rb hi
    have hix : i < xs.length := by omega
    have hiy : i < ys.length := by omega
    apply lpW_K
    rw [c111_l0_round]
    have e1 : decide ((i : Int) < (xs.length : Int)) = true := by simp; omega
    have e2 : decide ((0 : Int) ≤ (i : Int)) = true := by simp
    have e3 : (i : Int).toNat = i := rfl
    have sx := h1 _ (List.getElem_mem hix)
    have sy := h2 _ (List.getElem_mem hiy)
    have hc := hf _ _ sx sy
    rw [all2_step hix hiy]
    · obtain ⟨a5, a6, ha, _, _⟩ := sx
      obtain ⟨b5, b6, hb, _, _⟩ := sy
      have n1 : nth xs i = some xs[i] := nth_some hix
      have n2 : nth ys i = some ys[i] := nth_some hiy
      rw [ha] at n1
      rw [hb] at n2
      rw [ha, hb] at hc
      rw [ha, hb]
      have hc' : runW tab nats 34 [.slice 5 a6 a5, .slice 5 b6 b5] ⟨h, nx, ro⟩ = _ := hc
      have z5 : Nat.beq 1 1 = true := rfl
      simp only [e1, e2, e3, n1, n2, z5, k_bnd, k_bt, k_bf, k_nt, k_dB, k_dI, k_dS, k_dL, k_dP, k_dG, k_dT, k_dX, k_dC, k_dN, k_ex, k_rt, k_df, k_hb, f_b, f_i, f_s, f_a2, hc']
      cases hff : f (.slice 5 a6 a5) (.slice 5 b6 b5) with
      | false => simp only [Bool.not_false, Bool.false_and, k_bnd, k_bt, k_bf, k_nt, k_dB, k_dI, k_dS, k_dL, k_dP, k_dG, k_dT, k_dX, k_dC, k_dN, k_ex, k_rt, k_df, k_hb, f_b, f_i, f_s, f_a2, Bool.false_eq_true, if_false]
      | true =>
        simp only [Bool.not_true, Bool.true_and, k_bnd, k_bt, k_bf, k_nt, k_dB, k_dI, k_dS, k_dL, k_dP, k_dG, k_dT, k_dX, k_dC, k_dN, k_ex, k_rt, k_df, k_hb, f_b, f_i, f_s, f_a2]
        rw [wrap_up (by omega)]
        exact ih (i + 1) nx (by omega)

theorem run111 {f : AV → AV → Bool} {P : AV → Prop} {xs ys : List AV} {ox oy : Am.Own} {h : Tr HObj} {nx ro : Nat} (hx : xs.length ≤ maxN) (h1 : ∀ x ∈ xs, IsB P x) (h2 : ∀ y ∈ ys, IsB P y)
    (hf : ∀ x y, IsB P x → IsB P y → rw 34 [x, y] ⟨h, nx, ro⟩ = some (.bool (f x y), ⟨h, nx, ro⟩)) :
    rw 111 [.slice 1 xs ox, .slice 1 ys oy, .func 34 []] ⟨h, nx, ro⟩ = some (.bool (all2 f xs ys), ⟨h, nx, ro⟩) := by
  apply runW_K tab111 rfl
  rw [c111_tree]
  rw [len_eq, len_eq]
  by_cases hl : xs.length = ys.length
  · have e1 : ((xs.length : Int) != (ys.length : Int)) = false := by simp [hl]
    have hk := loop111 (b := false) (ox := ox) (oy := oy) (df := []) hx hl h1 h2 hf xs.length 0 nx (by omega)
    have hk' : lpW tab nats _ _ _ _ = _ := hk
    simp only [e1, k_bnd, k_bt, k_bf, k_nt, k_dB, k_dI, k_dS, k_dL, k_dP, k_dG, k_dT, k_dX, k_dC, k_dN, k_ex, k_rt, k_df, k_hb, f_b, f_i, f_s, f_a2, Int.natCast_zero] at hk' ⊢
    rw [hk']
    simp only [List.drop_zero]
    cases all2 f xs ys with
    | true => rfl
    | false => rfl
  · have e1 : ((xs.length : Int) != (ys.length : Int)) = true := by simp; omega
    rw [all2_ne hl]
    simp only [e1, k_bnd, k_bt, k_bf, k_nt, k_dB, k_dI, k_dS, k_dL, k_dP, k_dG, k_dT, k_dX, k_dC, k_dN, k_ex, k_rt, k_df, k_hb, f_b, f_i, f_s, f_a2]

theorem loop32 {f : AV → AV → Bool} {n : Nat} {xs ys : List AV} {ox oy : Am.Own} {h : Tr HObj} {nx ro : Nat} {df : List Df} {b : Bool} (hx : xs.length ≤ maxN) (hl : xs.length = ys.length) (h1 : ∀ x ∈ xs, IsProc n x) (h2 : ∀ y ∈ ys, IsProc n y)
    (hf : ∀ x y, IsProc n x → IsProc n y → rw 33 [x, y] ⟨h, nx, ro⟩ = some (.bool (f x y), ⟨h, nx, ro⟩)) : ∀ (k i rb : Nat), i + k = xs.length →
    lw (some [1, 2, 6, 15, 16, 17]) (some [6]) c32_l0 ⟨(puts .nil [(1, (.slice 2 ys oy)), (2, (.func 33 [])), (6, (.bool b)), (15, (.slice 2 xs ox)), (16, (.int .i64 xs.length)), (17, (.int .i64 i))]), h, nx, rb, ro, df⟩ =
      some (if all2 f (xs.drop i) (ys.drop i) then (.exit 0, ⟨puts .nil [(6, .bool b)], h, nx, nx, ro, df⟩) else (.ret, ⟨puts .nil [(6, .bool false)], h, nx, nx, ro, df⟩)) := by
  intro k
  induction k with
  | zero =>
    intro i rb hi
    have hi : i = xs.length := by omega
    subst hi
    apply lpW_K
    rw [c32_l0_round]
    have e1 : decide ((xs.length : Int) < (xs.length : Int)) = false := by simp
    rw [all2_end hl]
    simp only [e1, k_bnd, k_bt, k_bf, k_nt, k_dB, k_dI, k_dS, k_dL, k_dP, k_dG, k_dT, k_dX, k_dC, k_dN, k_ex, k_rt, k_df, k_hb, f_b, f_i, f_s, f_a2, if_true]
  | succ k ih =>
    intro i rb hi
    have hix : i < xs.length := by omega
    have hiy : i < ys.length := by omega
    apply lpW_K
    rw [c32_l0_round]
    have e1 : decide ((i : Int) < (xs.length : Int)) = true := by simp; omega
    have e2 : decide ((0 : Int) ≤ (i : Int)) = true := by simp
    have e3 : (i : Int).toNat = i := rfl
    have sx := h1 _ (List.getElem_mem hix)
    have sy := h2 _ (List.getElem_mem hiy)
    have hc := hf _ _ sx sy
    rw [all2_step hix hiy]
    · obtain ⟨a2, a5, a6, ha, _, _⟩ := sx
      obtain ⟨b2, b5, b6, hb, _, _⟩ := sy
      have n1 : nth xs i = some xs[i] := nth_some hix
      have n2 : nth ys i = some ys[i] := nth_some hiy
      rw [ha] at n1
      rw [hb] at n2
      rw [ha, hb] at hc
      rw [ha, hb]
      have hc' : runW tab nats 33 [.agg [.str a2, .slice 5 a6 a5], .agg [.str b2, .slice 5 b6 b5]] ⟨h, nx, ro⟩ = _ := hc
      have z5 : Nat.beq 2 2 = true := rfl
      simp only [e1, e2, e3, n1, n2, z5, k_bnd, k_bt, k_bf, k_nt, k_dB, k_dI, k_dS, k_dL, k_dP, k_dG, k_dT, k_dX, k_dC, k_dN, k_ex, k_rt, k_df, k_hb, f_b, f_i, f_s, f_a2, hc']
      cases hff : f (.agg [.str a2, .slice 5 a6 a5]) (.agg [.str b2, .slice 5 b6 b5]) with
      | false => simp only [Bool.not_false, Bool.false_and, k_bnd, k_bt, k_bf, k_nt, k_dB, k_dI, k_dS, k_dL, k_dP, k_dG, k_dT, k_dX, k_dC, k_dN, k_ex, k_rt, k_df, k_hb, f_b, f_i, f_s, f_a2, Bool.false_eq_true, if_false]
      | true =>
        simp only [Bool.not_true, Bool.true_and, k_bnd, k_bt, k_bf, k_nt, k_dB, k_dI, k_dS, k_dL, k_dP, k_dG, k_dT, k_dX, k_dC, k_dN, k_ex, k_rt, k_df, k_hb, f_b, f_i, f_s, f_a2]
        rw [wrap_up (by omega)]
        exact ih (i + 1) nx (by omega)

theorem run32 {f : AV → AV → Bool} {n : Nat} {xs ys : List AV} {ox oy : Am.Own} {h : Tr HObj} {nx ro : Nat} (hx : xs.length ≤ maxN) (h1 : ∀ x ∈ xs, IsProc n x) (h2 : ∀ y ∈ ys, IsProc n y)
    (hf : ∀ x y, IsProc n x → IsProc n y → rw 33 [x, y] ⟨h, nx, ro⟩ = some (.bool (f x y), ⟨h, nx, ro⟩)) :
    rw 32 [.slice 2 xs ox, .slice 2 ys oy, .func 33 []] ⟨h, nx, ro⟩ = some (.bool (all2 f xs ys), ⟨h, nx, ro⟩) := by
  apply runW_K tab32 rfl
  rw [c32_tree]
  rw [len_eq, len_eq]
  by_cases hl : xs.length = ys.length
  · have e1 : ((xs.length : Int) != (ys.length : Int)) = false := by simp [hl]
    have hk := loop32 (b := false) (ox := ox) (oy := oy) (df := []) hx hl h1 h2 hf xs.length 0 nx (by omega)
    have hk' : lpW tab nats _ _ _ _ = _ := hk
    simp only [e1, k_bnd, k_bt, k_bf, k_nt, k_dB, k_dI, k_dS, k_dL, k_dP, k_dG, k_dT, k_dX, k_dC, k_dN, k_ex, k_rt, k_df, k_hb, f_b, f_i, f_s, f_a2, Int.natCast_zero] at hk' ⊢
    rw [hk']
    simp only [List.drop_zero]
    cases all2 f xs ys with
    | true => rfl
    | false => rfl
  · have e1 : ((xs.length : Int) != (ys.length : Int)) = true := by simp; omega
    rw [all2_ne hl]
    simp only [e1, k_bnd, k_bt, k_bf, k_nt, k_dB, k_dI, k_dS, k_dL, k_dP, k_dG, k_dT, k_dX, k_dC, k_dN, k_ex, k_rt, k_df, k_hb, f_b, f_i, f_s, f_a2]

theorem run34 {f : AV → AV → Bool} {n : Nat} {xs ys : List AV} {ox oy : Am.Own} {h : Tr HObj} {nx ro : Nat} (hx : xs.length ≤ maxN) (h1 : ∀ x ∈ xs, IsStm n x) (h2 : ∀ y ∈ ys, IsStm n y)
    (hf : ∀ x y, IsStm n x → IsStm n y → rw 66 [x, y] ⟨h, nx, ro⟩ = some (.bool (f x y), ⟨h, nx, ro⟩)) :
    rw 34 [.slice 5 xs ox, .slice 5 ys oy] ⟨h, nx, ro⟩ = some (.bool (all2 f xs ys), ⟨h, nx, ro⟩) := by
  apply runW_K tab34 rfl
  rw [c34_tree]
  have hk : runW tab nats 65 _ _ = _ := run65 (ox := ox) (oy := oy) hx h1 h2 hf
  simp only [hk, k_bnd, k_bt, k_bf, k_nt, k_dB, k_dI, k_dS, k_dL, k_dP, k_dG, k_dT, k_dX, k_dC, k_dN, k_ex, k_rt, k_df, k_hb, f_b, f_i, f_s, f_a2]

theorem run66 : ∀ (n : Nat) {x y : AV} {h : Tr HObj} {nx ro : Nat}, IsStm n x → IsStm n y → rw 66 [x, y] ⟨h, nx, ro⟩ = some (.bool (eqS n x y), ⟨h, nx, ro⟩) := by
  intro n
  induction n with
  | zero => intro x y h nx ro h1; exact h1.elim
  | succ n ih =>
    intro x y h nx ro h1 h2
    obtain ⟨a1, a2, a3, a4, a5, a6, rfl, a7, a8⟩ := h1
    obtain ⟨b1, b2, b3, b4, b5, b6, rfl, b7, b8⟩ := h2
    have hb : ∀ u v, IsB (IsStm n) u → IsB (IsStm n) v → rw 34 [u, v] ⟨h, nx, ro⟩ = some (.bool (eqB (eqS n) u v), ⟨h, nx, ro⟩) := by
      intro u v hu hv
      obtain ⟨o, l, rfl, hl, hs⟩ := hu
      obtain ⟨p, m, rfl, _, ht⟩ := hv
      exact run34 hl hs ht fun x y hx hy => ih hx hy
    have hk : runW tab nats 111 _ _ = _ := run111 (ox := a5) (oy := b5) (h := h) (nx := nx) (ro := ro) a7 a8 b8 hb
    apply runW_K tab66 rfl
    rw [c66_tree]
    simp only [eqS]
    cases (a1 == b1) with
    | false => simp only [k_bnd, k_bt, k_bf, k_nt, k_dB, k_dI, k_dS, k_dL, k_dP, k_dG, k_dT, k_dX, k_dC, k_dN, k_ex, k_rt, k_df, k_hb, f_b, f_i, f_s, f_a2, Bool.false_and]
    | true =>
      cases (a2.data.toList == b2.data.toList) with
      | false => simp only [k_bnd, k_bt, k_bf, k_nt, k_dB, k_dI, k_dS, k_dL, k_dP, k_dG, k_dT, k_dX, k_dC, k_dN, k_ex, k_rt, k_df, k_hb, f_b, f_i, f_s, f_a2, Bool.false_and, Bool.true_and]
      | true =>
        cases (a3.data.toList == b3.data.toList) with
        | false => simp only [k_bnd, k_bt, k_bf, k_nt, k_dB, k_dI, k_dS, k_dL, k_dP, k_dG, k_dT, k_dX, k_dC, k_dN, k_ex, k_rt, k_df, k_hb, f_b, f_i, f_s, f_a2, Bool.false_and, Bool.true_and]
        | true =>
          cases (a4 == b4) with
          | false => simp only [k_bnd, k_bt, k_bf, k_nt, k_dB, k_dI, k_dS, k_dL, k_dP, k_dG, k_dT, k_dX, k_dC, k_dN, k_ex, k_rt, k_df, k_hb, f_b, f_i, f_s, f_a2, Bool.false_and, Bool.true_and]
          | true => simp only [k_bnd, k_bt, k_bf, k_nt, k_dB, k_dI, k_dS, k_dL, k_dP, k_dG, k_dT, k_dX, k_dC, k_dN, k_ex, k_rt, k_df, k_hb, f_b, f_i, f_s, f_a2, Bool.true_and, hk]

theorem run33 {n : Nat} {x y : AV} {h : Tr HObj} {nx ro : Nat} (h1 : IsProc n x) (h2 : IsProc n y) : rw 33 [x, y] ⟨h, nx, ro⟩ = some (.bool (eqProc n x y), ⟨h, nx, ro⟩) := by
  obtain ⟨a2, a5, a6, rfl, a7, a8⟩ := h1
  obtain ⟨b2, b5, b6, rfl, b7, b8⟩ := h2
  have hk : runW tab nats 34 _ _ = _ := run34 (ox := a5) (oy := b5) (h := .nil) (nx := nx) (ro := nx) a7 a8 b8 fun x y hx hy => run66 n hx hy
  apply runW_K tab33 rfl
  rw [c33_tree]
  simp only [eqProc]
  cases (a2.data.toList == b2.data.toList) with
  | false => simp only [k_bnd, k_bt, k_bf, k_nt, k_dB, k_dI, k_dS, k_dL, k_dP, k_dG, k_dT, k_dX, k_dC, k_dN, k_ex, k_rt, k_df, k_hb, f_b, f_i, f_s, f_a2, Bool.false_and]
  | true => simp only [k_bnd, k_bt, k_bf, k_nt, k_dB, k_dI, k_dS, k_dL, k_dP, k_dG, k_dT, k_dX, k_dC, k_dN, k_ex, k_rt, k_df, k_hb, f_b, f_i, f_s, f_a2, Bool.true_and, hk]

theorem loop31 {xs ys : List AV} {ox oy : Am.Own} {h : Tr HObj} {nx ro : Nat} {df : List Df} {b : Bool} (hx : xs.length ≤ maxN) (hl : xs.length = ys.length) (h1 : ∀ x ∈ xs, IsStr x) (h2 : ∀ y ∈ ys, IsStr y) : ∀ (k i rb : Nat), i + k = xs.length →
    lw (some [0, 1, 4, 12, 13]) (some [4]) c31_l0 ⟨(puts .nil [(0, (.slice 1 xs ox)), (1, (.slice 1 ys oy)), (4, (.bool b)), (12, (.int .i64 xs.length)), (13, (.int .i64 i))]), h, nx, rb, ro, df⟩ =
      some (if all2 eqStr (xs.drop i) (ys.drop i) then (.exit 0, ⟨puts .nil [(4, .bool b)], h, nx, nx, ro, df⟩) else (.ret, ⟨puts .nil [(4, .bool false)], h, nx, nx, ro, df⟩)) := by
  intro k
  induction k with
  | zero =>
    intro i rb hi
    have hi : i = xs.length := by omega
    subst hi
    apply lpW_K
    rw [c31_l0_round]
    have e1 : decide ((xs.length : Int) < (xs.length : Int)) = false := by simp
    rw [all2_end hl]
    simp only [e1, k_bnd, k_bt, k_bf, k_nt, k_dB, k_dI, k_dS, k_dL, k_dP, k_dG, k_dT, k_dX, k_dC, k_dN, k_ex, k_rt, k_df, k_hb, f_b, f_i, f_s, f_a2, if_true]
  | succ k ih =>
    intro i rb hi
    have hix : i < xs.length := by omega
    have hiy : i < ys.length := by omega
    apply lpW_K
    rw [c31_l0_round]
    have e1 : decide ((i : Int) < (xs.length : Int)) = true := by simp; omega
    have e2 : decide ((0 : Int) ≤ (i : Int)) = true := by simp
    have e3 : (i : Int).toNat = i := rfl
    obtain ⟨s, hs⟩ := h1 _ (List.getElem_mem hix)
    obtain ⟨t, ht⟩ := h2 _ (List.getElem_mem hiy)
    rw [all2_step hix hiy]
    have n1 : nth xs i = some xs[i] := nth_some hix
    have n2 : nth ys i = some ys[i] := nth_some hiy
    rw [hs] at n1
    rw [ht] at n2
    rw [hs, ht]
    have z5 : Nat.beq 1 1 = true := rfl
    simp only [e1, e2, e3, n1, n2, z5, k_bnd, k_bt, k_bf, k_nt, k_dB, k_dI, k_dS, k_dL, k_dP, k_dG, k_dT, k_dX, k_dC, k_dN, k_ex, k_rt, k_df, k_hb, f_b, f_i, f_s, f_a2, eqStr]
    rcases Bool.eq_false_or_eq_true (s.data.toList == t.data.toList) with hq | hq
    · simp only [hq, Bool.not_true, Bool.true_and, k_bnd, k_bt, k_bf, k_nt, k_dB, k_dI, k_dS, k_dL, k_dP, k_dG, k_dT, k_dX, k_dC, k_dN, k_ex, k_rt, k_df, k_hb, f_b, f_i, f_s, f_a2]
      rw [wrap_up (by omega)]
      exact ih (i + 1) nx (by omega)
    · simp only [hq, Bool.not_false, Bool.false_and, k_bnd, k_bt, k_bf, k_nt, k_dB, k_dI, k_dS, k_dL, k_dP, k_dG, k_dT, k_dX, k_dC, k_dN, k_ex, k_rt, k_df, k_hb, f_b, f_i, f_s, f_a2, Bool.false_eq_true, if_false]
theorem run31 {xs ys : List AV} {ox oy : Am.Own} {h : Tr HObj} {nx ro : Nat} (hx : xs.length ≤ maxN) (h1 : ∀ x ∈ xs, IsStr x) (h2 : ∀ y ∈ ys, IsStr y) :
    rw 31 [.slice 1 xs ox, .slice 1 ys oy] ⟨h, nx, ro⟩ = some (.bool (all2 eqStr xs ys), ⟨h, nx, ro⟩) := by
  apply runW_K tab31 rfl
  rw [c31_tree]
  rw [len_eq, len_eq]
  by_cases hl : xs.length = ys.length
  · have e1 : ((xs.length : Int) != (ys.length : Int)) = false := by simp [hl]
    have hk := loop31 (b := false) (ox := ox) (oy := oy) (h := h) (nx := nx) (ro := ro) (df := []) hx hl h1 h2 xs.length 0 nx (by omega)
    have hk' : lpW tab nats _ _ _ _ = _ := hk
    simp only [e1, k_bnd, k_bt, k_bf, k_nt, k_dB, k_dI, k_dS, k_dL, k_dP, k_dG, k_dT, k_dX, k_dC, k_dN, k_ex, k_rt, k_df, k_hb, f_b, f_i, f_s, f_a2, Int.natCast_zero] at hk' ⊢
    rw [hk']
    simp only [List.drop_zero]
    cases all2 eqStr xs ys with
    | true => rfl
    | false => rfl
  · have e1 : ((xs.length : Int) != (ys.length : Int)) = true := by simp; omega
    rw [all2_ne hl]
    simp only [e1, k_bnd, k_bt, k_bf, k_nt, k_dB, k_dI, k_dS, k_dL, k_dP, k_dG, k_dT, k_dX, k_dC, k_dN, k_ex, k_rt, k_df, k_hb, f_b, f_i, f_s, f_a2]

def eqProg (n : Nat) : AV → AV → Bool
  | .agg [.slice _ vs _, .slice _ ps _], .agg [.slice _ us _, .slice _ qs _] => all2 eqStr vs us && all2 (eqProc n) ps qs
  | _, _ => false
/-- syntax.Same. -/
theorem run10 {n : Nat} {x y : AV} {h : Tr HObj} {nx ro : Nat} (h1 : IsProg n x) (h2 : IsProg n y) : rw 10 [x, y] ⟨h, nx, ro⟩ = some (.bool (eqProg n x y), ⟨h, nx, ro⟩) := by
  obtain ⟨vs, o, ps, q, rfl, v1, p1, v2, p2⟩ := h1
  obtain ⟨us, o', qs, q', rfl, u1, q1, u2, q2⟩ := h2
  have k1 : runW tab nats 31 _ _ = _ := run31 (ox := o) (oy := o') (h := .nil) (nx := nx) (ro := nx) v1 v2 u2
  have k2 : runW tab nats 32 _ _ = _ := run32 (ox := q) (oy := q') (h := h) (nx := nx) (ro := ro) p1 p2 q2 fun x y hx hy => run33 hx hy
  apply runW_K tab10 rfl
  rw [c10_tree]
  simp only [k1, k_bnd, k_bt, k_bf, k_nt, k_dB, k_dI, k_dS, k_dL, k_dP, k_dG, k_dT, k_dX, k_dC, k_dN, k_ex, k_rt, k_df, k_hb, f_b, f_i, f_s, f_a2, eqProg]
  cases all2 eqStr vs us with
  | false => simp only [k_bnd, k_bt, k_bf, k_nt, k_dB, k_dI, k_dS, k_dL, k_dP, k_dG, k_dT, k_dX, k_dC, k_dN, k_ex, k_rt, k_df, k_hb, f_b, f_i, f_s, f_a2, Bool.false_and]
  | true => simp only [k_bnd, k_bt, k_bf, k_nt, k_dB, k_dI, k_dS, k_dL, k_dP, k_dG, k_dT, k_dX, k_dC, k_dN, k_ex, k_rt, k_df, k_hb, f_b, f_i, f_s, f_a2, Bool.true_and, k2]
end Go.Proofs.YtohncbgkiojlnaaGreatDoor
