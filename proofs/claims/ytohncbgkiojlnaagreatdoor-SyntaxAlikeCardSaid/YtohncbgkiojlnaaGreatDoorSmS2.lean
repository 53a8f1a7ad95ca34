/- Two programs held against each other by the reference; the law SyntaxAlike's own run. -/
import Derived.Test.YtohncbgkiojlnaaGreatDoorMsS2
set_option maxRecDepth 100000
set_option linter.unusedVariables false
set_option linter.unusedSimpArgs false
namespace Go.Proofs.YtohncbgkiojlnaaGreatDoor
open Go.Proofs.YtohncbgkiojlnaaGreatDoor.Am

theorem loop35k {P : AV → Prop} {g : AV → AV → Bool} {X Y : AV} {bxs bys : List AV} {ks ms : List AV} {ok om : Am.Own} {n8 n15 n11 n18 n7 : Int} {s9 s10 s16 s17 : ByteArray} {z0 z3 : Nat} {x1 x4 : List AV} {o2 o5 : Am.Own} {h : Tr HObj} {nx ro : Nat} {df : List Df} {b : Bool}
    (hk : ks.length ≤ maxN) (hl : ks.length = ms.length) (h1 : ∀ x ∈ ks, IsB P x) (h2 : ∀ y ∈ ms, IsB P y)
    (hf : ∀ x y, IsB P x → IsB P y → rw 35 [x, y] ⟨.nil, nx, nx⟩ = some (.bool (g x y), ⟨.nil, nx, nx⟩)) : ∀ (k j rb : Nat), j + k = ks.length →
    lw (some [0, 1, 4, 5, 6, 7, 8]) (some [0, 1, 4, 5]) c35_l1 ⟨(puts .nil [(0, (.slice z0 x1 o2)), (1, (.slice z3 x4 o5)), (4, (.bool b)), (5, (.int .i64 n7)), (6, (.box 0 [(.int .i64 n8), (.str s9), (.str s10), (.int .i64 n11), (.slice 1 ks ok)])), (7, (.box 0 [(.int .i64 n15), (.str s16), (.str s17), (.int .i64 n18), (.slice 1 ms om)])), (8, (.int .i64 j))]), h, nx, rb, ro, df⟩ =
      some (if all2 g (ks.drop j) (ms.drop j) then (.exit 2, ⟨(puts .nil [(0, (.slice z0 x1 o2)), (1, (.slice z3 x4 o5)), (4, (.bool b)), (5, (.int .i64 n7))]), h, nx, nx, ro, df⟩) else (.ret, ⟨(puts .nil [(0, (.slice z0 x1 o2)), (1, (.slice z3 x4 o5)), (4, (.bool false)), (5, (.int .i64 n7))]), h, nx, nx, ro, df⟩)) := by
  intro k
  induction k with
  | zero =>
    intro j rb hj
    have hj : j = ks.length := by omega
    subst hj
    apply lpW_K
    rw [c35_l1_round, len_eq]
    have e1 : decide ((ks.length : Int) < (ks.length : Int)) = false := by simp
    rw [all2_end hl]
    simp only [e1, k_bnd, k_bt, k_bf, k_nt, k_dB, k_dI, k_dS, k_dL, k_dP, k_dG, k_dT, k_dX, k_dC, k_dN, k_ex, k_rt, k_df, k_hb, f_b, f_i, f_s, f_a2, if_true]
  | succ k ih =>
    intro j rb hj
    have hjx : j < ks.length := by omega
    have hjy : j < ms.length := by omega
    apply lpW_K
    rw [c35_l1_round, len_eq]
    have e1 : decide ((j : Int) < (ks.length : Int)) = true := by simp; omega
    have e2 : decide ((0 : Int) ≤ (j : Int)) = true := by simp
    have e3 : (j : Int).toNat = j := rfl
    have sx := h1 _ (List.getElem_mem hjx)
    have sy := h2 _ (List.getElem_mem hjy)
    have hc := hf _ _ sx sy
    rw [all2_step hjx hjy]
    obtain ⟨a5, a6, ha, _, _⟩ := sx
    obtain ⟨b5, b6, hb, _, _⟩ := sy
    have n1 : nth ks j = some ks[j] := nth_some hjx
    have n2 : nth ms j = some ms[j] := nth_some hjy
    rw [ha] at n1
    rw [hb] at n2
    rw [ha, hb] at hc
    rw [ha, hb]
    have hc' : runW tab nats 35 _ _ = _ := hc
    have z5 : Nat.beq 1 1 = true := rfl
    simp only [e1, e2, e3, n1, n2, z5, k_bnd, k_bt, k_bf, k_nt, k_dB, k_dI, k_dS, k_dL, k_dP, k_dG, k_dT, k_dX, k_dC, k_dN, k_ex, k_rt, k_df, k_hb, f_b, f_i, f_s, f_a2, hc']
    rcases Bool.eq_false_or_eq_true (g (.slice 5 a6 a5) (.slice 5 b6 b5)) with hq | hq
    · simp only [hq, Bool.not_true, Bool.true_and, k_bnd, k_bt, k_bf, k_nt, k_dB, k_dI, k_dS, k_dL, k_dP, k_dG, k_dT, k_dX, k_dC, k_dN, k_ex, k_rt, k_df, k_hb, f_b, f_i, f_s, f_a2]
      rw [wrap_up (by omega)]
      exact ih (j + 1) nx (by omega)
    · simp only [hq, Bool.not_false, Bool.false_and, k_bnd, k_bt, k_bf, k_nt, k_dB, k_dI, k_dS, k_dL, k_dP, k_dG, k_dT, k_dX, k_dC, k_dN, k_ex, k_rt, k_df, k_hb, f_b, f_i, f_s, f_a2, Bool.false_eq_true, if_false]

theorem bne_not (a b : Int) : (a != b) = !(a == b) := rfl

theorem loop35 {n : Nat} {xs ys : List AV} {ox oy : Am.Own} {h : Tr HObj} {nx ro : Nat} {df : List Df} {b : Bool} (hx : xs.length ≤ maxN) (hl : xs.length = ys.length) (h1 : ∀ x ∈ xs, IsStm (n + 1) x) (h2 : ∀ y ∈ ys, IsStm (n + 1) y)
    (hf : ∀ x y, IsB (IsStm n) x → IsB (IsStm n) y → rw 35 [x, y] ⟨.nil, nx, nx⟩ = some (.bool (eqB (eqS n) x y), ⟨.nil, nx, nx⟩)) : ∀ (k i rb : Nat), i + k = xs.length →
    lw (some [0, 1, 4, 5]) (some [4]) c35_l0 ⟨(puts .nil [(0, (.slice 5 xs ox)), (1, (.slice 5 ys oy)), (4, (.bool b)), (5, (.int .i64 i))]), h, nx, rb, ro, df⟩ =
      some (if all2 (eqS (n + 1)) (xs.drop i) (ys.drop i) then (.exit 0, ⟨puts .nil [(4, .bool b)], h, nx, nx, ro, df⟩) else (.ret, ⟨puts .nil [(4, .bool false)], h, nx, nx, ro, df⟩)) := by
  intro k
  induction k with
  | zero =>
    intro i rb hi
    have hi : i = xs.length := by omega
    subst hi
    apply lpW_K
    rw [c35_l0_round, len_eq]
    have e1 : decide ((xs.length : Int) < (xs.length : Int)) = false := by simp
    rw [all2_end hl]
    simp only [e1, k_bnd, k_bt, k_bf, k_nt, k_dB, k_dI, k_dS, k_dL, k_dP, k_dG, k_dT, k_dX, k_dC, k_dN, k_ex, k_rt, k_df, k_hb, f_b, f_i, f_s, f_a2, if_true]
  | succ k ih =>
    intro i rb hi
    have hix : i < xs.length := by omega
    have hiy : i < ys.length := by omega
    apply lpW_K
    rw [c35_l0_round, len_eq]
    have e1 : decide ((i : Int) < (xs.length : Int)) = true := by simp; omega
    have e2 : decide ((0 : Int) ≤ (i : Int)) = true := by simp
    have e3 : (i : Int).toNat = i := rfl
    obtain ⟨a1, a2, a3, a4, a5, a6, ha, a7, a8⟩ := h1 _ (List.getElem_mem hix)
    obtain ⟨b1, b2, b3, b4, b5, b6, hb, b7, b8⟩ := h2 _ (List.getElem_mem hiy)
    rw [all2_step hix hiy]
    have n1 : nth xs i = some xs[i] := nth_some hix
    have n2 : nth ys i = some ys[i] := nth_some hiy
    rw [ha] at n1
    rw [hb] at n2
    rw [ha, hb]
    have z5 : Nat.beq 5 5 = true := rfl
    simp only [e1, e2, e3, n1, n2, z5, k_bnd, k_bt, k_bf, k_nt, k_dB, k_dI, k_dS, k_dL, k_dP, k_dG, k_dT, k_dX, k_dC, k_dN, k_ex, k_rt, k_df, k_hb, f_b, f_i, f_s, f_a2, eqS, bne_not, len_eq]
    rcases Bool.eq_false_or_eq_true (a1 == b1) with q1 | q1
    case inr => simp only [q1, Bool.not_false, Bool.false_and, k_bnd, k_bt, k_bf, k_nt, k_dB, k_dI, k_dS, k_dL, k_dP, k_dG, k_dT, k_dX, k_dC, k_dN, k_ex, k_rt, k_df, k_hb, f_b, f_i, f_s, f_a2, Bool.false_eq_true, if_false]
    rcases Bool.eq_false_or_eq_true (a2.data.toList == b2.data.toList) with q2 | q2
    case inr => simp only [q1, q2, Bool.not_true, Bool.not_false, Bool.true_and, Bool.false_and, k_bnd, k_bt, k_bf, k_nt, k_dB, k_dI, k_dS, k_dL, k_dP, k_dG, k_dT, k_dX, k_dC, k_dN, k_ex, k_rt, k_df, k_hb, f_b, f_i, f_s, f_a2, Bool.false_eq_true, if_false]
    rcases Bool.eq_false_or_eq_true (a3.data.toList == b3.data.toList) with q3 | q3
    case inr => simp only [q1, q2, q3, Bool.not_true, Bool.not_false, Bool.true_and, Bool.false_and, k_bnd, k_bt, k_bf, k_nt, k_dB, k_dI, k_dS, k_dL, k_dP, k_dG, k_dT, k_dX, k_dC, k_dN, k_ex, k_rt, k_df, k_hb, f_b, f_i, f_s, f_a2, Bool.false_eq_true, if_false]
    rcases Bool.eq_false_or_eq_true (a4 == b4) with q4 | q4
    case inr => simp only [q1, q2, q3, q4, Bool.not_true, Bool.not_false, Bool.true_and, Bool.false_and, k_bnd, k_bt, k_bf, k_nt, k_dB, k_dI, k_dS, k_dL, k_dP, k_dG, k_dT, k_dX, k_dC, k_dN, k_ex, k_rt, k_df, k_hb, f_b, f_i, f_s, f_a2, Bool.false_eq_true, if_false]
    by_cases hln : a6.length = b6.length
    case neg =>
      have q5 : ((a6.length : Int) == (b6.length : Int)) = false := by simp; omega
      have q6 : all2 (eqB (eqS n)) a6 b6 = false := all2_ne hln
      simp only [q1, q2, q3, q4, q5, q6, Bool.not_true, Bool.not_false, Bool.true_and, Bool.false_and, k_bnd, k_bt, k_bf, k_nt, k_dB, k_dI, k_dS, k_dL, k_dP, k_dG, k_dT, k_dX, k_dC, k_dN, k_ex, k_rt, k_df, k_hb, f_b, f_i, f_s, f_a2, Bool.false_eq_true, if_false]
    have q5 : ((a6.length : Int) == (b6.length : Int)) = true := by simp [hln]
    have hk := loop35k (X := .undef) (Y := .undef) (bxs := []) (bys := []) (g := eqB (eqS n)) (ok := a5) (om := b5) (n8 := a1) (n15 := b1) (n11 := a4) (n18 := b4) (n7 := (i : Int)) (s9 := a2) (s10 := a3) (s16 := b2) (s17 := b3) (z0 := 5) (z3 := 5) (x1 := xs) (x4 := ys) (o2 := ox) (o5 := oy) (h := h) (nx := nx) (ro := ro) (df := df) (b := b)
      a7 hln a8 b8 hf a6.length 0 nx (by omega)
    have hk' : lpW tab nats _ _ _ _ = _ := hk
    simp only [Int.natCast_zero, List.drop_zero] at hk'
    rcases Bool.eq_false_or_eq_true (all2 (eqB (eqS n)) a6 b6) with q6 | q6
    · simp only [q6, if_true] at hk'
      simp only [q1, q2, q3, q4, q5, q6, Bool.not_true, Bool.not_false, Bool.true_and, Bool.false_and, k_bnd, k_bt, k_bf, k_nt, k_dB, k_dI, k_dS, k_dL, k_dP, k_dG, k_dT, k_dX, k_dC, k_dN, k_ex, k_rt, k_df, k_hb, f_b, f_i, f_s, f_a2, hk']
      rw [wrap_up (by omega)]
      exact ih (i + 1) nx (by omega)
    · simp only [q6, Bool.false_eq_true, if_false] at hk'
      simp only [q1, q2, q3, q4, q5, q6, Bool.not_true, Bool.not_false, Bool.true_and, Bool.false_and, k_bnd, k_bt, k_bf, k_nt, k_dB, k_dI, k_dS, k_dL, k_dP, k_dG, k_dT, k_dX, k_dC, k_dN, k_ex, k_rt, k_df, k_hb, f_b, f_i, f_s, f_a2, hk', Bool.false_eq_true, if_false]
      rfl

theorem run35 : ∀ (n : Nat) {xs ys : List AV} {ox oy : Am.Own} {h : Tr HObj} {nx ro : Nat}, xs.length ≤ maxN → (∀ x ∈ xs, IsStm n x) → (∀ y ∈ ys, IsStm n y) →
    rw 35 [.slice 5 xs ox, .slice 5 ys oy] ⟨h, nx, ro⟩ = some (.bool (all2 (eqS n) xs ys), ⟨h, nx, ro⟩) := by
  intro n
  induction n with
  | zero =>
    intro xs ys ox oy h nx ro hx h1 h2
    have e1 : xs = [] := by cases xs with | nil => rfl | cons x xs => exact (h1 x (by simp)).elim
    have e2 : ys = [] := by cases ys with | nil => rfl | cons y ys => exact (h2 y (by simp)).elim
    subst e1; subst e2
    apply runW_K tab35 rfl
    rw [c35_tree]
    have hk : lpW tab nats (some [0, 1, 4, 5]) (some [4]) c35_l0 ⟨(puts .nil [(0, (.slice 5 [] ox)), (1, (.slice 5 [] oy)), (4, (.bool false)), (5, (.int .i64 0))]), h, nx, nx, ro, []⟩ = some (.exit 0, ⟨puts .nil [(4, .bool false)], h, nx, nx, ro, []⟩) := by
      apply lpW_K
      rw [c35_l0_round]
      rfl
    have e1 : (((Am.len ([] : List AV) : Nat) : Int) != ((Am.len ([] : List AV) : Nat) : Int)) = false := rfl
    simp only [e1, k_bnd, k_bt, k_bf, k_nt, k_dB, k_dI, k_dS, k_dL, k_dP, k_dG, k_dT, k_dX, k_dC, k_dN, k_ex, k_rt, k_df, k_hb, f_b, f_i, f_s, f_a2, hk]
    rfl
  | succ n ih =>
    intro xs ys ox oy h nx ro hx h1 h2
    apply runW_K tab35 rfl
    rw [c35_tree, len_eq, len_eq]
    by_cases hl : xs.length = ys.length
    · have e1 : ((xs.length : Int) != (ys.length : Int)) = false := by simp [hl]
      have hk := loop35 (b := false) (ox := ox) (oy := oy) (h := h) (nx := nx) (ro := ro) (df := []) hx hl h1 h2 (fun x y hx hy => by
        obtain ⟨o, l, rfl, q1, q2⟩ := hx
        obtain ⟨o', l', rfl, q3, q4⟩ := hy
        exact ih q1 q2 q4) xs.length 0 nx (by omega)
      have hk' : lpW tab nats _ _ _ _ = _ := hk
      simp only [e1, k_bnd, k_bt, k_bf, k_nt, k_dB, k_dI, k_dS, k_dL, k_dP, k_dG, k_dT, k_dX, k_dC, k_dN, k_ex, k_rt, k_df, k_hb, f_b, f_i, f_s, f_a2, Int.natCast_zero] at hk' ⊢
      rw [hk']
      simp only [List.drop_zero]
      cases all2 (eqS (n + 1)) xs ys with
      | true => rfl
      | false => rfl
    · have e1 : ((xs.length : Int) != (ys.length : Int)) = true := by simp; omega
      rw [all2_ne hl]
      simp only [e1, k_bnd, k_bt, k_bf, k_nt, k_dB, k_dI, k_dS, k_dL, k_dP, k_dG, k_dT, k_dX, k_dC, k_dN, k_ex, k_rt, k_df, k_hb, f_b, f_i, f_s, f_a2]

theorem loop11a {vs us ps qs : List AV} {ov ou op oq : Am.Own} {h : Tr HObj} {nx ro : Nat} {df : List Df} {b : Bool} (hx : vs.length ≤ maxN) (hl : vs.length = us.length) (h1 : ∀ x ∈ vs, IsStr x) (h2 : ∀ y ∈ us, IsStr y) : ∀ (k i rb : Nat), i + k = vs.length →
    lw (some [2, 3, 4, 5]) (some [2, 3, 4]) c11_l0 ⟨(puts .nil [(2, (.box 0 [(.slice 1 vs ov), (.slice 2 ps op)])), (3, (.box 0 [(.slice 1 us ou), (.slice 2 qs oq)])), (4, (.bool b)), (5, (.int .i64 i))]), h, nx, rb, ro, df⟩ =
      some (if all2 eqStr (vs.drop i) (us.drop i) then (.exit 0, ⟨(puts .nil [(2, (.box 0 [(.slice 1 vs ov), (.slice 2 ps op)])), (3, (.box 0 [(.slice 1 us ou), (.slice 2 qs oq)])), (4, (.bool b))]), h, nx, nx, ro, df⟩)
        else (.ret, ⟨(puts .nil [(2, (.box 0 [(.slice 1 vs ov), (.slice 2 ps op)])), (3, (.box 0 [(.slice 1 us ou), (.slice 2 qs oq)])), (4, (.bool false))]), h, nx, nx, ro, df⟩)) := by
  intro k
  induction k with
  | zero =>
    intro i rb hi
    have hi : i = vs.length := by omega
    subst hi
    apply lpW_K
    rw [c11_l0_round, len_eq]
    have e1 : decide ((vs.length : Int) < (vs.length : Int)) = false := by simp
    rw [all2_end hl]
    simp only [e1, k_bnd, k_bt, k_bf, k_nt, k_dB, k_dI, k_dS, k_dL, k_dP, k_dG, k_dT, k_dX, k_dC, k_dN, k_ex, k_rt, k_df, k_hb, f_b, f_i, f_s, f_a2, if_true]
  | succ k ih =>
    intro i rb hi
    have hix : i < vs.length := by omega
    have hiy : i < us.length := by omega
    apply lpW_K
    rw [c11_l0_round, len_eq]
    have e1 : decide ((i : Int) < (vs.length : Int)) = true := by simp; omega
    have e2 : decide ((0 : Int) ≤ (i : Int)) = true := by simp
    have e3 : (i : Int).toNat = i := rfl
    obtain ⟨s, hs⟩ := h1 _ (List.getElem_mem hix)
    obtain ⟨t, ht⟩ := h2 _ (List.getElem_mem hiy)
    rw [all2_step hix hiy]
    have n1 : nth vs i = some vs[i] := nth_some hix
    have n2 : nth us i = some us[i] := nth_some hiy
    rw [hs] at n1
    rw [ht] at n2
    rw [hs, ht]
    have z5 : Nat.beq 1 1 = true := rfl
    simp only [e1, e2, e3, n1, n2, z5, k_bnd, k_bt, k_bf, k_nt, k_dB, k_dI, k_dS, k_dL, k_dP, k_dG, k_dT, k_dX, k_dC, k_dN, k_ex, k_rt, k_df, k_hb, f_b, f_i, f_s, f_a2, eqStr]
    rcases Bool.eq_false_or_eq_true (s.data.toList == t.data.toList) with hq | hq
    · simp only [hq, Bool.not_true, Bool.true_and, k_bnd, k_bt, k_bf, k_nt, k_dB, k_dI, k_dS, k_dL, k_dP, k_dG, k_dT, k_dX, k_dC, k_dN, k_ex, k_rt, k_df, k_hb, f_b, f_i, f_s, f_a2]
      rw [wrap_up (by omega)]
      exact ih (i + 1) nx (by omega)
    · simp only [hq, Bool.not_false, Bool.false_and, k_bnd, k_bt, k_bf, k_nt, k_dB, k_dI, k_dS, k_dL, k_dP, k_dG, k_dT, k_dX, k_dC, k_dN, k_ex, k_rt, k_df, k_hb, f_b, f_i, f_s, f_a2, Bool.false_eq_true, if_false]

theorem loop11b {n : Nat} {vs us ps qs : List AV} {ov ou op oq : Am.Own} {h : Tr HObj} {nx ro : Nat} {df : List Df} {b : Bool} (hx : ps.length ≤ maxN) (hl : ps.length = qs.length) (h1 : ∀ x ∈ ps, IsProc n x) (h2 : ∀ y ∈ qs, IsProc n y) : ∀ (k i rb : Nat), i + k = ps.length →
    lw (some [2, 3, 4, 6]) (some [4]) c11_l1 ⟨(puts .nil [(2, (.box 0 [(.slice 1 vs ov), (.slice 2 ps op)])), (3, (.box 0 [(.slice 1 us ou), (.slice 2 qs oq)])), (4, (.bool b)), (6, (.int .i64 i))]), h, nx, rb, ro, df⟩ =
      some (if all2 (eqProc n) (ps.drop i) (qs.drop i) then (.exit 2, ⟨(puts .nil [(4, (.bool b))]), h, nx, nx, ro, df⟩) else (.ret, ⟨(puts .nil [(4, (.bool false))]), h, nx, nx, ro, df⟩)) := by
  intro k
  induction k with
  | zero =>
    intro i rb hi
    have hi : i = ps.length := by omega
    subst hi
    apply lpW_K
    rw [c11_l1_round, len_eq]
    have e1 : decide ((ps.length : Int) < (ps.length : Int)) = false := by simp
    rw [all2_end hl]
    simp only [e1, k_bnd, k_bt, k_bf, k_nt, k_dB, k_dI, k_dS, k_dL, k_dP, k_dG, k_dT, k_dX, k_dC, k_dN, k_ex, k_rt, k_df, k_hb, f_b, f_i, f_s, f_a2, if_true]
  | succ k ih =>
    intro i rb hi
    have hix : i < ps.length := by omega
    have hiy : i < qs.length := by omega
    apply lpW_K
    rw [c11_l1_round, len_eq]
    have e1 : decide ((i : Int) < (ps.length : Int)) = true := by simp; omega
    have e2 : decide ((0 : Int) ≤ (i : Int)) = true := by simp
    have e3 : (i : Int).toNat = i := rfl
    obtain ⟨a2, a5, a6, ha, a7, a8⟩ := h1 _ (List.getElem_mem hix)
    obtain ⟨b2, b5, b6, hb, b7, b8⟩ := h2 _ (List.getElem_mem hiy)
    rw [all2_step hix hiy]
    have n1 : nth ps i = some ps[i] := nth_some hix
    have n2 : nth qs i = some qs[i] := nth_some hiy
    rw [ha] at n1
    rw [hb] at n2
    rw [ha, hb]
    have hc : runW tab nats 35 _ _ = _ := run35 n (ox := a5) (oy := b5) (h := .nil) (nx := nx) (ro := nx) a7 a8 b8
    have z5 : Nat.beq 2 2 = true := rfl
    simp only [e1, e2, e3, n1, n2, z5, k_bnd, k_bt, k_bf, k_nt, k_dB, k_dI, k_dS, k_dL, k_dP, k_dG, k_dT, k_dX, k_dC, k_dN, k_ex, k_rt, k_df, k_hb, f_b, f_i, f_s, f_a2, eqProc, hc]
    rcases Bool.eq_false_or_eq_true (a2.data.toList == b2.data.toList) with hq | hq
    · simp only [hq, Bool.not_true, Bool.true_and, k_bnd, k_bt, k_bf, k_nt, k_dB, k_dI, k_dS, k_dL, k_dP, k_dG, k_dT, k_dX, k_dC, k_dN, k_ex, k_rt, k_df, k_hb, f_b, f_i, f_s, f_a2]
      rcases Bool.eq_false_or_eq_true (all2 (eqS n) a6 b6) with hr | hr
      · simp only [hr, Bool.not_true, Bool.true_and, k_bnd, k_bt, k_bf, k_nt, k_dB, k_dI, k_dS, k_dL, k_dP, k_dG, k_dT, k_dX, k_dC, k_dN, k_ex, k_rt, k_df, k_hb, f_b, f_i, f_s, f_a2]
        rw [wrap_up (by omega)]
        exact ih (i + 1) nx (by omega)
      · simp only [hr, Bool.not_false, Bool.false_and, k_bnd, k_bt, k_bf, k_nt, k_dB, k_dI, k_dS, k_dL, k_dP, k_dG, k_dT, k_dX, k_dC, k_dN, k_ex, k_rt, k_df, k_hb, f_b, f_i, f_s, f_a2, Bool.false_eq_true, if_false]
    · simp only [hq, Bool.not_false, Bool.false_and, k_bnd, k_bt, k_bf, k_nt, k_dB, k_dI, k_dS, k_dL, k_dP, k_dG, k_dT, k_dX, k_dC, k_dN, k_ex, k_rt, k_df, k_hb, f_b, f_i, f_s, f_a2, Bool.false_eq_true, if_false]

/-- The reference's Same. -/
theorem run11 {n : Nat} {x y : AV} {h : Tr HObj} {nx ro : Nat} (h1 : IsProg n x) (h2 : IsProg n y) : rw 11 [x, y] ⟨h, nx, ro⟩ = some (.bool (eqProg n x y), ⟨h, nx, ro⟩) := by
  obtain ⟨vs, ov, ps, op, rfl, v1, p1, v2, p2⟩ := h1
  obtain ⟨us, ou, qs, oq, rfl, u1, q1, u2, q2⟩ := h2
  apply runW_K tab11 rfl
  rw [c11_tree, len_eq, len_eq, len_eq, len_eq]
  simp only [eqProg]
  by_cases l1 : vs.length = us.length
  case neg =>
    have e1 : ((vs.length : Int) != (us.length : Int)) = true := by simp; omega
    rw [all2_ne l1]
    simp only [e1, k_bnd, k_bt, k_bf, k_nt, k_dB, k_dI, k_dS, k_dL, k_dP, k_dG, k_dT, k_dX, k_dC, k_dN, k_ex, k_rt, k_df, k_hb, f_b, f_i, f_s, f_a2, Bool.false_and]
  have e1 : ((vs.length : Int) != (us.length : Int)) = false := by simp [l1]
  by_cases l2 : ps.length = qs.length
  case neg =>
    have e2 : ((ps.length : Int) != (qs.length : Int)) = true := by simp; omega
    rw [all2_ne l2]
    simp only [e1, e2, k_bnd, k_bt, k_bf, k_nt, k_dB, k_dI, k_dS, k_dL, k_dP, k_dG, k_dT, k_dX, k_dC, k_dN, k_ex, k_rt, k_df, k_hb, f_b, f_i, f_s, f_a2, Bool.and_false]
  have e2 : ((ps.length : Int) != (qs.length : Int)) = false := by simp [l2]
  have k1 : lpW tab nats _ _ _ _ = _ := loop11a (ps := ps) (qs := qs) (ov := ov) (ou := ou) (op := op) (oq := oq) (h := h) (nx := nx) (ro := ro) (df := []) (b := false) v1 l1 v2 u2 vs.length 0 nx (by omega)
  have k2 : lpW tab nats _ _ _ _ = _ := loop11b (n := n) (vs := vs) (us := us) (ov := ov) (ou := ou) (op := op) (oq := oq) (h := h) (nx := nx) (ro := ro) (df := []) (b := false) p1 l2 p2 q2 ps.length 0 nx (by omega)
  simp only [Int.natCast_zero, List.drop_zero] at k1 k2
  simp only [e1, e2, k_bnd, k_bt, k_bf, k_nt, k_dB, k_dI, k_dS, k_dL, k_dP, k_dG, k_dT, k_dX, k_dC, k_dN, k_ex, k_rt, k_df, k_hb, f_b, f_i, f_s, f_a2]
  rcases Bool.eq_false_or_eq_true (all2 eqStr vs us) with hv | hv
  · rw [hv] at k1 ⊢
    simp only [if_true] at k1
    rw [k1]
    show bnd (lpW tab nats (some [2, 3, 4, 6]) (some [4]) c11_l1 ⟨(puts .nil [(2, (.box 0 [(.slice 1 vs ov), (.slice 2 ps op)])), (3, (.box 0 [(.slice 1 us ou), (.slice 2 qs oq)])), (4, (.bool false)), (6, (.int .i64 0))]), h, nx, nx, ro, []⟩) _ = _
    rw [k2]
    cases all2 (eqProc n) ps qs with
    | true => rfl
    | false => rfl
  · rw [hv] at k1 ⊢
    simp only [Bool.false_eq_true, if_false] at k1
    rw [k1]
    rfl

theorem eqS_refl : ∀ (n : Nat) {x : AV}, IsStm n x → eqS n x x = true := by
  intro n
  induction n with
  | zero => intro x h; exact h.elim
  | succ n ih =>
    intro x h
    obtain ⟨a1, a2, a3, a4, a5, a6, rfl, a7, a8⟩ := h
    simp only [eqS, beq_self_eq_true, Bool.true_and]
    refine all2_refl fun b hb => ?_
    obtain ⟨o, l, rfl, _, hs⟩ := a8 b hb
    exact all2_refl fun s hs' => ih (hs s hs')
theorem eqProg_refl {n : Nat} {x : AV} (h : IsProg n x) : eqProg n x x = true := by
  obtain ⟨vs, ov, ps, op, rfl, v1, p1, v2, p2⟩ := h
  simp only [eqProg]
  rw [all2_refl (fun v hv => by obtain ⟨s, rfl⟩ := v2 v hv; simp [eqStr]), all2_refl (fun p hp => by
    obtain ⟨s, o, l, rfl, _, hs⟩ := p2 p hp
    simp only [eqProc, beq_self_eq_true, Bool.true_and]
    exact all2_refl fun s hs' => eqS_refl n (hs s hs'))]
  rfl

/-- SyntaxAlike: true, whatever the two programs. -/
theorem run3 {n : Nat} {x y : AV} {h : Tr HObj} {nx ro : Nat} (hw : rw 9 [] ⟨.nil, nx, nx⟩ = some (.bool true, ⟨.nil, nx, nx⟩)) (h1 : IsProg n x) (h2 : IsProg n y) : rw 3 [x, y] ⟨h, nx, ro⟩ = some (.bool true, ⟨h, nx, ro⟩) := by
  have k1 : runW tab nats 10 _ _ = _ := run10 (h := .nil) (nx := nx) (ro := nx) h1 h2
  have k2 : runW tab nats 11 _ _ = _ := run11 (h := .nil) (nx := nx) (ro := nx) h1 h2
  have k3 : runW tab nats 10 _ _ = _ := run10 (h := .nil) (nx := nx) (ro := nx) h1 h1
  rw [eqProg_refl h1] at k3
  have hw : runW tab nats 9 _ _ = _ := hw
  generalize eqProg n x y = e at k1 k2
  obtain ⟨vs, ov, ps, op, rfl, v1, p1, v2, p2⟩ := h1
  obtain ⟨us, ou, qs, oq, rfl, u1, q1, u2, q2⟩ := h2
  have c1 : runW tab nats 8 _ _ = _ := run8 (n := n) (ov := ov) (op := op) (h := .nil) (nx := nx) (ro := nx) v1 p1 v2 p2
  have c2 : runW tab nats 8 _ _ = _ := run8 (n := n) (ov := ou) (op := oq) (h := .nil) (nx := nx) (ro := nx) u1 q1 u2 q2
  apply runW_K tab3 rfl
  rw [c3_tree]
  simp only [c1, c2, k1, k2, k3, hw, k_bnd, k_bt, k_bf, k_nt, k_dB, k_dI, k_dS, k_dL, k_dP, k_dG, k_dT, k_dX, k_dC, k_dN, k_ex, k_rt, k_df, k_hb, f_b, f_i, f_s, f_a2, beq_self_eq_true]
  cases (chkB n vs ps != 0) with
  | true => rfl
  | false =>
    cases (chkB n us qs != 0) with
    | true => rfl
    | false => rfl
end Go.Proofs.YtohncbgkiojlnaaGreatDoor
