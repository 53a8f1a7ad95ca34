/- Which trees are programs: what the reference's functions answer; two programs held against each other by the reference. -/
import Derived.Test.YtohncbgkiojlnaaGreatDoorEqS2
set_option maxRecDepth 100000
set_option linter.unusedVariables false
set_option linter.unusedSimpArgs false
namespace Go.Proofs.YtohncbgkiojlnaaGreatDoor
open Go.Proofs.YtohncbgkiojlnaaGreatDoor.Am

theorem k_brb {b x y : Bool} {r : Hp} : br b (some (AV.bool x, r)) (some (AV.bool y, r)) = some (AV.bool (bif b then x else y), r) := by cases b <;> rfl
theorem all_step {α : Type} {f : α → Bool} {xs : List α} {i : Nat} (h : i < xs.length) : (xs.drop i).all f = (f xs[i] && (xs.drop (i + 1)).all f) := by rw [List.drop_eq_getElem_cons h]; rfl
theorem all_end {α : Type} {f : α → Bool} {xs : List α} : (xs.drop xs.length).all f = true := by rw [List.drop_length]; rfl

/-! ### Names -/
def letB (n : Int) : Bool := bif (decide (n ≥ 97)) then (bif (decide (n ≤ 122)) then true else (bif (decide (n ≥ 65)) then (bif (decide (n ≤ 90)) then true else (n == 95)) else (n == 95))) else (bif (decide (n ≥ 65)) then (bif (decide (n ≤ 90)) then true else (n == 95)) else (n == 95))
def digB (n : Int) : Bool := bif (decide (n ≥ 48)) then (decide (n ≤ 57)) else false
theorem run77 {n : Int} {h : Tr HObj} {nx ro : Nat} : rw 77 [.int .u8 n] ⟨h, nx, ro⟩ = some (.bool (letB n), ⟨h, nx, ro⟩) := by
  apply runW_K tab77 rfl
  rw [c77_tree]
  simp only [k_brb]
  rfl
theorem run78 {n : Int} {h : Tr HObj} {nx ro : Nat} : rw 78 [.int .u8 n] ⟨h, nx, ro⟩ = some (.bool (digB n), ⟨h, nx, ro⟩) := by
  apply runW_K tab78 rfl
  rw [c78_tree]
  simp only [k_brb]
  rfl
def ldB (c : UInt8) : Bool := letB (c.toNat : Int) || digB (c.toNat : Int)
theorem size_len (s : ByteArray) : s.size = s.data.toList.length := by rw [Array.length_toList]; rfl
theorem loop62 {s : ByteArray} {h : Tr HObj} {nx ro : Nat} {df : List Df} {b : Bool} (hx : s.data.toList.length ≤ maxN) : ∀ (k i rb : Nat), i + k = s.data.toList.length →
    lw (some [0, 2, 3]) (some [2]) c62_l0 ⟨(puts .nil [(0, (.str s)), (2, (.bool b)), (3, (.int .i64 i))]), h, nx, rb, ro, df⟩ =
      some (if (s.data.toList.drop i).all ldB then (.exit 0, ⟨puts .nil [(2, .bool b)], h, nx, nx, ro, df⟩) else (.ret, ⟨puts .nil [(2, .bool false)], h, nx, nx, ro, df⟩)) := by
  intro k
  induction k with
  | zero =>
    intro i rb hi
    have hi : i = s.data.toList.length := by omega
    subst hi
    apply lpW_K
    rw [c62_l0_round, size_len]
    have e1 : decide ((s.data.toList.length : Int) < (s.data.toList.length : Int)) = false := by simp
    rw [all_end]
    simp only [e1, k_bnd, k_bt, k_bf, k_nt, k_dB, k_dI, k_dS, k_dL, k_dP, k_dG, k_dT, k_dX, k_dC, k_dN, k_ex, k_rt, k_df, k_hb, f_b, f_i, f_s, f_a2, if_true]
  | succ k ih =>
    intro i rb hi
    have hix : i < s.data.toList.length := by omega
    apply lpW_K
    rw [c62_l0_round, size_len]
    have e1 : decide ((i : Int) < (s.data.toList.length : Int)) = true := decide_eq_true (by omega)
    have e2 : decide ((0 : Int) ≤ (i : Int)) = true := by simp
    have e3 : (i : Int).toNat = i := rfl
    have n1 : nth s.data.toList i = some s.data.toList[i] := nth_some hix
    generalize hc : s.data.toList[i] = c at n1
    have k1 : runW tab nats 77 _ _ = _ := run77 (n := (c.toNat : Int)) (h := .nil) (nx := nx) (ro := nx)
    have k2 : runW tab nats 78 _ _ = _ := run78 (n := (c.toNat : Int)) (h := .nil) (nx := nx) (ro := nx)
    rw [all_step hix, hc]
    simp only [e1, e2, e3, n1, k_bnd, k_bt, k_bf, k_nt, k_dB, k_dI, k_dS, k_dL, k_dP, k_dG, k_dT, k_dX, k_dC, k_dN, k_ex, k_rt, k_df, k_hb, f_b, f_i, f_s, f_a2, k1, k2, ldB]
    rcases Bool.eq_false_or_eq_true (letB (c.toNat : Int)) with hq | hq
    · simp only [hq, Bool.not_true, Bool.true_or, Bool.true_and, k_bnd, k_bt, k_bf, k_nt, k_dB, k_dI, k_dS, k_dL, k_dP, k_dG, k_dT, k_dX, k_dC, k_dN, k_ex, k_rt, k_df, k_hb, f_b, f_i, f_s, f_a2]
      rw [wrap_up (by omega)]
      exact ih (i + 1) nx (by omega)
    · rcases Bool.eq_false_or_eq_true (digB (c.toNat : Int)) with hr | hr
      · simp only [hq, hr, Bool.not_true, Bool.not_false, Bool.or_true, Bool.true_and, k_bnd, k_bt, k_bf, k_nt, k_dB, k_dI, k_dS, k_dL, k_dP, k_dG, k_dT, k_dX, k_dC, k_dN, k_ex, k_rt, k_df, k_hb, f_b, f_i, f_s, f_a2]
        rw [wrap_up (by omega)]
        exact ih (i + 1) nx (by omega)
      · simp only [hq, hr, Bool.not_false, Bool.or_false, Bool.false_and, k_bnd, k_bt, k_bf, k_nt, k_dB, k_dI, k_dS, k_dL, k_dP, k_dG, k_dT, k_dX, k_dC, k_dN, k_ex, k_rt, k_df, k_hb, f_b, f_i, f_s, f_a2, Bool.false_eq_true, if_false]
/-- Is a text a name, whatever the language's own words? -/
def nmB : List UInt8 → Bool
  | [] => false
  | c :: l => decide (l.length < 64) && (letB (c.toNat : Int) && l.all ldB)
theorem w0_nil : w0.data.toList = [] := rfl
theorem run62 {s : ByteArray} {h : Tr HObj} {nx ro : Nat} : rw 62 [.str s] ⟨h, nx, ro⟩ = some (.bool (nmB s.data.toList), ⟨h, nx, ro⟩) := by
  apply runW_K tab62 rfl
  rw [c62_tree, w0_nil, size_len]
  have hk := fun hx : s.data.toList.length ≤ maxN => loop62 (s := s) (h := h) (nx := nx) (ro := ro) (df := []) (b := false) hx
  generalize s.data.toList = l at hk
  cases l with
  | nil => rfl
  | cons c l =>
    have e1 : ((c :: l) == ([] : List UInt8)) = false := rfl
    by_cases hl : l.length < 64
    · have e2 : decide (((c :: l).length : Int) > 64) = false := by simp; omega
      have n1 : nth (c :: l) 0 = some c := rfl
      have k1 : runW tab nats 77 _ _ = _ := run77 (n := (c.toNat : Int)) (h := .nil) (nx := nx) (ro := nx)
      have hk' : lpW tab nats _ _ _ _ = _ := hk (by simp [maxN]; omega) l.length 1 nx (by simp; omega)
      have hd : decide (l.length < 64) = true := by simp [hl]
      simp only [e1, e2, n1, k1, k_bnd, k_bt, k_bf, k_nt, k_dB, k_dI, k_dS, k_dL, k_dP, k_dG, k_dT, k_dX, k_dC, k_dN, k_ex, k_rt, k_df, k_hb, f_b, f_i, f_s, f_a2, nmB, hd, Bool.true_and]
      rcases Bool.eq_false_or_eq_true (letB (c.toNat : Int)) with hq | hq
      · simp only [Int.natCast_one, List.drop_succ_cons, List.drop_zero] at hk'
        simp only [hq, Bool.not_true, Bool.true_and, k_bnd, k_bt, k_bf, k_nt, k_dB, k_dI, k_dS, k_dL, k_dP, k_dG, k_dT, k_dX, k_dC, k_dN, k_ex, k_rt, k_df, k_hb, f_b, f_i, f_s, f_a2, hk']
        cases l.all ldB with
        | true => rfl
        | false => rfl
      · simp only [hq, Bool.not_false, Bool.false_and, k_bnd, k_bt, k_bf, k_nt, k_dB, k_dI, k_dS, k_dL, k_dP, k_dG, k_dT, k_dX, k_dC, k_dN, k_ex, k_rt, k_df, k_hb, f_b, f_i, f_s, f_a2]
    · have e2 : decide (((c :: l).length : Int) > 64) = true := by simp; omega
      have hd : decide (l.length < 64) = false := by simp [hl]
      simp only [e1, e2, k_bnd, k_bt, k_bf, k_nt, k_dB, k_dI, k_dS, k_dL, k_dP, k_dG, k_dT, k_dX, k_dC, k_dN, k_ex, k_rt, k_df, k_hb, f_b, f_i, f_s, f_a2, nmB, hd, Bool.false_and]

def ownL : List ByteArray := [w1_var, w2_proc, w3_skip, w4_mark, w5_clean, w6_sink, w7_call, w8_from, w9_either, w10_or, w11_loop, w12_return, w13_at]
def ownB (s : ByteArray) : Bool := ownL.any fun w => w.data.toList == s.data.toList
theorem any_step {α : Type} {f : α → Bool} {xs : List α} {i : Nat} (h : i < xs.length) : (xs.drop i).any f = (f xs[i] || (xs.drop (i + 1)).any f) := by rw [List.drop_eq_getElem_cons h]; rfl
theorem loop63 {s : ByteArray} {h : Tr HObj} {nx ro : Nat} {df : List Df} {b : Bool} : ∀ (k i rb : Nat), i + k = 13 →
    lw (some [0, 2, 3, 4]) (some [2]) c63_l0 ⟨(puts .nil [(0, (.str s)), (2, (.bool b)), (3, (.slice 1 (ownL.map AV.str) .full)), (4, (.int .i64 i))]), h, nx, rb, ro, df⟩ =
      some (if (ownL.drop i).any (fun w => w.data.toList == s.data.toList) then (.ret, ⟨puts .nil [(2, .bool true)], h, nx, nx, ro, df⟩) else (.exit 0, ⟨puts .nil [(2, .bool b)], h, nx, nx, ro, df⟩)) := by
  intro k
  induction k with
  | zero =>
    intro i rb hi
    have hi : i = 13 := by omega
    subst hi
    apply lpW_K
    have := c63_l0_round (runW tab nats) (lpW tab nats) (fun s => lpW tab nats (some [0, 2, 3, 4]) (some [2]) c63_l0 s) s b 13 h nx rb ro df
    rw [show ownL.map AV.str = [(.str w1_var), (.str w2_proc), (.str w3_skip), (.str w4_mark), (.str w5_clean), (.str w6_sink), (.str w7_call), (.str w8_from), (.str w9_either), (.str w10_or), (.str w11_loop), (.str w12_return), (.str w13_at)] from rfl]
    rw [show ((13 : Nat) : Int) = 13 from rfl, this]
    rfl
  | succ k ih =>
    intro i rb hi
    have hix : i < ownL.length := by show i < 13; omega
    apply lpW_K
    rw [show ownL.map AV.str = [(.str w1_var), (.str w2_proc), (.str w3_skip), (.str w4_mark), (.str w5_clean), (.str w6_sink), (.str w7_call), (.str w8_from), (.str w9_either), (.str w10_or), (.str w11_loop), (.str w12_return), (.str w13_at)] from rfl]
    rw [c63_l0_round]
    rw [show [(.str w1_var), (.str w2_proc), (.str w3_skip), (.str w4_mark), (.str w5_clean), (.str w6_sink), (.str w7_call), (.str w8_from), (.str w9_either), (.str w10_or), (.str w11_loop), (.str w12_return), (.str w13_at)] = ownL.map AV.str from rfl]
    have e1 : decide ((i : Int) < 13) = true := by simp; omega
    have e2 : decide ((0 : Int) ≤ (i : Int)) = true := by simp
    have e3 : (i : Int).toNat = i := rfl
    have n1 : nth (ownL.map AV.str) i = some (.str ownL[i]) := by
      rw [nth_eq, List.getElem?_map, List.getElem?_eq_getElem hix]; rfl
    rw [any_step hix]
    generalize ownL[i] = w at n1
    simp only [e1, e2, e3, n1, k_bnd, k_bt, k_bf, k_nt, k_dB, k_dI, k_dS, k_dL, k_dP, k_dG, k_dT, k_dX, k_dC, k_dN, k_ex, k_rt, k_df, k_hb, f_b, f_i, f_s, f_a2]
    rcases Bool.eq_false_or_eq_true (w.data.toList == s.data.toList) with hq | hq
    · simp only [hq, Bool.true_or, k_bnd, k_bt, k_bf, k_nt, k_dB, k_dI, k_dS, k_dL, k_dP, k_dG, k_dT, k_dX, k_dC, k_dN, k_ex, k_rt, k_df, k_hb, f_b, f_i, f_s, f_a2, if_true]
    · simp only [hq, Bool.false_or, k_bnd, k_bt, k_bf, k_nt, k_dB, k_dI, k_dS, k_dL, k_dP, k_dG, k_dT, k_dX, k_dC, k_dN, k_ex, k_rt, k_df, k_hb, f_b, f_i, f_s, f_a2]
      rw [wrap_up (by simp [maxN]; omega)]
      exact ih (i + 1) nx (by omega)
theorem run63 {s : ByteArray} {h : Tr HObj} {nx ro : Nat} : rw 63 [.str s] ⟨h, nx, ro⟩ = some (.bool (ownB s), ⟨h, nx, ro⟩) := by
  apply runW_K tab63 rfl
  rw [c63_tree]
  have hk' : lpW tab nats _ _ _ _ = _ := loop63 (s := s) (h := h) (nx := nx) (ro := ro) (df := []) (b := false) 13 0 nx rfl
  rw [show ownL.map AV.str = [(.str w1_var), (.str w2_proc), (.str w3_skip), (.str w4_mark), (.str w5_clean), (.str w6_sink), (.str w7_call), (.str w8_from), (.str w9_either), (.str w10_or), (.str w11_loop), (.str w12_return), (.str w13_at)] from rfl] at hk'
  simp only [Int.natCast_zero, List.drop_zero] at hk'
  simp only [hk', k_bnd, k_bt, k_bf, k_nt, k_dB, k_dI, k_dS, k_dL, k_dP, k_dG, k_dT, k_dX, k_dC, k_dN, k_ex, k_rt, k_df, k_hb, f_b, f_i, f_s, f_a2, ownB]
  cases ownL.any fun w => w.data.toList == s.data.toList with
  | true => rfl
  | false => rfl
/-- Is a text a name? -/
def nameB (s : ByteArray) : Bool := bif nmB s.data.toList then !(ownB s) else false
theorem run29 {s : ByteArray} {h : Tr HObj} {nx ro : Nat} : rw 29 [.str s] ⟨h, nx, ro⟩ = some (.bool (nameB s), ⟨h, nx, ro⟩) := by
  apply runW_K tab29 rfl
  rw [c29_tree]
  have k1 : runW tab nats 62 _ _ = _ := run62 (s := s) (h := .nil) (nx := nx) (ro := nx)
  have k2 : runW tab nats 63 _ _ = _ := run63 (s := s) (h := .nil) (nx := nx) (ro := nx)
  simp only [k1, k2, k_bnd, k_bt, k_bf, k_nt, k_dB, k_dI, k_dS, k_dL, k_dP, k_dG, k_dT, k_dX, k_dC, k_dN, k_ex, k_rt, k_df, k_hb, f_b, f_i, f_s, f_a2, k_brb, nameB]

/-! ### Statements -/
def stF (nm : ByteArray → Bool) (k : Int) (x y : ByteArray) (c L : Int) (B : Bool) : Bool := (bif (k == 1) then (bif (!(!(x.data.toList == w0.data.toList))) then (bif (!(!(y.data.toList == w0.data.toList))) then (bif (!(c != 0)) then (L == 0) else false) else false) else false) else (bif (k == 11) then (bif (!(!(x.data.toList == w0.data.toList))) then (bif (!(!(y.data.toList == w0.data.toList))) then (bif (!(c != 0)) then (L == 0) else false) else false) else false) else (bif (k == 2) then (bif nm x then (bif (!(!(y.data.toList == w0.data.toList))) then (L == 0) else false) else false) else (bif (k == 3) then (bif nm x then (bif nm y then (bif (!(c != 0)) then (L == 0) else false) else false) else false) else (bif (k == 4) then (bif nm x then (bif (!(!(y.data.toList == w0.data.toList))) then (bif (!(c != 0)) then (L == 0) else false) else false) else false) else (bif (k == 5) then (bif nm x then (bif (!(!(y.data.toList == w0.data.toList))) then (bif (!(c != 0)) then (L == 0) else false) else false) else false) else (bif (k == 6) then (bif nm x then (bif (!(!(y.data.toList == w0.data.toList))) then (bif (!(c != 0)) then (L == 0) else false) else false) else false) else (bif (k == 7) then (bif nm x then (bif (!(!(y.data.toList == w0.data.toList))) then (bif (!(c != 0)) then (L == 0) else false) else false) else false) else (bif (k == 12) then (bif nm x then (bif (!(!(y.data.toList == w0.data.toList))) then (bif (!(c != 0)) then (L == 0) else false) else false) else false) else (bif (k == 8) then (bif nm x then (bif (!(!(y.data.toList == w0.data.toList))) then (bif (!(c != 0)) then (L == 0) else false) else (bif nm y then (bif (!(c != 0)) then (L == 0) else false) else false)) else false) else (bif (k == 9) then (bif (!(!(x.data.toList == w0.data.toList))) then (bif (!(!(y.data.toList == w0.data.toList))) then (bif (!(c != 0)) then (bif (decide (L ≥ 2)) then B else false) else false) else false) else false) else (bif (k == 10) then (bif (!(!(x.data.toList == w0.data.toList))) then (bif (!(!(y.data.toList == w0.data.toList))) then (bif (!(c != 0)) then (bif (L == 1) then B else false) else false) else false) else false) else false))))))))))))
def bkB (f : AV → Bool) : AV → Bool
  | .slice _ l _ => l.all f
  | _ => false
def stB : Nat → AV → Bool
  | n + 1, .agg [.int _ k, .str x, .str y, .int _ c, .slice _ ks _] => stF nameB k x y c (ks.length : Int) (ks.all (bkB (stB n)))
  | _, _ => false

theorem loop110 {f : AV → Bool} {P : AV → Prop} {xs : List AV} {ox : Am.Own} {h : Tr HObj} {nx ro : Nat} {df : List Df} {b : Bool} (hx : xs.length ≤ maxN) (h1 : ∀ x ∈ xs, IsB P x)
    (hf : ∀ x, IsB P x → rw 30 [x] ⟨.nil, nx, nx⟩ = some (.bool (f x), ⟨.nil, nx, nx⟩)) : ∀ (k i rb : Nat), i + k = xs.length →
    lw (some [0, 2, 3]) (some [2]) c110_l0 ⟨(puts .nil [(0, (.slice 1 xs ox)), (2, (.bool b)), (3, (.int .i64 i))]), h, nx, rb, ro, df⟩ =
      some (if (xs.drop i).all f then (.exit 0, ⟨puts .nil [(2, .bool b)], h, nx, nx, ro, df⟩) else (.ret, ⟨puts .nil [(2, .bool false)], h, nx, nx, ro, df⟩)) := by
  intro k
  induction k with
  | zero =>
    intro i rb hi
    have hi : i = xs.length := by omega
    subst hi
    apply lpW_K
    rw [c110_l0_round, len_eq]
    have e1 : decide ((xs.length : Int) < (xs.length : Int)) = false := by simp
    rw [all_end]
    simp only [e1, k_bnd, k_bt, k_bf, k_nt, k_dB, k_dI, k_dS, k_dL, k_dP, k_dG, k_dT, k_dX, k_dC, k_dN, k_ex, k_rt, k_df, k_hb, f_b, f_i, f_s, f_a2, if_true]
  | succ k ih =>
    intro i rb hi
    have hix : i < xs.length := by omega
    apply lpW_K
    rw [c110_l0_round, len_eq]
    have e1 : decide ((i : Int) < (xs.length : Int)) = true := by simp; omega
    have e2 : decide ((0 : Int) ≤ (i : Int)) = true := by simp
    have e3 : (i : Int).toNat = i := rfl
    have sx := h1 _ (List.getElem_mem hix)
    have hc := hf _ sx
    rw [all_step hix]
    obtain ⟨a5, a6, ha, _, _⟩ := sx
    have n1 : nth xs i = some xs[i] := nth_some hix
    rw [ha] at n1 hc
    rw [ha]
    have hc' : runW tab nats 30 _ _ = _ := hc
    have z5 : Nat.beq 1 1 = true := rfl
    simp only [e1, e2, e3, n1, z5, k_bnd, k_bt, k_bf, k_nt, k_dB, k_dI, k_dS, k_dL, k_dP, k_dG, k_dT, k_dX, k_dC, k_dN, k_ex, k_rt, k_df, k_hb, f_b, f_i, f_s, f_a2, hc']
    rcases Bool.eq_false_or_eq_true (f (.slice 5 a6 a5)) with hq | hq
    · simp only [hq, Bool.not_true, Bool.true_and, k_bnd, k_bt, k_bf, k_nt, k_dB, k_dI, k_dS, k_dL, k_dP, k_dG, k_dT, k_dX, k_dC, k_dN, k_ex, k_rt, k_df, k_hb, f_b, f_i, f_s, f_a2]
      rw [wrap_up (by omega)]
      exact ih (i + 1) nx (by omega)
    · simp only [hq, Bool.not_false, Bool.false_and, k_bnd, k_bt, k_bf, k_nt, k_dB, k_dI, k_dS, k_dL, k_dP, k_dG, k_dT, k_dX, k_dC, k_dN, k_ex, k_rt, k_df, k_hb, f_b, f_i, f_s, f_a2, Bool.false_eq_true, if_false]
theorem run110 {f : AV → Bool} {P : AV → Prop} {xs : List AV} {ox : Am.Own} {h : Tr HObj} {nx ro : Nat} (hx : xs.length ≤ maxN) (h1 : ∀ x ∈ xs, IsB P x)
    (hf : ∀ x, IsB P x → rw 30 [x] ⟨.nil, nx, nx⟩ = some (.bool (f x), ⟨.nil, nx, nx⟩)) : rw 110 [.slice 1 xs ox] ⟨h, nx, ro⟩ = some (.bool (xs.all f), ⟨h, nx, ro⟩) := by
  apply runW_K tab110 rfl
  rw [c110_tree]
  have hk' : lpW tab nats _ _ _ _ = _ := loop110 (ox := ox) (h := h) (ro := ro) (df := []) (b := false) hx h1 hf xs.length 0 nx (by omega)
  simp only [Int.natCast_zero, List.drop_zero] at hk'
  simp only [hk', k_bnd, k_bt, k_bf, k_nt, k_dB, k_dI, k_dS, k_dL, k_dP, k_dG, k_dT, k_dX, k_dC, k_dN, k_ex, k_rt, k_df, k_hb, f_b, f_i, f_s, f_a2]
  cases xs.all f with
  | true => rfl
  | false => rfl

theorem loop30 {f : AV → Bool} {n : Nat} {xs : List AV} {ox : Am.Own} {h : Tr HObj} {nx ro : Nat} {df : List Df} {b : Bool} (hx : xs.length ≤ maxN) (h1 : ∀ x ∈ xs, IsStm n x)
    (hf : ∀ x, IsStm n x → rw 64 [x] ⟨.nil, nx, nx⟩ = some (.bool (f x), ⟨.nil, nx, nx⟩)) : ∀ (k i rb : Nat), i + k = xs.length →
    lw (some [0, 2, 3]) (some [2]) c30_l0 ⟨(puts .nil [(0, (.slice 5 xs ox)), (2, (.bool b)), (3, (.int .i64 i))]), h, nx, rb, ro, df⟩ =
      some (if (xs.drop i).all f then (.exit 0, ⟨puts .nil [(2, .bool b)], h, nx, nx, ro, df⟩) else (.ret, ⟨puts .nil [(2, .bool false)], h, nx, nx, ro, df⟩)) := by
  intro k
  induction k with
  | zero =>
    intro i rb hi
    have hi : i = xs.length := by omega
    subst hi
    apply lpW_K
    rw [c30_l0_round, len_eq]
    have e1 : decide ((xs.length : Int) < (xs.length : Int)) = false := by simp
    rw [all_end]
    simp only [e1, k_bnd, k_bt, k_bf, k_nt, k_dB, k_dI, k_dS, k_dL, k_dP, k_dG, k_dT, k_dX, k_dC, k_dN, k_ex, k_rt, k_df, k_hb, f_b, f_i, f_s, f_a2, if_true]
  | succ k ih =>
    intro i rb hi
    have hix : i < xs.length := by omega
    apply lpW_K
    rw [c30_l0_round, len_eq]
    have e1 : decide ((i : Int) < (xs.length : Int)) = true := by simp; omega
    have e2 : decide ((0 : Int) ≤ (i : Int)) = true := by simp
    have e3 : (i : Int).toNat = i := rfl
    have sx := h1 _ (List.getElem_mem hix)
    have hc := hf _ sx
    rw [all_step hix]
    have sx' : ∃ a1 a2 a3 a4 a5 a6, xs[i] = .agg [.int .i64 a1, .str a2, .str a3, .int .i64 a4, .slice 1 a6 a5] := by
      cases n with
      | zero => exact sx.elim
      | succ n =>
        obtain ⟨a1, a2, a3, a4, a5, a6, ha, _, _⟩ := sx
        exact ⟨a1, a2, a3, a4, a5, a6, ha⟩
    obtain ⟨a1, a2, a3, a4, a5, a6, ha⟩ := sx'
    have n1 : nth xs i = some xs[i] := nth_some hix
    rw [ha] at n1 hc
    rw [ha]
    have hc' : runW tab nats 64 _ _ = _ := hc
    have z5 : Nat.beq 5 5 = true := rfl
    simp only [e1, e2, e3, n1, z5, k_bnd, k_bt, k_bf, k_nt, k_dB, k_dI, k_dS, k_dL, k_dP, k_dG, k_dT, k_dX, k_dC, k_dN, k_ex, k_rt, k_df, k_hb, f_b, f_i, f_s, f_a2, hc']
    rcases Bool.eq_false_or_eq_true (f (.agg [.int .i64 a1, .str a2, .str a3, .int .i64 a4, .slice 1 a6 a5])) with hq | hq
    · simp only [hq, Bool.not_true, Bool.true_and, k_bnd, k_bt, k_bf, k_nt, k_dB, k_dI, k_dS, k_dL, k_dP, k_dG, k_dT, k_dX, k_dC, k_dN, k_ex, k_rt, k_df, k_hb, f_b, f_i, f_s, f_a2]
      rw [wrap_up (by omega)]
      exact ih (i + 1) nx (by omega)
    · simp only [hq, Bool.not_false, Bool.false_and, k_bnd, k_bt, k_bf, k_nt, k_dB, k_dI, k_dS, k_dL, k_dP, k_dG, k_dT, k_dX, k_dC, k_dN, k_ex, k_rt, k_df, k_hb, f_b, f_i, f_s, f_a2, Bool.false_eq_true, if_false]
theorem run30 {f : AV → Bool} {n : Nat} {xs : List AV} {ox : Am.Own} {h : Tr HObj} {nx ro : Nat} (hx : xs.length ≤ maxN) (h1 : ∀ x ∈ xs, IsStm n x)
    (hf : ∀ x, IsStm n x → rw 64 [x] ⟨.nil, nx, nx⟩ = some (.bool (f x), ⟨.nil, nx, nx⟩)) : rw 30 [.slice 5 xs ox] ⟨h, nx, ro⟩ = some (.bool (xs.all f), ⟨h, nx, ro⟩) := by
  apply runW_K tab30 rfl
  rw [c30_tree]
  have hk' : lpW tab nats _ _ _ _ = _ := loop30 (ox := ox) (h := h) (ro := ro) (df := []) (b := false) hx h1 hf xs.length 0 nx (by omega)
  simp only [Int.natCast_zero, List.drop_zero] at hk'
  simp only [hk', k_bnd, k_bt, k_bf, k_nt, k_dB, k_dI, k_dS, k_dL, k_dP, k_dG, k_dT, k_dX, k_dC, k_dN, k_ex, k_rt, k_df, k_hb, f_b, f_i, f_s, f_a2]
  cases xs.all f with
  | true => rfl
  | false => rfl

theorem run64 : ∀ (n : Nat) {x : AV} {h : Tr HObj} {nx ro : Nat}, IsStm n x → rw 64 [x] ⟨h, nx, ro⟩ = some (.bool (stB n x), ⟨h, nx, ro⟩) := by
  intro n
  induction n with
  | zero => intro x h nx ro h1; exact h1.elim
  | succ n ih =>
    intro x h nx ro h1
    obtain ⟨a1, a2, a3, a4, a5, a6, rfl, a7, a8⟩ := h1
    have hb : ∀ u, IsB (IsStm n) u → rw 30 [u] ⟨.nil, nx, nx⟩ = some (.bool (bkB (stB n) u), ⟨.nil, nx, nx⟩) := by
      intro u hu
      obtain ⟨o, l, rfl, hl, hs⟩ := hu
      exact run30 hl hs fun x hx => ih hx
    have k1 : runW tab nats 110 _ _ = _ := run110 (ox := a5) (h := .nil) (ro := nx) a7 a8 hb
    have k2 : ∀ s : ByteArray, runW tab nats 29 [.str s] ⟨.nil, nx, nx⟩ = _ := fun s => run29 (s := s) (h := .nil) (nx := nx) (ro := nx)
    apply runW_K tab64 rfl
    rw [c64_tree, len_eq]
    simp only [k1, k2, k_bnd, k_bt, k_bf, k_nt, k_dB, k_dI, k_dS, k_dL, k_dP, k_dG, k_dT, k_dX, k_dC, k_dN, k_ex, k_rt, k_df, k_hb, f_b, f_i, f_s, f_a2, k_brb, stB, stF]
theorem run30' {n : Nat} {xs : List AV} {ox : Am.Own} {h : Tr HObj} {nx ro : Nat} (hx : xs.length ≤ maxN) (h1 : ∀ x ∈ xs, IsStm n x) : rw 30 [.slice 5 xs ox] ⟨h, nx, ro⟩ = some (.bool (xs.all (stB n)), ⟨h, nx, ro⟩) :=
  run30 hx h1 fun x hx => run64 n hx
end Go.Proofs.YtohncbgkiojlnaaGreatDoor
