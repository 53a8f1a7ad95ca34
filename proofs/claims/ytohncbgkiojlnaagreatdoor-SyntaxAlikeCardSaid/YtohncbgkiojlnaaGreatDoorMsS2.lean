/- How great a program is, and which trees are programs: the reference's measure and check. -/
import Derived.Test.YtohncbgkiojlnaaGreatDoorChS2
set_option maxRecDepth 100000
set_option linter.unusedVariables false
set_option linter.unusedSimpArgs false
namespace Go.Proofs.YtohncbgkiojlnaaGreatDoor
open Go.Proofs.YtohncbgkiojlnaaGreatDoor.Am

def bx (h : Tr HObj) (p : Nat) (q : Int × Int) : Tr HObj := h.put p (some (.box [.int .i64 q.1, .int .i64 q.2]))
theorem bx_get (h : Tr HObj) (p : Nat) (q : Int × Int) : (bx h p q).get p = some (.box [.int .i64 q.1, .int .i64 q.2]) := Tr.get_same _ _ _
theorem bx_put0 (h : Tr HObj) (p : Nat) (q : Int × Int) (n : Int) : (bx h p q).put p (some (.box (putCells [.int .i64 q.1, .int .i64 q.2] 0 [.int .i64 n]))) = bx h p (n, q.2) := Tr.put_put _ _ _ _
theorem bx_put1 (h : Tr HObj) (p : Nat) (q : Int × Int) (n : Int) : (bx h p q).put p (some (.box (putCells [.int .i64 q.1, .int .i64 q.2] 1 [.int .i64 n]))) = bx h p (q.1, n) := Tr.put_put _ _ _ _
theorem pt0 (a b : AV) : Am.part false 1 0 (dp 0 [a, b]) = some a := rfl
theorem pt1 (a b : AV) : Am.part false 1 0 (dp 1 [a, b]) = some b := rfl
theorem pt2 (a b : AV) : Am.part true 2 0 (dp 0 [a, b]) = some (.agg [a, b]) := rfl
theorem okAt {ro p : Nat} (h : Nat.ble ro p = true) (a b : AV) : (Nat.ble (0 + 1) [a, b].length && Nat.ble ro p) = true := by rw [h]; rfl
theorem okAt1 {ro p : Nat} (h : Nat.ble ro p = true) (a b : AV) : (Nat.ble (1 + 1) [a, b].length && Nat.ble ro p) = true := by rw [h]; rfl

def mKids (f : AV → Int × Int → Int × Int) : List AV → Int × Int → Int × Int
  | [], q => q
  | b :: bs, q => if q.1 ≤ 4096 then mKids f bs (f b q) else q
def mRow (g : AV → Int × Int → Int × Int) : List AV → Int × Int → Int × Int
  | [], q => q
  | s :: ss, q => if q.1 ≤ 4096 then mRow g ss (g s (IntKind.wrap .i64 (q.1 + 1), q.2)) else q
def kidsOf : AV → List AV
  | .agg [_, _, _, _, .slice _ ks _] => ks
  | _ => []
def upd (deep : Int) (q : Int × Int) : Int × Int := (q.1, if deep > q.2 then deep else q.2)
def mB : Nat → Int → List AV → Int × Int → Int × Int
  | 0, deep, _, q => upd deep q
  | n + 1, deep, l, q => if deep > 50 then upd deep q else mRow (fun s q => mKids (fun b q => match b with
      | .slice _ m _ => mB n (IntKind.wrap .i64 (deep + 1)) m q
      | _ => q) (kidsOf s) q) l (upd deep q)

theorem mKids_step {f : AV → Int × Int → Int × Int} {ks : List AV} {j : Nat} (h : j < ks.length) (q : Int × Int) : mKids f (ks.drop j) q = if q.1 ≤ 4096 then mKids f (ks.drop (j + 1)) (f ks[j] q) else q := by rw [List.drop_eq_getElem_cons h]; rfl
theorem mRow_step {g : AV → Int × Int → Int × Int} {ks : List AV} {j : Nat} (h : j < ks.length) (q : Int × Int) : mRow g (ks.drop j) q = if q.1 ≤ 4096 then mRow g (ks.drop (j + 1)) (g ks[j] (IntKind.wrap .i64 (q.1 + 1), q.2)) else q := by rw [List.drop_eq_getElem_cons h]; rfl

theorem loop61k {f : AV → Int × Int → Int × Int} {P : AV → Prop} {xs ks : List AV} {ox o' : Am.Own} {h : Tr HObj} {nx ro p i : Nat} {df : List Df} {deep a1 a4 : Int} {a2 a3 : ByteArray} (hp : Nat.ble ro p = true) (hi : i < xs.length)
    (hx : xs[i] = .agg [.int .i64 a1, .str a2, .str a3, .int .i64 a4, .slice 1 ks o']) (hk : ks.length ≤ maxN) (h1 : ∀ b ∈ ks, IsB P b)
    (hf : ∀ b, IsB P b → ∀ q, rw 61 [.ptr p 0, b, .int .i64 (IntKind.wrap .i64 (deep + 1))] ⟨bx h p q, nx, ro⟩ = some (.tuple [], ⟨bx h p (f b q), nx, ro⟩)) : ∀ (k j rb : Nat) (q : Int × Int), j + k = ks.length →
    lw (some [0, 1, 2, 6, 7]) (some [0, 1, 2, 6]) c61_l1 ⟨(puts .nil [(0, (.ptr p 0)), (1, (.slice 5 xs ox)), (2, (.int .i64 deep)), (6, (.int .i64 i)), (7, (.int .i64 j))]), bx h p q, nx, rb, ro, df⟩ =
      some (.exit 2, ⟨(puts .nil [(0, (.ptr p 0)), (1, (.slice 5 xs ox)), (2, (.int .i64 deep)), (6, (.int .i64 i))]), bx h p (mKids f (ks.drop j) q), nx, nx, ro, df⟩) := by
  have e2 : decide ((0 : Int) ≤ (i : Int)) = true := by simp
  have e3 : (i : Int).toNat = i := rfl
  have n1 : nth xs i = some xs[i] := nth_some hi
  rw [hx] at n1
  have z5 : Nat.beq 5 5 = true := rfl
  have z1 : Nat.beq 1 1 = true := rfl
  intro k
  induction k with
  | zero =>
    intro j rb q hj
    have hj : j = ks.length := by omega
    subst hj
    apply lpW_K
    rw [c61_l1_round]
    have e1 : decide ((ks.length : Int) < (ks.length : Int)) = false := by simp
    simp only [e2, e3, n1, z5, k_bnd, k_bt, k_bf, k_nt, k_dB, k_dI, k_dS, k_dL, k_dP, k_dG, k_dT, k_dX, k_dC, k_dN, k_ex, k_rt, k_df, k_hb, f_b, f_i, f_s, f_a2, len_eq, e1, List.drop_length, mKids]
  | succ k ih =>
    intro j rb q hj
    have hjx : j < ks.length := by omega
    apply lpW_K
    rw [c61_l1_round]
    have e1 : decide ((j : Int) < (ks.length : Int)) = true := by simp; omega
    have e4 : decide ((0 : Int) ≤ (j : Int)) = true := by simp
    have e5 : (j : Int).toNat = j := rfl
    have n2 : nth ks j = some ks[j] := nth_some hjx
    have hb := h1 _ (List.getElem_mem hjx)
    have hc := hf _ hb q
    rw [mKids_step hjx]
    obtain ⟨o2, l2, hl2, _, _⟩ := hb
    rw [hl2] at n2 hc
    rw [hl2]
    have hc' : runW tab nats 61 _ _ = _ := hc
    simp only [e2, e3, n1, z5, k_bnd, k_bt, k_bf, k_nt, k_dB, k_dI, k_dS, k_dL, k_dP, k_dG, k_dT, k_dX, k_dC, k_dN, k_ex, k_rt, k_df, k_hb, f_b, f_i, f_s, f_a2, len_eq, e1, bx_get, pt0]
    by_cases hq : q.1 ≤ 4096
    · have e6 : decide (q.1 ≤ 4096) = true := decide_eq_true hq
      simp only [e6, e4, e5, n2, z1, k_bnd, k_bt, k_bf, k_nt, k_dB, k_dI, k_dS, k_dL, k_dP, k_dG, k_dT, k_dX, k_dC, k_dN, k_ex, k_rt, k_df, k_hb, f_b, f_i, f_s, f_a2, hc', if_pos hq]
      rw [wrap_up (by omega)]
      exact ih (j + 1) nx _ (by omega)
    · have e6 : decide (q.1 ≤ 4096) = false := decide_eq_false hq
      simp only [e6, k_bnd, k_bt, k_bf, k_nt, k_dB, k_dI, k_dS, k_dL, k_dP, k_dG, k_dT, k_dX, k_dC, k_dN, k_ex, k_rt, k_df, k_hb, f_b, f_i, f_s, f_a2, if_neg hq]

theorem loop61 {f : AV → Int × Int → Int × Int} {n : Nat} {xs : List AV} {ox : Am.Own} {h : Tr HObj} {nx ro p : Nat} {df : List Df} {deep : Int} (hp : Nat.ble ro p = true) (hx : xs.length ≤ maxN) (h1 : ∀ x ∈ xs, IsStm (n + 1) x)
    (hf : ∀ b, IsB (IsStm n) b → ∀ q, rw 61 [.ptr p 0, b, .int .i64 (IntKind.wrap .i64 (deep + 1))] ⟨bx h p q, nx, ro⟩ = some (.tuple [], ⟨bx h p (f b q), nx, ro⟩)) : ∀ (k i rb : Nat) (q : Int × Int), i + k = xs.length →
    lw (some [0, 1, 2, 6]) (some []) c61_l0 ⟨(puts .nil [(0, (.ptr p 0)), (1, (.slice 5 xs ox)), (2, (.int .i64 deep)), (6, (.int .i64 i))]), bx h p q, nx, rb, ro, df⟩ =
      some (.exit 0, ⟨(puts .nil []), bx h p (mRow (fun s q => mKids f (kidsOf s) q) (xs.drop i) q), nx, nx, ro, df⟩) := by
  intro k
  induction k with
  | zero =>
    intro i rb q hi
    have hi : i = xs.length := by omega
    subst hi
    apply lpW_K
    rw [c61_l0_round]
    have e1 : decide ((xs.length : Int) < (xs.length : Int)) = false := by simp
    simp only [len_eq, e1, k_bnd, k_bt, k_bf, k_nt, k_dB, k_dI, k_dS, k_dL, k_dP, k_dG, k_dT, k_dX, k_dC, k_dN, k_ex, k_rt, k_df, k_hb, f_b, f_i, f_s, f_a2, List.drop_length, mRow]
  | succ k ih =>
    intro i rb q hi
    have hix : i < xs.length := by omega
    apply lpW_K
    rw [c61_l0_round]
    have e1 : decide ((i : Int) < (xs.length : Int)) = true := by simp; omega
    obtain ⟨a1, a2, a3, a4, a5, a6, ha, a7, a8⟩ := h1 _ (List.getElem_mem hix)
    rw [mRow_step hix]
    simp only [len_eq, e1, k_bnd, k_bt, k_bf, k_nt, k_dB, k_dI, k_dS, k_dL, k_dP, k_dG, k_dT, k_dX, k_dC, k_dN, k_ex, k_rt, k_df, k_hb, f_b, f_i, f_s, f_a2, bx_get, pt0]
    by_cases hq : q.1 ≤ 4096
    · have e6 : decide (q.1 ≤ 4096) = true := decide_eq_true hq
      have hk' := fun q' => loop61k (f := f) (o' := a5) (ox := ox) (df := df) (h := h) (nx := nx) hp hix ha a7 a8 hf a6.length 0 nx q' (by omega)
      have hk2 : ∀ q', lpW tab nats _ _ _ _ = _ := hk'
      simp only [Int.natCast_zero, List.drop_zero] at hk2
      simp only [e6, k_bnd, k_bt, k_bf, k_nt, k_dB, k_dI, k_dS, k_dL, k_dP, k_dG, k_dT, k_dX, k_dC, k_dN, k_ex, k_rt, k_df, k_hb, f_b, f_i, f_s, f_a2, if_pos hq, okAt hp, bx_put0, hk2]
      rw [wrap_up (by omega), ha]
      exact ih (i + 1) nx _ (by omega)
    · have e6 : decide (q.1 ≤ 4096) = false := decide_eq_false hq
      simp only [e6, k_bnd, k_bt, k_bf, k_nt, k_dB, k_dI, k_dS, k_dL, k_dP, k_dG, k_dT, k_dX, k_dC, k_dN, k_ex, k_rt, k_df, k_hb, f_b, f_i, f_s, f_a2, if_neg hq]

theorem loop61nil {ox : Am.Own} {h : Tr HObj} {nx ro p rb : Nat} {df : List Df} {deep : Int} {q : Int × Int} :
    lw (some [0, 1, 2, 6]) (some []) c61_l0 ⟨(puts .nil [(0, (.ptr p 0)), (1, (.slice 5 [] ox)), (2, (.int .i64 deep)), (6, (.int .i64 0))]), bx h p q, nx, rb, ro, df⟩ =
      some (.exit 0, ⟨(puts .nil []), bx h p q, nx, nx, ro, df⟩) := by
  apply lpW_K
  rw [c61_l0_round]
  rfl

theorem run61 : ∀ (n : Nat) {l : List AV} {o : Am.Own} {deep : Int} {h : Tr HObj} {nx ro p : Nat} (q : Int × Int), Nat.ble ro p = true → l.length ≤ maxN → (∀ s ∈ l, IsStm n s) →
    rw 61 [.ptr p 0, .slice 5 l o, .int .i64 deep] ⟨bx h p q, nx, ro⟩ = some (.tuple [], ⟨bx h p (mB n deep l q), nx, ro⟩) := by
  intro n
  induction n with
  | zero =>
    intro l o deep h nx ro p q hp hl h1
    have : l = [] := by
      cases l with
      | nil => rfl
      | cons x xs => exact (h1 x (by simp)).elim
    subst this
    apply runW_K tab61 rfl
    rw [c61_tree]
    have hk : lpW tab nats _ _ _ _ = _ := loop61nil (ox := o) (h := h) (nx := nx) (rb := nx) (ro := ro) (p := p) (deep := deep) (df := []) (q := upd deep q)
    simp only [upd] at hk
    simp only [bx_get, pt1, k_bnd, k_bt, k_bf, k_nt, k_dB, k_dI, k_dS, k_dL, k_dP, k_dG, k_dT, k_dX, k_dC, k_dN, k_ex, k_rt, k_df, k_hb, f_b, f_i, f_s, f_a2, len_eq, okAt1 hp, bx_put1, hk]
    cases decide (deep > 50) with
    | true => rfl
    | false => rfl
  | succ n ih =>
    intro l o deep h nx ro p q hp hl h1
    have hk := loop61 (f := fun b q => match b with
      | .slice _ m _ => mB n (IntKind.wrap .i64 (deep + 1)) m q
      | _ => q) (ox := o) (h := h) (nx := nx) (deep := deep) (df := []) hp hl h1 (fun b hb q => by
      obtain ⟨o2, l2, rfl, k1, k2⟩ := hb
      exact ih q hp k1 k2) l.length 0 nx (upd deep q) (by omega)
    apply runW_K tab61 rfl
    rw [c61_tree]
    have hk' : lpW tab nats _ _ _ _ = _ := hk
    simp only [upd, Int.natCast_zero, List.drop_zero] at hk'
    simp only [bx_get, pt1, k_bnd, k_bt, k_bf, k_nt, k_dB, k_dI, k_dS, k_dL, k_dP, k_dG, k_dT, k_dX, k_dC, k_dN, k_ex, k_rt, k_df, k_hb, f_b, f_i, f_s, f_a2, len_eq, okAt1 hp, bx_put1, hk', mB]
    by_cases hd : deep > 50
    · have e1 : decide (deep > 50) = true := decide_eq_true hd
      simp only [e1, k_bnd, k_bt, k_bf, k_nt, k_dB, k_dI, k_dS, k_dL, k_dP, k_dG, k_dT, k_dX, k_dC, k_dN, k_ex, k_rt, k_df, k_hb, f_b, f_i, f_s, f_a2, if_pos hd, upd]
    · have e1 : decide (deep > 50) = false := decide_eq_false hd
      simp only [e1, k_bnd, k_bt, k_bf, k_nt, k_dB, k_dI, k_dS, k_dL, k_dP, k_dG, k_dT, k_dX, k_dC, k_dN, k_ex, k_rt, k_df, k_hb, f_b, f_i, f_s, f_a2, if_neg hd, upd]
      rfl

/-! ### A program's size -/
def procSize (n : Nat) (q : Int × Int) (x : AV) : Int × Int := match x with
  | .agg [_, .slice _ l _] => mB n 0 l q
  | _ => q
theorem loop28 {n : Nat} {xs vs : List AV} {ox ov : Am.Own} {h : Tr HObj} {nx ro p : Nat} {df : List Df} (hp : Nat.ble ro p = true) (hx : xs.length ≤ maxN) (h1 : ∀ x ∈ xs, IsProc n x) : ∀ (k i rb : Nat) (q : Int × Int), i + k = xs.length →
    lw (some [1, 2, 3, 4]) (some [2, 3]) c28_l0 ⟨(puts .nil [(1, (.box 0 [(.slice 1 vs ov), (.slice 2 xs ox)])), (2, (.box 0 [(.int .i64 0), (.int .i64 0)])), (3, (.ptr p 0)), (4, (.int .i64 i))]), bx h p q, nx, rb, ro, df⟩ =
      some (.exit 0, ⟨(puts .nil [(2, (.box 0 [(.int .i64 0), (.int .i64 0)])), (3, (.ptr p 0))]), bx h p ((xs.drop i).foldl (procSize n) q), nx, nx, ro, df⟩) := by
  intro k
  induction k with
  | zero =>
    intro i rb q hi
    have hi : i = xs.length := by omega
    subst hi
    apply lpW_K
    rw [c28_l0_round]
    have e1 : decide ((xs.length : Int) < (xs.length : Int)) = false := by simp
    simp only [len_eq, e1, k_bnd, k_bt, k_bf, k_nt, k_dB, k_dI, k_dS, k_dL, k_dP, k_dG, k_dT, k_dX, k_dC, k_dN, k_ex, k_rt, k_df, k_hb, f_b, f_i, f_s, f_a2, List.drop_length, List.foldl_nil]
  | succ k ih =>
    intro i rb q hi
    have hix : i < xs.length := by omega
    apply lpW_K
    rw [c28_l0_round]
    have e1 : decide ((i : Int) < (xs.length : Int)) = true := by simp; omega
    have e2 : decide ((0 : Int) ≤ (i : Int)) = true := by simp
    have e3 : (i : Int).toNat = i := rfl
    obtain ⟨a2, a5, a6, ha, a7, a8⟩ := h1 _ (List.getElem_mem hix)
    have n1 : nth xs i = some xs[i] := nth_some hix
    rw [ha] at n1
    rw [List.drop_eq_getElem_cons hix, List.foldl_cons, ha]
    have hc : runW tab nats 61 _ _ = _ := run61 n (o := a5) (deep := 0) (h := h) (nx := nx) q hp a7 a8
    have z5 : Nat.beq 2 2 = true := rfl
    simp only [len_eq, e1, e2, e3, n1, z5, k_bnd, k_bt, k_bf, k_nt, k_dB, k_dI, k_dS, k_dL, k_dP, k_dG, k_dT, k_dX, k_dC, k_dN, k_ex, k_rt, k_df, k_hb, f_b, f_i, f_s, f_a2, hc]
    rw [wrap_up (by omega)]
    exact ih (i + 1) nx _ (by omega)
def sizeB (n : Nat) (ps : List AV) : Int × Int := ps.foldl (procSize n) (0, 0)
theorem run28 {n : Nat} {vs ps : List AV} {ov op : Am.Own} {nx : Nat} (hx : ps.length ≤ maxN) (h1 : ∀ x ∈ ps, IsProc n x) :
    ∃ hp, rw 28 [.agg [.slice 1 vs ov, .slice 2 ps op]] ⟨.nil, nx, nx⟩ = some (.agg [.int .i64 (sizeB n ps).1, .int .i64 (sizeB n ps).2], hp) := by
  refine ⟨⟨bx .nil (nx + 0) (sizeB n ps), nx + 1, nx⟩, runW_K tab28 rfl ?_⟩
  rw [c28_tree]
  have hro : Nat.ble nx (nx + 0) = true := by simp
  have hk : lpW tab nats _ _ _ _ = _ := loop28 (n := n) (vs := vs) (ov := ov) (ox := op) (h := .nil) (nx := nx + 1) (ro := nx) (p := nx + 0) (df := []) hro hx h1 ps.length 0 (nx + 1) (0, 0) (by omega)
  simp only [Int.natCast_zero, List.drop_zero] at hk
  have hf : frb .nil (nx + 1) nx nx 0 = true := by
    simp only [frb, Tr.get]
    have a1 : Nat.blt (nx + 0) (nx + 1) = true := by simp [Nat.blt]
    have a2 : Nat.ble nx nx = true := by simp
    rw [a1, a2]; rfl
  have hb : (Tr.nil : Tr HObj).put (nx + 0) (some (.box [.int .i64 0, .int .i64 0])) = bx .nil (nx + 0) (0, 0) := rfl
  simp only [hf, k_bnd, k_bt, k_bf, k_nt, k_dB, k_dI, k_dS, k_dL, k_dP, k_dG, k_dT, k_dX, k_dC, k_dN, k_ex, k_rt, k_df, k_hb, f_b, f_i, f_s, f_a2, hb, hk, bx_get, pt2, sizeB]
  rfl

/-! ### Check -/
theorem loop8a {vs ps : List AV} {ov op : Am.Own} {h : Tr HObj} {nx ro : Nat} {df : List Df} {r : Int} (hx : vs.length ≤ maxN) (h1 : ∀ x ∈ vs, IsStr x) : ∀ (k i rb : Nat), i + k = vs.length →
    lw (some [1, 2, 4]) (some [1, 2]) c8_l0 ⟨(puts .nil [(1, (.box 0 [(.slice 1 vs ov), (.slice 2 ps op)])), (2, (.int .i64 r)), (4, (.int .i64 i))]), h, nx, rb, ro, df⟩ =
      some (if (vs.drop i).all (fun v => match v with | .str s => nameB s | _ => false) then (.exit 0, ⟨(puts .nil [(1, (.box 0 [(.slice 1 vs ov), (.slice 2 ps op)])), (2, (.int .i64 r))]), h, nx, nx, ro, df⟩)
        else (.ret, ⟨(puts .nil [(1, (.box 0 [(.slice 1 vs ov), (.slice 2 ps op)])), (2, (.int .i64 201))]), h, nx, nx, ro, df⟩)) := by
  intro k
  induction k with
  | zero =>
    intro i rb hi
    have hi : i = vs.length := by omega
    subst hi
    apply lpW_K
    rw [c8_l0_round, len_eq]
    have e1 : decide ((vs.length : Int) < (vs.length : Int)) = false := by simp
    rw [all_end]
    simp only [e1, k_bnd, k_bt, k_bf, k_nt, k_dB, k_dI, k_dS, k_dL, k_dP, k_dG, k_dT, k_dX, k_dC, k_dN, k_ex, k_rt, k_df, k_hb, f_b, f_i, f_s, f_a2, if_true]
  | succ k ih =>
    intro i rb hi
    have hix : i < vs.length := by omega
    apply lpW_K
    rw [c8_l0_round, len_eq]
    have e1 : decide ((i : Int) < (vs.length : Int)) = true := by simp; omega
    have e2 : decide ((0 : Int) ≤ (i : Int)) = true := by simp
    have e3 : (i : Int).toNat = i := rfl
    obtain ⟨s, hs⟩ := h1 _ (List.getElem_mem hix)
    have n1 : nth vs i = some vs[i] := nth_some hix
    rw [all_step hix]
    rw [hs] at n1 ⊢
    have hc : runW tab nats 29 _ _ = _ := run29 (s := s) (h := .nil) (nx := nx) (ro := nx)
    have z5 : Nat.beq 1 1 = true := rfl
    simp only [e1, e2, e3, n1, z5, k_bnd, k_bt, k_bf, k_nt, k_dB, k_dI, k_dS, k_dL, k_dP, k_dG, k_dT, k_dX, k_dC, k_dN, k_ex, k_rt, k_df, k_hb, f_b, f_i, f_s, f_a2, hc]
    rcases Bool.eq_false_or_eq_true (nameB s) with hq | hq
    · simp only [hq, Bool.not_true, Bool.true_and, k_bnd, k_bt, k_bf, k_nt, k_dB, k_dI, k_dS, k_dL, k_dP, k_dG, k_dT, k_dX, k_dC, k_dN, k_ex, k_rt, k_df, k_hb, f_b, f_i, f_s, f_a2]
      rw [wrap_up (by omega)]
      exact ih (i + 1) nx (by omega)
    · simp only [hq, Bool.not_false, Bool.false_and, k_bnd, k_bt, k_bf, k_nt, k_dB, k_dI, k_dS, k_dL, k_dP, k_dG, k_dT, k_dX, k_dC, k_dN, k_ex, k_rt, k_df, k_hb, f_b, f_i, f_s, f_a2, Bool.false_eq_true, if_false]
def procOk (n : Nat) (v : AV) : Bool := match v with
  | .agg [.str s, .slice _ l _] => nameB s && l.all (stB n)
  | _ => false
theorem loop8b {n : Nat} {vs ps : List AV} {ov op : Am.Own} {h : Tr HObj} {nx ro : Nat} {df : List Df} {r : Int} (hx : ps.length ≤ maxN) (h1 : ∀ x ∈ ps, IsProc n x) : ∀ (k i rb : Nat), i + k = ps.length →
    lw (some [1, 2, 5]) (some [2]) c8_l1 ⟨(puts .nil [(1, (.box 0 [(.slice 1 vs ov), (.slice 2 ps op)])), (2, (.int .i64 r)), (5, (.int .i64 i))]), h, nx, rb, ro, df⟩ =
      some (if (ps.drop i).all (procOk n) then (.exit 2, ⟨(puts .nil [(2, (.int .i64 r))]), h, nx, nx, ro, df⟩) else (.ret, ⟨(puts .nil [(2, (.int .i64 201))]), h, nx, nx, ro, df⟩)) := by
  intro k
  induction k with
  | zero =>
    intro i rb hi
    have hi : i = ps.length := by omega
    subst hi
    apply lpW_K
    rw [c8_l1_round, len_eq]
    have e1 : decide ((ps.length : Int) < (ps.length : Int)) = false := by simp
    rw [all_end]
    simp only [e1, k_bnd, k_bt, k_bf, k_nt, k_dB, k_dI, k_dS, k_dL, k_dP, k_dG, k_dT, k_dX, k_dC, k_dN, k_ex, k_rt, k_df, k_hb, f_b, f_i, f_s, f_a2, if_true]
  | succ k ih =>
    intro i rb hi
    have hix : i < ps.length := by omega
    apply lpW_K
    rw [c8_l1_round, len_eq]
    have e1 : decide ((i : Int) < (ps.length : Int)) = true := by simp; omega
    have e2 : decide ((0 : Int) ≤ (i : Int)) = true := by simp
    have e3 : (i : Int).toNat = i := rfl
    obtain ⟨a2, a5, a6, ha, a7, a8⟩ := h1 _ (List.getElem_mem hix)
    have n1 : nth ps i = some ps[i] := nth_some hix
    rw [all_step hix]
    rw [ha] at n1 ⊢
    have hc : runW tab nats 29 _ _ = _ := run29 (s := a2) (h := .nil) (nx := nx) (ro := nx)
    have hd : runW tab nats 30 _ _ = _ := run30' (n := n) (ox := a5) (h := .nil) (nx := nx) (ro := nx) a7 a8
    have z5 : Nat.beq 2 2 = true := rfl
    simp only [e1, e2, e3, n1, z5, k_bnd, k_bt, k_bf, k_nt, k_dB, k_dI, k_dS, k_dL, k_dP, k_dG, k_dT, k_dX, k_dC, k_dN, k_ex, k_rt, k_df, k_hb, f_b, f_i, f_s, f_a2, hc, procOk]
    rcases Bool.eq_false_or_eq_true (nameB a2) with hq | hq
    · simp only [hq, Bool.not_true, Bool.true_and, k_bnd, k_bt, k_bf, k_nt, k_dB, k_dI, k_dS, k_dL, k_dP, k_dG, k_dT, k_dX, k_dC, k_dN, k_ex, k_rt, k_df, k_hb, f_b, f_i, f_s, f_a2, hd]
      rcases Bool.eq_false_or_eq_true (a6.all (stB n)) with hr | hr
      · simp only [hr, Bool.not_true, Bool.true_and, k_bnd, k_bt, k_bf, k_nt, k_dB, k_dI, k_dS, k_dL, k_dP, k_dG, k_dT, k_dX, k_dC, k_dN, k_ex, k_rt, k_df, k_hb, f_b, f_i, f_s, f_a2]
        rw [wrap_up (by omega)]
        exact ih (i + 1) nx (by omega)
      · simp only [hr, Bool.not_false, Bool.false_and, k_bnd, k_bt, k_bf, k_nt, k_dB, k_dI, k_dS, k_dL, k_dP, k_dG, k_dT, k_dX, k_dC, k_dN, k_ex, k_rt, k_df, k_hb, f_b, f_i, f_s, f_a2, Bool.false_eq_true, if_false]
    · simp only [hq, Bool.not_false, Bool.false_and, k_bnd, k_bt, k_bf, k_nt, k_dB, k_dI, k_dS, k_dL, k_dP, k_dG, k_dT, k_dX, k_dC, k_dN, k_ex, k_rt, k_df, k_hb, f_b, f_i, f_s, f_a2, Bool.false_eq_true, if_false]
/-- The reference's Check: an error's number. -/
def chkB (n : Nat) (vs ps : List AV) : Int := if (sizeB n ps).1 > 4096 then 3 else if (sizeB n ps).2 > 50 then 3 else
  if vs.all (fun v => match v with | .str s => nameB s | _ => false) then (if ps.all (procOk n) then 0 else 201) else 201
theorem run8 {n : Nat} {vs ps : List AV} {ov op : Am.Own} {h : Tr HObj} {nx ro : Nat} (v1 : vs.length ≤ maxN) (p1 : ps.length ≤ maxN) (v2 : ∀ x ∈ vs, IsStr x) (p2 : ∀ x ∈ ps, IsProc n x) :
    rw 8 [.agg [.slice 1 vs ov, .slice 2 ps op]] ⟨h, nx, ro⟩ = some (.int .i64 (chkB n vs ps), ⟨h, nx, ro⟩) := by
  apply runW_K tab8 rfl
  rw [c8_tree]
  obtain ⟨hp, hk⟩ := run28 (n := n) (vs := vs) (ov := ov) (op := op) (nx := nx) p1 p2
  have hk : runW tab nats 28 _ _ = _ := hk
  simp only [hk, k_bnd, k_bt, k_bf, k_nt, k_dB, k_dI, k_dS, k_dL, k_dP, k_dG, k_dT, k_dX, k_dC, k_dN, k_ex, k_rt, k_df, k_hb, f_b, f_i, f_s, f_a2, chkB]
  by_cases c1 : (sizeB n ps).1 > 4096
  · have e1 : decide ((sizeB n ps).1 > 4096) = true := decide_eq_true c1
    simp only [e1, k_bnd, k_bt, k_bf, k_nt, k_dB, k_dI, k_dS, k_dL, k_dP, k_dG, k_dT, k_dX, k_dC, k_dN, k_ex, k_rt, k_df, k_hb, f_b, f_i, f_s, f_a2, if_pos c1]
  · have e1 : decide ((sizeB n ps).1 > 4096) = false := decide_eq_false c1
    simp only [e1, k_bnd, k_bt, k_bf, k_nt, k_dB, k_dI, k_dS, k_dL, k_dP, k_dG, k_dT, k_dX, k_dC, k_dN, k_ex, k_rt, k_df, k_hb, f_b, f_i, f_s, f_a2, if_neg c1]
    by_cases c2 : (sizeB n ps).2 > 50
    · have e2 : decide ((sizeB n ps).2 > 50) = true := decide_eq_true c2
      simp only [e2, k_bnd, k_bt, k_bf, k_nt, k_dB, k_dI, k_dS, k_dL, k_dP, k_dG, k_dT, k_dX, k_dC, k_dN, k_ex, k_rt, k_df, k_hb, f_b, f_i, f_s, f_a2, if_pos c2]
    · have e2 : decide ((sizeB n ps).2 > 50) = false := decide_eq_false c2
      have l1 : lpW tab nats _ _ _ _ = _ := loop8a (ps := ps) (ov := ov) (op := op) (h := h) (nx := nx) (ro := ro) (df := []) (r := 0) v1 v2 vs.length 0 nx (by omega)
      have l2 : lpW tab nats _ _ _ _ = _ := loop8b (vs := vs) (ov := ov) (op := op) (h := h) (nx := nx) (ro := ro) (df := []) (r := 0) p1 p2 ps.length 0 nx (by omega)
      simp only [Int.natCast_zero, List.drop_zero] at l1 l2
      simp only [e2, k_bnd, k_bt, k_bf, k_nt, k_dB, k_dI, k_dS, k_dL, k_dP, k_dG, k_dT, k_dX, k_dC, k_dN, k_ex, k_rt, k_df, k_hb, f_b, f_i, f_s, f_a2, if_neg c2]
      rcases Bool.eq_false_or_eq_true (vs.all (fun v => match v with | .str s => nameB s | _ => false)) with hv | hv
      · rw [hv] at l1 ⊢
        simp only [if_true] at l1 ⊢
        rw [l1]
        show bnd (lpW tab nats (some [1, 2, 5]) (some [2]) c8_l1 ⟨(puts .nil [(1, (.box 0 [(.slice 1 vs ov), (.slice 2 ps op)])), (2, (.int .i64 0)), (5, (.int .i64 0))]), h, nx, nx, ro, []⟩) _ = _
        rw [l2]
        cases ps.all (procOk n) with
        | true => rfl
        | false => rfl
      · rw [hv] at l1 ⊢
        simp only [Bool.false_eq_true, if_false] at l1 ⊢
        rw [l1]
        rfl
end Go.Proofs.YtohncbgkiojlnaaGreatDoor
