import Derived.Test.YtimidokohhiacaaAbP09L
/- sinewlaw09: QueryLimits. -/
namespace Go.Ab
open Go.Proofs Go.RowKit
set_option linter.unusedVariables false
set_option linter.unusedSimpArgs false
set_option maxRecDepth 100000
def rep : Nat → List UInt8 → List UInt8 → List UInt8
  | 0, _, s => s
  | n + 1, p, s => rep n p (s ++ p)
def nest : Nat → List UInt8 → List UInt8
  | 0, s => s
  | n + 1, s => nest n ([40] ++ s ++ [41, 42])
def sel0 : List UInt8 := [115, 101, 108, 101, 99, 116, 32, 63, 120, 32, 119, 104, 101, 114, 101, 32, 123, 32, 63, 120, 32]
def fiveT : List UInt8 := [115, 101, 108, 101, 99, 116, 32, 63, 120, 32, 119, 104, 101, 114, 101, 32, 123, 32, 63, 120, 32, 112, 32, 63, 120, 32, 46, 32, 63, 97, 32, 112, 32, 63, 98, 32, 46, 32, 63, 99, 32, 112, 32, 63, 100, 32, 46, 32, 63, 101, 32, 112, 32, 63, 120]
def textL (w d : Nat) : List UInt8 := match w with
  | 0 => rep (5 + d) [32, 46, 32, 63, 120, 32, 112, 32, 63, 120] (sel0 ++ [112, 32, 63, 120])
  | 1 => if d = 1 then fiveT ++ [32, 46, 32, 63, 102, 32, 112, 32, 63, 120] else fiveT
  | 2 => sel0 ++ rep (23 + d) [124, 112] [112] ++ [32, 63, 120]
  | 3 => sel0 ++ nest (11 + d) [112] ++ [32, 63, 120]
  | _ => rep (63 + d) [32, 46, 32, 105, 110, 115, 101, 114, 116, 32, 97, 32, 112, 32, 98] [105, 110, 115, 101, 114, 116, 32, 97, 32, 112, 32, 98]
def wantL (w : Nat) : Int := if w < 2 then 2 else 100
theorem v00 : (parseP (textL 0 0 ++ [32, 125])).2 = (0, 0) := by kernel_rfl
theorem v01 : (parseP (textL 0 1 ++ [32, 125])).2 = (0, 2) := by kernel_rfl
theorem v10 : (parseP (textL 1 0 ++ [32, 125])).2 = (0, 0) := by kernel_rfl
theorem v11 : (parseP (textL 1 1 ++ [32, 125])).2 = (0, 2) := by kernel_rfl
theorem v20 : (parseP (textL 2 0 ++ [32, 125])).2 = (0, 0) := by kernel_rfl
theorem v21 : (parseP (textL 2 1 ++ [32, 125])).2 = (0, 100) := by kernel_rfl
theorem v30 : (parseP (textL 3 0 ++ [32, 125])).2 = (0, 0) := by kernel_rfl
theorem v31 : (parseP (textL 3 1 ++ [32, 125])).2 = (0, 100) := by kernel_rfl
theorem v40 : (parseP (textL 4 0)).2 = (0, 0) := by kernel_rfl
theorem v41 : (parseP (textL 4 1)).2 = (0, 2) := by kernel_rfl
theorem addS (a b : List UInt8) (h : a.length + b.length ≤ 1000000) (K : V → Res) : A.bin .add (.str a) (.str b) K = K (.str (a ++ b)) := by simp [A.bin, show a.length + b.length ≤ 4611686018427387904 by omega]
theorem rep_len : ∀ (n : Nat) (p s : List UInt8), (rep n p s).length = s.length + n * p.length
  | 0, p, s => by simp [rep]
  | n + 1, p, s => by rw [rep, rep_len n p (s ++ p), List.length_append, Nat.succ_mul]; omega
theorem nest_len : ∀ (n : Nat) (s : List UInt8), (nest n s).length = s.length + n * 3
  | 0, s => by simp [nest]
  | n + 1, s => by rw [nest, nest_len n]; simp; omega
theorem loop0 (d : Nat) (hd : d < 2) (st : St) : ∀ (n f i : Nat) (s : List UInt8), i + n = 5 + d → n < f → s.length + n * 20 ≤ 100000 → g9b111101010010 f (.int .i64 (d : Nat)) (.str s) (.int .i64 (i : Nat)) st = g9b11111 (.int .i64 (d : Nat)) (.str (rep n [32, 46, 32, 63, 120, 32, 112, 32, 63, 120] s)) (.int .i64 2) st := by
  intro n
  induction n with
  | zero =>
    intro f i s h hf hs
    obtain ⟨f, rfl⟩ : ∃ f', f = f' + 1 := ⟨f - 1, by omega⟩
    rw [g9b111101010010, show (5 : Int) = ((5 : Nat) : Int) from rfl, bin_addN 5 d _ (by omega)]
    simp only [bin_lss, show ¬ ((i : Int) < ((5 + d : Nat) : Int)) from by omega, decide_false, cond_false]
    rfl
  | succ n ih =>
    intro f i s h hf hs
    obtain ⟨f, rfl⟩ : ∃ f', f = f' + 1 := ⟨f - 1, by omega⟩
    rw [g9b111101010010, show (5 : Int) = ((5 : Nat) : Int) from rfl, bin_addN 5 d _ (by omega)]
    simp only [bin_lss, show ((i : Int) < ((5 + d : Nat) : Int)) from by omega, decide_true, cond_true]
    rw [addS _ _ (by simp; omega)]
    rw [bin_inc (by omega), ih f (i + 1) _ (by omega) (by omega) (by simp; omega)]
    rfl
theorem loop2 (d : Nat) (hd : d < 2) (st : St) : ∀ (n f i : Nat) (s : List UInt8), i + n = 23 + d → n < f → s.length + n * 20 ≤ 100000 → g9b11110101111101010 f (.int .i64 (d : Nat)) (.str s) (.int .i64 (i : Nat)) st = g9b11111 (.int .i64 (d : Nat)) (.str (sel0 ++ rep n [124, 112] s ++ [32, 63, 120])) (.int .i64 100) st := by
  intro n
  induction n with
  | zero =>
    intro f i s h hf hs
    obtain ⟨f, rfl⟩ : ∃ f', f = f' + 1 := ⟨f - 1, by omega⟩
    rw [g9b11110101111101010, show (23 : Int) = ((23 : Nat) : Int) from rfl, bin_addN 23 d _ (by omega)]
    simp only [bin_lss, show ¬ ((i : Int) < ((23 + d : Nat) : Int)) from by omega, decide_false, cond_false]
    rw [show ([115, 101, 108, 101, 99, 116, 32, 63, 120, 32, 119, 104, 101, 114, 101, 32, 123, 32, 63, 120, 32] : List UInt8) = sel0 from rfl, addS _ _ (by simp [sel0]; omega), addS _ _ (by simp [sel0]; omega)]
    rfl
  | succ n ih =>
    intro f i s h hf hs
    obtain ⟨f, rfl⟩ : ∃ f', f = f' + 1 := ⟨f - 1, by omega⟩
    rw [g9b11110101111101010, show (23 : Int) = ((23 : Nat) : Int) from rfl, bin_addN 23 d _ (by omega)]
    simp only [bin_lss, show ((i : Int) < ((23 + d : Nat) : Int)) from by omega, decide_true, cond_true]
    rw [addS _ _ (by simp; omega)]
    rw [bin_inc (by omega), ih f (i + 1) _ (by omega) (by omega) (by simp; omega)]
    rfl
theorem loop3 (d : Nat) (hd : d < 2) (st : St) : ∀ (n f i : Nat) (s : List UInt8), i + n = 11 + d → n < f → s.length + n * 20 ≤ 100000 → g9b1111010111111101010 f (.int .i64 (d : Nat)) (.str s) (.int .i64 (i : Nat)) st = g9b11111 (.int .i64 (d : Nat)) (.str (sel0 ++ nest n s ++ [32, 63, 120])) (.int .i64 100) st := by
  intro n
  induction n with
  | zero =>
    intro f i s h hf hs
    obtain ⟨f, rfl⟩ : ∃ f', f = f' + 1 := ⟨f - 1, by omega⟩
    rw [g9b1111010111111101010, show (11 : Int) = ((11 : Nat) : Int) from rfl, bin_addN 11 d _ (by omega)]
    simp only [bin_lss, show ¬ ((i : Int) < ((11 + d : Nat) : Int)) from by omega, decide_false, cond_false]
    rw [show ([115, 101, 108, 101, 99, 116, 32, 63, 120, 32, 119, 104, 101, 114, 101, 32, 123, 32, 63, 120, 32] : List UInt8) = sel0 from rfl, addS _ _ (by simp [sel0]; omega), addS _ _ (by simp [sel0]; omega)]
    rfl
  | succ n ih =>
    intro f i s h hf hs
    obtain ⟨f, rfl⟩ : ∃ f', f = f' + 1 := ⟨f - 1, by omega⟩
    rw [g9b1111010111111101010, show (11 : Int) = ((11 : Nat) : Int) from rfl, bin_addN 11 d _ (by omega)]
    simp only [bin_lss, show ((i : Int) < ((11 + d : Nat) : Int)) from by omega, decide_true, cond_true]
    rw [addS _ _ (by simp; omega), addS _ _ (by simp; omega)]
    rw [bin_inc (by omega), ih f (i + 1) _ (by omega) (by omega) (by simp; omega)]
    rfl
theorem loop4 (d : Nat) (hd : d < 2) (st : St) : ∀ (n f i : Nat) (s : List UInt8), i + n = 63 + d → n < f → s.length + n * 20 ≤ 100000 → g9b1111010111111111010 f (.int .i64 (d : Nat)) (.str s) (.int .i64 (i : Nat)) st = g9b11110101111111111 (.int .i64 (d : Nat)) (.str (rep n [32, 46, 32, 105, 110, 115, 101, 114, 116, 32, 97, 32, 112, 32, 98] s)) st := by
  intro n
  induction n with
  | zero =>
    intro f i s h hf hs
    obtain ⟨f, rfl⟩ : ∃ f', f = f' + 1 := ⟨f - 1, by omega⟩
    rw [g9b1111010111111111010, show (63 : Int) = ((63 : Nat) : Int) from rfl, bin_addN 63 d _ (by omega)]
    simp only [bin_lss, show ¬ ((i : Int) < ((63 + d : Nat) : Int)) from by omega, decide_false, cond_false]
    rfl
  | succ n ih =>
    intro f i s h hf hs
    obtain ⟨f, rfl⟩ : ∃ f', f = f' + 1 := ⟨f - 1, by omega⟩
    rw [g9b1111010111111111010, show (63 : Int) = ((63 : Nat) : Int) from rfl, bin_addN 63 d _ (by omega)]
    simp only [bin_lss, show ((i : Int) < ((63 + d : Nat) : Int)) from by omega, decide_true, cond_true]
    rw [addS _ _ (by simp; omega)]
    rw [bin_inc (by omega), ih f (i + 1) _ (by omega) (by omega) (by simp; omega)]
    rfl
theorem step1 (d i : Nat) (hd : d < 2) (hi : i < 4) (f : Nat) (s : List UInt8) (hs : s.length ≤ 10000) (st : St) : ∃ s', g9b11110101110010 (f + 1) (.int .i64 (d : Nat)) (.str s) (.int .i64 (i : Nat)) st = g9b11110101110010 f (.int .i64 (d : Nat)) (.str s') (.int .i64 ((i + 1 : Nat) : Int)) st ∧ s'.length ≤ s.length + 20 := by
  rw [g9b11110101110010, show (5 : Int) = ((5 : Nat) : Int) from rfl, bin_addN 5 d _ (by omega)]
  simp only [bin_lss, show ((i : Int) < ((5 + d : Nat) : Int)) from by omega, decide_true, cond_true]
  rw [addS _ _ (by simp; omega), show (97 : Int) = ((97 : Nat) : Int) from rfl, bin_addN 97 i _ (by omega)]
  have : ∃ b : UInt8, ∀ K : V → Res, (A.toInt .u8 (.int .i64 ((97 + i : Nat) : Int)) fun a5 => A.bslice 1 (.int .u8 0) 1 [(0, a5)] fun a6 => A.toStr a6 st K) = K (.str [b]) := by
    rcases (show i = 0 ∨ i = 1 ∨ i = 2 ∨ i = 3 by omega) with rfl | rfl | rfl | rfl
    · exact ⟨97, fun K => rfl⟩
    · exact ⟨98, fun K => rfl⟩
    · exact ⟨99, fun K => rfl⟩
    · exact ⟨100, fun K => rfl⟩
  obtain ⟨b, hb⟩ := this
  rw [hb, addS _ _ (by simp; omega), addS _ _ (by simp; omega)]
  unfold g9b1111010111001001001
  simp only [bin_geq, show ¬ ((4 : Int) ≤ (i : Int)) from by omega, decide_false, cond_false]
  rw [bin_inc (by omega)]
  exact ⟨_, rfl, by simp⟩
theorem loop1 (d : Nat) (hd : d < 2) (f : Nat) (s : List UInt8) (hs : s.length ≤ 1000) (st : St) : g9b11110101110010 (f + 5) (.int .i64 (d : Nat)) (.str s) (.int .i64 ((0 : Nat) : Int)) st = g9b11111 (.int .i64 (d : Nat)) (.str (textL 1 d)) (.int .i64 2) st := by
  obtain ⟨s1, h1, l1⟩ := step1 d 0 hd (by omega) (f + 4) s (by omega) st
  obtain ⟨s2, h2, l2⟩ := step1 d 1 hd (by omega) (f + 3) s1 (by omega) st
  obtain ⟨s3, h3, l3⟩ := step1 d 2 hd (by omega) (f + 2) s2 (by omega) st
  obtain ⟨s4, h4, l4⟩ := step1 d 3 hd (by omega) (f + 1) s3 (by omega) st
  rw [h1, h2, h3, h4]
  rw [g9b11110101110010, show (5 : Int) = ((5 : Nat) : Int) from rfl, bin_addN 5 d _ (by omega)]
  simp only [bin_lss, show (((3 + 1 : Nat) : Int) < ((5 + d : Nat) : Int)) from by omega, decide_true, cond_true]
  have hb : ∀ K : V → Res, (A.toInt .u8 (.int .i64 ((97 + (3 + 1) : Nat) : Int)) fun a5 => A.bslice 1 (.int .u8 0) 1 [(0, a5)] fun a6 => A.toStr a6 st K) = K (.str [101]) := fun K => rfl
  rw [addS _ _ (by simp; omega), show (97 : Int) = ((97 : Nat) : Int) from rfl, bin_addN 97 (3 + 1) _ (by omega), hb, addS _ _ (by simp; omega), addS _ _ (by simp; omega)]
  unfold g9b1111010111001001001
  simp only [bin_geq, show ((4 : Int) ≤ ((3 + 1 : Nat) : Int)) from by omega, decide_true, cond_true, eql_int, Bool.false_eq_true, if_false]
  rcases (show d = 0 ∨ d = 1 by omega) with rfl | rfl <;> rfl
theorem fin_s (d : Nat) (hd : d < 2) (t : List UInt8) (ht : t.length ≤ 10000) (w : Int) (h : (parseP (t ++ [32, 125])).2 = (0, if d = 0 then 0 else w)) (st : St) : ∃ st', g9b11111 (.int .i64 (d : Nat)) (.str t) (.int .i64 w) st = some (.ret (.bool true), st') := by
  unfold g9b11111
  rw [addS _ _ (by simp; omega)]
  simp only [er1_str, parse_s, ret_ret, parseV, ext_0, ext_1, ext_2]
  have bx : ∀ K : V → St → Res, A.box (.agg [(.int .i64 0), (.lst [] 1), (.lst [] 1), (.lst [] 1)]) st K = K (.ptr st.n 0) (st.new (.cells (rqCt rq0 1 1 1))) := fun K => rfl
  rw [bx, show A.store 4 (.ptr st.n 0) (rqV (parseP (t ++ [32, 125])).1) (st.new (.cells (rqCt rq0 1 1 1))) = _ from funext fun K => sv_all 4 (rqC _) (new_at _ _) rfl rfl rfl K]
  rw [h]
  unfold g9b111111 g9b1111111
  rcases (show d = 0 ∨ d = 1 by omega) with rfl | rfl
  · simp only [eql_int, Bool.false_eq_true, if_false, if_true]
    rw [show (((0 : Nat) : Int) == 0) = true from rfl, cond_true]
    simp only [eql_int, Bool.false_eq_true, if_false, beq_self_eq_true, guard_tt, s13_val, ret_ret, er1_bool]
    exact ⟨_, rfl⟩
  · simp only [eql_int, Bool.false_eq_true, if_false, if_true]
    rw [show (((1 : Nat) : Int) == 0) = false from rfl, cond_false]
    simp only [eql_int, Bool.false_eq_true, if_false, beq_self_eq_true, guard_tt, s13_val, ret_ret, er1_bool, Nat.one_ne_zero]
    exact ⟨_, rfl⟩
theorem tl_len (w d : Nat) (hw : w < 5) (hd : d < 2) : (textL w d).length ≤ 10000 := by
  have h1 : (sel0 ++ [112, 32, 63, 120]).length = 25 := rfl
  have h2 : sel0.length = 21 := rfl
  have h3 : fiveT.length = 55 := rfl
  rcases (show w = 0 ∨ w = 1 ∨ w = 2 ∨ w = 3 ∨ w = 4 by omega) with rfl | rfl | rfl | rfl | rfl
  · show (rep _ _ _).length ≤ _; rw [rep_len, h1]; simp; omega
  · show (if d = 1 then fiveT ++ [32, 46, 32, 63, 102, 32, 112, 32, 63, 120] else fiveT).length ≤ _; split <;> simp [h3]
  · show (sel0 ++ rep _ _ _ ++ _).length ≤ _; simp [rep_len, h2]; omega
  · show (sel0 ++ nest _ _ ++ _).length ≤ _; simp [nest_len, h2]; omega
  · show (rep _ _ _).length ≤ _; rw [rep_len]; simp; omega
theorem limits_law (x y : Int) (st : St) : ∃ st', s9 [.int .i64 x, .int .i64 y] st = some (.ret (.bool true), st') := by
  rw [s9_eq]
  unfold f9
  rw [show (1 : Int) = ((1 : Nat) : Int) from rfl, bin_andN 1 1 rfl (by decide), show (255 : Int) = ((255 : Nat) : Int) from rfl, bin_andN 8 255 rfl (by decide)]
  rw [show (5 : Int) = ((5 : Nat) : Int) from rfl, bin_remN _ 5 _ (by omega)]
  have hd : (y % ((2 ^ 1 : Nat) : Int)).toNat < 2 := by
    have := Int.emod_lt_of_pos y (show (0 : Int) < ((2 ^ 1 : Nat) : Int) by decide)
    have := Int.emod_nonneg y (show ((2 ^ 1 : Nat) : Int) ≠ 0 by decide)
    omega
  have hw : (x % ((2 ^ 8 : Nat) : Int)).toNat % 5 < 5 := Nat.mod_lt _ (by omega)
  generalize (y % ((2 ^ 1 : Nat) : Int)).toNat = d at hd ⊢
  generalize (x % ((2 ^ 8 : Nat) : Int)).toNat % 5 = w at hw ⊢
  simp only [eql_int, Bool.false_eq_true, if_false]
  have e0 : g9b11110101 (.int .i64 (d : Nat)) (.str [115, 101, 108, 101, 99, 116, 32, 63, 120, 32, 119, 104, 101, 114, 101, 32, 123, 32, 63, 120, 32, 112, 32, 63, 120]) (.int .i64 (w : Nat)) (.bool ((w : Int) == 0)) st = g9b11110101 (.int .i64 (d : Nat)) (.str (sel0 ++ [112, 32, 63, 120])) (.int .i64 (w : Nat)) (.bool ((w : Int) == 0)) st := rfl
  rw [e0]
  have hb : ∀ n : Nat, n < 1000 → n < big := fun n h => lt_big (by omega)
  have hD : ∀ {t0 t1 : List UInt8} {w : Int} {F : Nat → List UInt8}, F 0 = t0 → F 1 = t1 → (parseP (t0 ++ [32, 125])).2 = (0, 0) → (parseP (t1 ++ [32, 125])).2 = (0, w) → (parseP (F d ++ [32, 125])).2 = (0, if d = 0 then 0 else w) := fun {t0 t1 w F} f0 f1 h0 h1 => by
    rcases (show d = 0 ∨ d = 1 by omega) with rfl | rfl
    · rw [f0, h0]; rfl
    · rw [f1, h1]; rfl
  unfold g9b11110101
  rcases (show w = 0 ∨ w = 1 ∨ w = 2 ∨ w = 3 ∨ w = 4 by omega) with rfl | rfl | rfl | rfl | rfl
  · rw [show (((0 : Nat) : Int) == 0) = true from rfl, cond_true, show (.int .i64 0 : V) = .int .i64 ((0 : Nat) : Int) from rfl, loop0 d hd st (5 + d) big 0 _ (by omega) (hb _ (by omega)) (by simp [sel0]; omega)]
    exact fin_s d hd (textL 0 d) (tl_len 0 d (by omega) hd) 2 (hD (F := fun d => textL 0 d) rfl rfl v00 v01) st
  · rw [show (((1 : Nat) : Int) == 0) = false from rfl, cond_false]
    simp only [eql_int, Bool.false_eq_true, if_false]
    rw [show (((1 : Nat) : Int) == 1) = true from rfl, cond_true]
    obtain ⟨m, hm, _⟩ := big_succ
    obtain ⟨m', rfl⟩ : ∃ m', m = m' + 4 := ⟨m - 4, by omega⟩
    rw [hm, show (.int .i64 0 : V) = .int .i64 ((0 : Nat) : Int) from rfl, loop1 d hd m' _ (by simp [sel0]) st]
    exact fin_s d hd (textL 1 d) (tl_len 1 d (by omega) hd) 2 (hD (F := fun d => textL 1 d) rfl rfl v10 v11) st
  · rw [show (((2 : Nat) : Int) == 0) = false from rfl, cond_false]
    simp only [eql_int, Bool.false_eq_true, if_false]
    rw [show (((2 : Nat) : Int) == 1) = false from rfl, cond_false, show (((2 : Nat) : Int) == 2) = true from rfl, cond_true, show (.int .i64 0 : V) = .int .i64 ((0 : Nat) : Int) from rfl, loop2 d hd st (23 + d) big 0 _ (by omega) (hb _ (by omega)) (by simp [sel0]; omega)]
    exact fin_s d hd (textL 2 d) (tl_len 2 d (by omega) hd) 100 (hD (F := fun d => textL 2 d) rfl rfl v20 v21) st
  · rw [show (((3 : Nat) : Int) == 0) = false from rfl, cond_false]
    simp only [eql_int, Bool.false_eq_true, if_false]
    rw [show (((3 : Nat) : Int) == 1) = false from rfl, cond_false, show (((3 : Nat) : Int) == 2) = false from rfl, cond_false, show (((3 : Nat) : Int) == 3) = true from rfl, cond_true, show (.int .i64 0 : V) = .int .i64 ((0 : Nat) : Int) from rfl, loop3 d hd st (11 + d) big 0 _ (by omega) (hb _ (by omega)) (by simp [sel0]; omega)]
    exact fin_s d hd (textL 3 d) (tl_len 3 d (by omega) hd) 100 (hD (F := fun d => textL 3 d) rfl rfl v30 v31) st
  · rw [show (((4 : Nat) : Int) == 0) = false from rfl, cond_false]
    simp only [eql_int, Bool.false_eq_true, if_false]
    rw [show (((4 : Nat) : Int) == 1) = false from rfl, cond_false, show (((4 : Nat) : Int) == 2) = false from rfl, cond_false, show (((4 : Nat) : Int) == 3) = false from rfl, cond_false, show (.int .i64 0 : V) = .int .i64 ((0 : Nat) : Int) from rfl, loop4 d hd st (63 + d) big 0 _ (by omega) (hb _ (by omega)) (by simp [sel0]; omega)]
    show ∃ st', g9b11110101111111111 (.int .i64 (d : Nat)) (.str (textL 4 d)) st = _
    have hv : (parseP (textL 4 d)).2 = (0, if d = 0 then 0 else 2) := by
      rcases (show d = 0 ∨ d = 1 by omega) with rfl | rfl
      · exact v40
      · exact v41
    unfold g9b11110101111111111
    simp only [er1_str, parse_s, ret_ret, parseV, ext_0, ext_1, ext_2]
    have bx : ∀ K : V → St → Res, A.box (.agg [(.int .i64 0), (.lst [] 1), (.lst [] 1), (.lst [] 1)]) st K = K (.ptr st.n 0) (st.new (.cells (rqCt rq0 1 1 1))) := fun K => rfl
    rw [bx, show A.store 4 (.ptr st.n 0) (rqV (parseP (textL 4 d)).1) (st.new (.cells (rqCt rq0 1 1 1))) = _ from funext fun K => sv_all 4 (rqC _) (new_at _ _) rfl rfl rfl K, hv]
    unfold g9b1111010111111111110_10 g9b1111010111111111110_18
    rcases (show d = 0 ∨ d = 1 by omega) with rfl | rfl
    · simp only [eql_int, eql_bool, Bool.false_eq_true, if_false, if_true, beq_self_eq_true, guard_tt, guardT_b, guard_tf, s13_val, ret_ret, er1_bool]
      exact ⟨_, rfl⟩
    · simp only [eql_int, eql_bool, Bool.false_eq_true, if_false, if_true, Nat.one_ne_zero]
      rw [show ((2 : Int) == 0) = false from rfl, show (((1 : Nat) : Int) == 0) = false from rfl]
      simp only [beq_self_eq_true, guard_tt, guardT_b, guard_ff, s13_val, ret_ret, er1_bool]
      exact ⟨_, rfl⟩
theorem queryLimits_row {W : World} {v0 v1 : Value} {x0 x1 : V} {n0 n1 : Nat}
    (r0 : Rs (E0 W) [x0] [v0]) (s0 : Sh Try.prog n0 3 x0.cells) (f0 : fit Try.prog 3 x0)
    (r1 : Rs (E0 W) [x1] [v1]) (s1 : Sh Try.prog n1 3 x1.cells) (f1 : fit Try.prog 3 x1) :
    Calls Try.prog 9 #[v0, v1] W fun e w' => e = .returned (.bool true) ∧ Below W.heap.size W w' := by
  obtain ⟨a, rfl, _⟩ := in_int s0 f0 Try.underlying3
  obtain ⟨b, rfl, _⟩ := in_int s1 f1 Try.underlying3
  obtain ⟨st', hs⟩ := limits_law a b St0
  exact bool_row sim9 W _ _ _ hs (Rs.cons r0 r1)
end Go.Ab
