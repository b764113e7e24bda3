import Derived.Test.YtiegejeleanfbaaAbS13a
import Derived.Test.YtiegejeleanfbaaAbSh
/- sinewlaw13: what the small functions compute. -/
namespace Go.Ab
open Go.RowKit Go.Proofs Sh13
set_option linter.unusedVariables false
set_option linter.unusedSimpArgs false

/-- The first place of what is so, from a place on. -/
def idxF (p : Int → Bool) : List Int → Nat → Int
  | [], _ => -1
  | x :: l, i => if p x then i else idxF p l (i + 1)
theorem idxF_any (p : Int → Bool) : ∀ (l : List Int) (i : Nat), decide (0 ≤ idxF p l i) = l.any p
  | [], _ => rfl
  | x :: l, i => by
    unfold idxF
    by_cases h : p x = true
    · simp [h]
    · simp [h, idxF_any p l (i + 1)]
variable {st : St}
theorem may1_s (x : Int) : s39 [.int .i64 x] st = some (.ret (.bool (odd x)), st) := by
  rw [s39_eq]; unfold f39
  by_cases h : x < 1
  · simp [h, odd]
  · simp [h, odd]
theorem indexFn_loop {xs : List Int} {v : V} (H : IntsAt st v xs) {fv : V} {p : Int → Bool} (hx : xs.length ≤ 9223372036854775807) (hf : ∀ x ∈ xs, ∀ K, A.call g37T fv [.int .i64 x] st K = K (.bool (p x)) st) : ∀ (n i : Nat), i ≤ xs.length → xs.length < n + i →
    g37b1010 n (v) fv (.int .i64 (xs.length : Nat)) (.int .i64 (i : Nat)) st = some (.ret (.int .i64 (idxF p (xs.drop i) i)), st) := by
  intro n
  induction n with
  | zero => intro i hi hn; omega
  | succ n ih =>
    intro i hi hn
    unfold g37b1010
    by_cases h : i < xs.length
    · have h1 := hf xs[i] (List.getElem_mem h)
      rw [List.drop_eq_getElem_cons h]
      simp only [bin_lss, show ((i : Int) < (xs.length : Int)) from by omega, decide_true, cond_true, H.at_ _ h, h1]
      unfold idxF
      cases hp : p xs[i] with
      | true => simp
      | false =>
        simp only [cond_false, bin_inc (show i < 9223372036854775807 by omega)]
        exact ih (i + 1) (by omega) (by omega)
    · have : i = xs.length := by omega
      subst this
      simp [idxF]
theorem containsFn_v {xs : List Int} {v : V} (H : IntsAt st v xs) {fv : V} {p : Int → Bool} (hx : xs.length ≤ 9223372036854775807) (he : fv.er1 = fv) (hf : ∀ x ∈ xs, ∀ K, A.call g37T fv [.int .i64 x] st K = K (.bool (p x)) st) :
    s24 [v, fv] st = some (.ret (.bool (xs.any p)), st) := by
  have hb := big_le
  have h1 := indexFn_loop H hx hf big 0 (by omega) (by omega)
  have h2 : s37 [v, fv] st = some (.ret (.int .i64 (idxF p xs 0)), st) := by
    rw [s37_eq]; unfold f37; simp only [H.len]; exact h1
  rw [s24_eq]; unfold f24
  simp only [H.er, he, h2, ret_ret, bin_geq, er1_bool, idxF_any]
theorem containsFn_s {xs : List Int} {t : Nat} {fv : V} {p : Int → Bool} (hx : xs.length ≤ 9223372036854775807) (he : fv.er1 = fv) (hf : ∀ x ∈ xs, ∀ K, A.call g37T fv [.int .i64 x] st K = K (.bool (p x)) st) :
    s24 [.lst (intsV xs) t, fv] st = some (.ret (.bool (xs.any p)), st) := containsFn_v (intsAt_lst _ _ _) hx he hf
theorem contains_s (xs : List Int) (t : Nat) (v : Int) (hx : xs.length ≤ 9223372036854775807) : s38 [.lst (intsV xs) t, .int .i64 v] st = some (.ret (.bool (decide (v ∈ xs))), st) := by
  have key : ∀ (n i : Nat), i ≤ xs.length → xs.length < n + i → g41b1010 n (.lst (intsV xs) t) (.int .i64 v) (.int .i64 (xs.length : Nat)) (.int .i64 (i : Nat)) st = some (.ret (.int .i64 (idxF (fun x => v == x) (xs.drop i) i)), st) := by
    intro n
    induction n with
    | zero => intro i hi hn; omega
    | succ n ih =>
      intro i hi hn
      unfold g41b1010
      by_cases h : i < xs.length
      · rw [List.drop_eq_getElem_cons h]
        simp only [bin_lss, show ((i : Int) < (xs.length : Int)) from by omega, decide_true, cond_true, iaddr_ints t h, load_l1', eql_int, Bool.false_eq_true, if_false]
        unfold idxF
        cases hp : v == xs[i] with
        | true => simp
        | false =>
          simp only [cond_false, bin_inc (show i < 9223372036854775807 by omega)]
          exact ih (i + 1) (by omega) (by omega)
      · have : i = xs.length := by omega
        subst this
        simp [idxF]
  have hb := big_le
  have h2 : s41 [.lst (intsV xs) t, .int .i64 v] st = some (.ret (.int .i64 (idxF (fun x => v == x) xs 0)), st) := by
    rw [s41_eq]; unfold f41; simp only [lenL_lst, intsV_len]; exact key big 0 (by omega) (by omega)
  rw [s38_eq]; unfold f38
  simp only [er1_lst, er1_int, h2, ret_ret, bin_geq, er1_bool, idxF_any]
  congr 4
  rw [Bool.eq_iff_iff]; simp
theorem in_s (xs : List Int) (t : Nat) (v : Int) (hx : xs.length ≤ 9223372036854775807) : s32 [.lst (intsV xs) t, .int .i64 v] st = some (.ret (.bool (decide (v ∈ xs))), st) := by
  have key : ∀ (n i : Nat), i ≤ xs.length → xs.length < n + i → g32b1010 n (.lst (intsV xs) t) (.int .i64 v) (.int .i64 (i : Nat)) st = some (.ret (.bool (decide (v ∈ xs.drop i))), st) := by
    intro n
    induction n with
    | zero => intro i hi hn; omega
    | succ n ih =>
      intro i hi hn
      unfold g32b1010
      by_cases h : i < xs.length
      · have e := List.drop_eq_getElem_cons h
        simp only [lenL_lst, intsV_len, bin_lss, show ((i : Int) < (xs.length : Int)) from by omega, decide_true, cond_true, iaddr_ints t h, load_l1', eql_int, Bool.false_eq_true, if_false]
        cases hp : xs[i] == v with
        | true => have : xs[i] = v := by simpa using hp
                  rw [e]; simp [this]
        | false =>
          have : xs[i] ≠ v := by simpa using hp
          simp only [cond_false, bin_inc (show i < 9223372036854775807 by omega)]
          rw [ih (i + 1) (by omega) (by omega), e]
          simp only [List.mem_cons, Ne.symm this, false_or]
      · have : i = xs.length := by omega
        subst this
        simp
  have hb := big_le
  rw [s32_eq]; exact key big 0 (by omega) (by omega)
theorem product_v {xs : List Int} {v : V} (H : IntsAt st v xs) (hx : xs.length ≤ 9223372036854775807) (hp : ∀ x ∈ xs, 1 ≤ x ∧ x ≤ 1048576) : s26 [v] st = some (.ret (.int .i64 (prodE xs 1)), st) := by
  have key : ∀ (n i : Nat) (a : Int), 1 ≤ a → a ≤ 64 → i ≤ xs.length → xs.length < n + i → g26b11010 n (.int .i64 a) (v) (.int .i64 (xs.length : Nat)) (.int .i64 (i : Nat)) st = some (.ret (.int .i64 (prodE (xs.drop i) a)), st) := by
    intro n
    induction n with
    | zero => intro i a _ _ hi hn; omega
    | succ n ih =>
      intro i a ha ha2 hi hn
      unfold g26b11010
      by_cases h : i < xs.length
      · have hxi := hp xs[i] (List.getElem_mem h)
        have h3 := mul_ge ha hxi.1
        have h4 : a * xs[i] ≤ 64 * 1048576 := Int.mul_le_mul ha2 hxi.2 (by omega) (by omega)
        rw [List.drop_eq_getElem_cons h]
        simp only [bin_lss, show ((i : Int) < (xs.length : Int)) from by omega, decide_true, cond_true, H.at_ _ h, bin_mul _ (show -9223372036854775808 ≤ a * xs[i] by omega) (show a * xs[i] ≤ 9223372036854775807 by omega), bin_gtr]
        unfold prodE
        by_cases hg : 64 < a * xs[i]
        · simp [hg]
        · simp only [hg, decide_false, cond_false, if_false, bin_inc (show i < 9223372036854775807 by omega)]
          exact ih (i + 1) _ (by omega) (by omega) (by omega) (by omega)
      · have : i = xs.length := by omega
        subst this
        simp [prodE]
  have hb := big_le
  rw [s26_eq]; unfold f26; simp only [H.len]
  exact key big 0 1 (by omega) (by omega) (by omega) (by omega)
theorem product_s {xs : List Int} {t : Nat} (hx : xs.length ≤ 9223372036854775807) (hp : ∀ x ∈ xs, 1 ≤ x ∧ x ≤ 1048576) : s26 [.lst (intsV xs) t] st = some (.ret (.int .i64 (prodE xs 1)), st) := product_v (intsAt_lst _ _ _) hx hp
theorem may_v {xs : List Int} {v : V} (H : IntsAt st v xs) (hx : xs.length ≤ 9223372036854775807) : s31 [v] st = some (.ret (.bool (mayB xs)), st) := by
  have hc := containsFn_v H (fv := .fn 39 [] []) (p := odd) hx rfl (fun x _ K => by rw [show A.call g37T (.fn 39 [] []) [.int .i64 x] st K = A.ret (s39 [.int .i64 x] st) K from rfl, may1_s]; rfl)
  rw [s31_eq]; unfold f31
  simp only [H.len, bin_leq]
  by_cases h : xs.length ≤ 16
  · have h16 : ((xs.length : Int) ≤ 16) := by omega
    simp only [h16, decide_true, guard_tt, H.er, er1_fn, hc, ret_ret, un_not, g31b110_10]
    cases ho : xs.any odd with
    | true => simp [mayB, ho]
    | false =>
      have h1 := odd_not ho
      have hp := product_v H hx (fun x hx => ⟨(h1 x hx).1, by have := (h1 x hx).2; omega⟩)
      simp [hp, mayB, ho, h, H.er]
  · have h16 : ¬ ((xs.length : Int) ≤ 16) := by omega
    simp [h16, g31b110_10, mayB, h]
theorem may_s (xs : List Int) (t : Nat) (hx : xs.length ≤ 9223372036854775807) : s31 [.lst (intsV xs) t] st = some (.ret (.bool (mayB xs)), st) := may_v (intsAt_lst _ _ _) hx
theorem cells_v {xs : List Int} {v : V} (H : IntsAt st v xs) (hx : xs.length ≤ 9223372036854775807) : s16 [v] st = some (.ret (if mayB xs then .tup [.int .i64 (pr xs), .int .i64 0] else .tup [.int .i64 0, .int .i64 1]), st) := by
  rw [s16_eq]; unfold f16
  simp only [H.er, may_v H hx, ret_ret, un_not]
  cases hm : mayB xs with
  | false => simp
  | true =>
    have M := mayB_may.1 hm
    have hp := product_v H hx (fun x hx => ⟨(M.each x hx).1, by have := (M.each x hx).2; omega⟩)
    simp [hp, M.prodE, H.er]
theorem cells_s (xs : List Int) (t : Nat) (hx : xs.length ≤ 9223372036854775807) : s16 [.lst (intsV xs) t] st = some (.ret (if mayB xs then .tup [.int .i64 (pr xs), .int .i64 0] else .tup [.int .i64 0, .int .i64 1]), st) := cells_v (intsAt_lst _ _ _) hx
theorem rmay_s (xs : List Int) (t : Nat) (hx : xs.length ≤ 9223372036854775807) : s15 [.lst (intsV xs) t] st = some (.ret (.bool (mayB xs)), st) := by
  have key : ∀ (n i : Nat), i ≤ xs.length → xs.length < n + i → (∀ x ∈ xs.take i, 1 ≤ x ∧ x ≤ 64) → pr (xs.take i) ≤ 64 * 64 →
      g15b11010 n (.lst (intsV xs) t) (.int .i64 (pr (xs.take i))) (.int .i64 (i : Nat)) st = some (.ret (.bool (mayB xs)), st) := by
    intro n
    induction n with
    | zero => intro i hi hn; omega
    | succ n ih =>
      intro i hi hn hall hpr
      unfold g15b11010
      by_cases h : i < xs.length
      · have hi1 : ((i : Int) < (xs.length : Int)) := by omega
        have et : xs.take (i + 1) = xs.take i ++ [xs[i]] := by rw [List.take_add_one, List.getElem?_eq_getElem h]; rfl
        have hp1 := pr_pos (l := xs.take i) fun x hx => (hall x hx).1
        simp only [lenL_lst, intsV_len, bin_lss, hi1, decide_true, cond_true, iaddr_ints t h, load_l1', g15b11010010000_6, g15b11010010000_13, bin_gtr]
        by_cases ho : odd xs[i] = true
        · have hm : mayB xs = false := by
            have : xs.any odd = true := List.any_eq_true.2 ⟨_, List.getElem_mem h, ho⟩
            simp [mayB, this]
          rw [hm]
          simp only [odd, Bool.or_eq_true, decide_eq_true_eq] at ho
          by_cases h1 : xs[i] < 1
          · simp [h1]
          · have : 64 < xs[i] := by omega
            simp [h1, this]
        · simp only [odd, Bool.or_eq_true, decide_eq_true_eq, not_or] at ho
          simp only [ho.1, ho.2, decide_false, guard_ff]
          by_cases hg : 64 < pr (xs.take i)
          · have hm : mayB xs = false := by
              rw [Bool.eq_false_iff]; intro hm
              have M := mayB_may.1 hm
              have := M.prod
              rw [← List.take_append_drop i xs, pr_app] at this
              have h2 := pr_pos (l := xs.drop i) fun x hx => (M.each x (List.mem_of_mem_drop hx)).1
              have := mul_ge hp1 h2
              omega
            simp [hg, hm]
          · have h3 := mul_ge hp1 (show 1 ≤ xs[i] by omega)
            have h4 : pr (xs.take i) * xs[i] ≤ 64 * 64 := Int.mul_le_mul (by omega) (by omega) (by omega) (by omega)
            have e2 : pr (xs.take (i + 1)) = pr (xs.take i) * xs[i] := by rw [et, pr_app]; simp [pr]
            simp only [hg, decide_false, cond_false, bin_mul _ (show -9223372036854775808 ≤ pr (xs.take i) * xs[i] by omega) (show pr (xs.take i) * xs[i] ≤ 9223372036854775807 by omega), bin_inc (show i < 9223372036854775807 by omega)]
            rw [← e2]
            refine ih (i + 1) (by omega) (by omega) ?_ (by rw [e2]; exact h4)
            intro x hx
            rw [et] at hx
            rcases List.mem_append.1 hx with g | g
            · exact hall x g
            · have : x = xs[i] := by simpa using g
              subst this; omega
      · have : i = xs.length := by omega
        subst this
        rw [List.take_length] at hall hpr ⊢
        have hm : mayB xs = (decide (xs.length ≤ 16) && decide (pr xs ≤ 64)) := by
          have : xs.any odd = false := List.any_eq_false.2 fun x hx => by have := hall x hx; simp [odd]; omega
          unfold mayB; rw [this]
          have := (prodE_le fun x hx => (hall x hx).1).1
          simp [this]
        rw [hm]
        by_cases h16 : xs.length ≤ 16
        · have h16' : ((xs.length : Int) ≤ 16) := by omega
          simp [h16, h16']
        · have h16' : ¬ ((xs.length : Int) ≤ 16) := by omega
          simp [h16, h16']
  have hb := big_le
  rw [s15_eq]; unfold f15
  have := key big 0 (by omega) (by omega) (by simp) (by simp [pr])
  simpa [pr] using this
theorem rcells_s (xs : List Int) (t : Nat) (hx : xs.length ≤ 9223372036854775807) : s20 [.lst (intsV xs) t] st = some (.ret (if mayB xs then .tup [.int .i64 (pr xs), .int .i64 0] else .tup [.int .i64 0, .int .i64 1]), st) := by
  rw [s20_eq]; unfold f20
  simp only [er1_lst, rmay_s xs t hx, ret_ret, un_not]
  cases hm : mayB xs with
  | false => simp
  | true =>
    have M := mayB_may.1 hm
    have key : ∀ (n i : Nat), i ≤ xs.length → xs.length < n + i → g20b111010 n (.lst (intsV xs) t) (.int .i64 (pr (xs.take i))) (.int .i64 (i : Nat)) st = some (.ret (.tup [.int .i64 (pr xs), .int .i64 0]), st) := by
      intro n
      induction n with
      | zero => intro i hi hn; omega
      | succ n ih =>
        intro i hi hn
        unfold g20b111010
        by_cases h : i < xs.length
        · have et : xs.take (i + 1) = xs.take i ++ [xs[i]] := by rw [List.take_add_one, List.getElem?_eq_getElem h]; rfl
          have e2 : pr (xs.take (i + 1)) = pr (xs.take i) * xs[i] := by rw [et, pr_app]; simp [pr]
          have hp1 := pr_pos (l := xs.take (i + 1)) fun x hx => (M.each x (List.mem_of_mem_take hx)).1
          have hp2 : pr (xs.take (i + 1)) ≤ 64 := by
            have := M.prod
            rw [← List.take_append_drop (i + 1) xs, pr_app] at this
            have h2 := pr_pos (l := xs.drop (i + 1)) fun x hx => (M.each x (List.mem_of_mem_drop hx)).1
            have := mul_ge hp1 h2
            omega
          rw [e2] at hp1 hp2
          simp only [lenL_lst, intsV_len, bin_lss, show ((i : Int) < (xs.length : Int)) from by omega, decide_true, cond_true, iaddr_ints t h, load_l1', bin_mul _ (show -9223372036854775808 ≤ pr (xs.take i) * xs[i] by omega) (show pr (xs.take i) * xs[i] ≤ 9223372036854775807 by omega), bin_inc (show i < 9223372036854775807 by omega)]
          rw [← e2]
          exact ih (i + 1) (by omega) (by omega)
        · have : i = xs.length := by omega
          subst this
          simp
    have hb := big_le
    have := key big 0 (by omega) (by omega)
    simpa [pr] using this
theorem part_s (w : List UInt8) (hw : w.length ≤ 4611686018427387900) (k : Int) : s21 [.str w, .int .i64 k] st = some (.ret (.int .i64 (if k < 1 ∨ 64 < k then 0 else (Crc.sum (w ++ [35]) : Int) % k)), st) := by
  have hl := Crc.sum_lt (w ++ [35])
  rw [s21_eq]; unfold f21
  simp only [bin_lss, bin_gtr, g21b11]
  by_cases h1 : k < 1
  · simp [h1]
  · by_cases h2 : 64 < k
    · simp [h1, h2]
    · have e1 : ∀ K, A.bin .add (.str w) (.str [35]) K = K (.str (w ++ [35])) := fun K => by simp [A.bin]; intro; omega
      have e2 := sum_s (w ++ [35]) (by simp; omega) st
      simp only [h1, h2, decide_false, guard_ff, cond_false, or_self, if_false, e1, er1_str, e2, ret_ret]
      rw [bin_rem _ (by omega), Int.tmod_eq_emod_of_nonneg (by omega)]
      rfl
theorem rpart_s (w : List UInt8) (hw : w.length ≤ 4611686018427387900) (k : Int) : s22 [.str w, .int .i64 k] st = some (.ret (.int .i64 (if k < 1 ∨ 64 < k then 0 else (Crc.sum (w ++ [35]) : Int) % k)), st) := by
  have hl := Crc.sum_lt (w ++ [35])
  rw [s22_eq]; unfold f22
  simp only [bin_lss, bin_gtr, g22b11]
  by_cases h1 : k < 1
  · simp [h1]
  · by_cases h2 : 64 < k
    · simp [h1, h2]
    · have e1 : ∀ K, A.bin .add (.str w) (.str [35]) K = K (.str (w ++ [35])) := fun K => by simp [A.bin]; intro; omega
      have e2 := rsum_s (w ++ [35]) (by simp; omega) st
      simp only [h1, h2, decide_false, guard_ff, cond_false, or_self, if_false, e1, er1_str, e2, ret_ret]
      rw [bin_rem _ (by omega), Int.tmod_eq_emod_of_nonneg (by omega)]
      rfl
theorem same_s (xs ys : List Int) (t u : Nat) (hx : xs.length ≤ 9223372036854775807) : s14 [.lst (intsV xs) t, .lst (intsV ys) u] st = some (.ret (.bool (decide (xs = ys))), st) := by
  rw [s14_eq]; unfold f14
  simp only [lenL_lst, intsV_len, eql_int, if_true]
  by_cases hl : xs.length = ys.length
  · have hb := big_le
    have key : ∀ (n i : Nat), i ≤ xs.length → xs.length < n + i → g14b11010 n (.lst (intsV xs) t) (.lst (intsV ys) u) (.int .i64 (i : Nat)) st = some (.ret (.bool (decide (xs.drop i = ys.drop i))), st) := by
      intro n
      induction n with
      | zero => intro i hi hn; omega
      | succ n ih =>
        intro i hi hn
        unfold g14b11010
        by_cases h : i < xs.length
        · have h' : i < ys.length := by omega
          have e1 := List.drop_eq_getElem_cons h
          have e2 := List.drop_eq_getElem_cons h'
          simp only [lenL_lst, intsV_len, bin_lss, show ((i : Int) < (xs.length : Int)) from by omega, decide_true, cond_true, iaddr_ints t h, iaddr_ints u h', load_l1', eql_int, if_true]
          cases hp : xs[i] != ys[i] with
          | true => have : xs[i] ≠ ys[i] := by simpa using hp
                    rw [e1, e2]; simp only [cond_true, er1_bool, List.cons.injEq, this, false_and, decide_false]
          | false =>
            have : xs[i] = ys[i] := by simpa using hp
            simp only [cond_false, bin_inc (show i < 9223372036854775807 by omega)]
            rw [ih (i + 1) (by omega) (by omega), e1, e2]
            simp only [List.cons.injEq, this, true_and]
        · have : i = xs.length := by omega
          subst this
          simp
          omega
    have hne : (((xs.length : Nat) : Int) != (ys.length : Nat)) = false := by simp [hl]
    rw [hne]
    have := key big 0 (by omega) (by omega)
    simpa using this
  · have hne : (((xs.length : Nat) : Int) != (ys.length : Nat)) = true := by simp; omega
    rw [hne]
    have : xs ≠ ys := fun e => hl (by rw [e])
    simp [this]
end Go.Ab
