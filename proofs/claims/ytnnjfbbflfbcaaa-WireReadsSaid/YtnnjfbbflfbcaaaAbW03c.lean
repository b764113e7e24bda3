import Derived.Test.YtnnjfbbflfbcaaaAbW03b
/- sinew/octet: lists that are read. -/
namespace Go.Ab
open Go.RowKit Go.Oct
set_option linter.unusedVariables false
set_option linter.unusedSimpArgs false

def L3 (x : List (List UInt8) × Nat × Nat) : V := .tup [.lst (strsV x.1) 0, .int .i64 (x.2.1 : Nat), .int .i64 (x.2.2 : Nat)]
theorem strL_3 (l : List UInt8) : (strL l).2.2 = 0 ∨ (strL l).2.2 = 10 ∨ (strL l).2.2 = 11 ∨ (strL l).2.2 = 12 := by
  unfold strL
  split
  · split
    · simp
    · split <;> simp
  · rcases numL_3 l with h | h | h <;> simp [h]
@[simp] theorem bslice_str1 (x : List UInt8) (K : V → Res) : A.bslice 1 (.str []) 1 [(0, .str x)] K = K (.lst (strsV [x]) 2) := by simp [A.bslice, setP, strsV, V.er, List.replicate]
theorem err_ne {e : Nat} (h : e ≠ 0) : (((e : Nat) : Int) != 0) = true := by simp; omega
theorem drop_len {s : List UInt8} {a : Nat} (hs : s.length ≤ 4611686018427387903) : (s.drop a).length ≤ 4611686018427387903 := by simp; omega
theorem list_loop (s : List UInt8) (hs : s.length ≤ 4611686018427387903) (k : Nat) (hk : k ≤ 4096) (st0 : St) : ∀ (n i at_ : Nat) (acc : List (List UInt8)) (t : Nat) (st : St), i ≤ k → k < n + i → at_ ≤ s.length → acc.length = i → Own st0 st 1 t → Ks st0 st →
    ∃ v st', g38b1111010 n (.str s) (.lst (strsV acc) t) (.int .i64 (at_ : Nat)) (.int .i64 (k : Nat)) (.int .i64 (i : Nat)) st = some (.ret v, st') ∧ Ks st0 st' ∧ v.era = L3 (goL s (k - i) at_ acc) := by
  intro n
  induction n with
  | zero => intro i at_ acc t st hi hn; omega
  | succ n ih =>
    intro i at_ acc t st hi hn hat hacc ho hks
    unfold g38b1111010
    by_cases h : i < k
    · obtain ⟨d, hd⟩ : ∃ d, k - i = d + 1 := ⟨k - i - 1, by omega⟩
      simp only [bin_lss, show ((i : Int) < (k : Int)) from by omega, decide_true, cond_true, sliceS_from hat, er1_str, str_s _ (drop_len hs), ret_ret, S3, ext_0, ext_1, ext_2]
      rw [hd]
      unfold goL g38b1111010011001
      by_cases h0 : (strL (s.drop at_)).2.2 = 0
      · have hu := strL_used h0
        simp only [List.length_drop] at hu
        rw [if_pos h0]
        have e3 : ∀ K, A.bin .add (.int .i64 (at_ : Nat)) (.int .i64 ((strL (s.drop at_)).2.1 : Nat)) K = K (.int .i64 ((at_ + (strL (s.drop at_)).2.1 : Nat) : Int)) := fun K => bin_addN _ _ K (by omega)
        have e4 : ∀ K, A.bin .add (.int .i64 (i : Nat)) (.int .i64 1) K = K (.int .i64 ((i + 1 : Nat) : Int)) := fun K => bin_inc (by omega) K
        simp only [h0, eql_int, if_true, show (((0 : Nat) : Int) != 0) = false from rfl, cond_false, bslice_str1, elemsOf_strs]
        rw [app_own _ ho (by simp; omega) (szok_strs _)]
        simp only [e3, e4, ← strsV_app]
        obtain ⟨k2, o2⟩ := ho.app hks
        have := ih (i + 1) (at_ + (strL (s.drop at_)).2.1) (acc ++ [(strL (s.drop at_)).1]) (st.nt + 3) _ (by omega) (by omega) (by omega) (by simp [hacc]) o2 k2
        rw [show k - (i + 1) = d by omega] at this
        exact this
      · rw [if_neg h0]
        simp only [eql_int, if_true, err_ne h0, cond_true, er1_lst, er1_int]
        exact ⟨_, _, rfl, hks, by simp [L3]⟩
    · have : i = k := by omega
      subst this
      simp only [bin_lss, Int.lt_irrefl, decide_false, cond_false, er1_lst, er1_int]
      exact ⟨_, _, rfl, hks, by simp [L3, goL]⟩
theorem list_s (s : List UInt8) (hs : s.length ≤ 4611686018427387903) (st : St) : s38 [.str s] st = some (.ret (L3 (listL s)), st) := by
  rw [s38_eq]
  have key : ∃ v st', f38 (.str s) st = some (.ret v, st') ∧ Ks st st' ∧ v.era = L3 (listL s) := by
    unfold f38 g38b11
    simp only [er1_str, num_s s hs, ret_ret, N3, ext_0, ext_1, ext_2, eql_int, if_true, er1_int]
    unfold listL
    by_cases h0 : (numL s).2.2 = 0
    · have hu := numL_used h0
      rw [if_pos h0]
      simp only [h0, show (((0 : Nat) : Int) != 0) = false from rfl, cond_false, bin_gtr]
      by_cases h1 : 4096 < (numL s).1
      · rw [if_pos h1]
        simp only [show ((4096 : Int) < ((numL s).1 : Int)) from by omega, decide_true, cond_true, er1_lst]
        exact ⟨_, _, rfl, Ks.refl st, by simp [L3]⟩
      · rw [if_neg h1]
        simp only [show ¬ ((4096 : Int) < ((numL s).1 : Int)) from by omega, decide_false, cond_false]
        unfold g38b1111
        exact list_loop s hs (numL s).1 (by omega) st big 0 (numL s).2.1 [] 1 st (by omega) (by have := big_le; omega) (by omega) rfl (Own.nil _ _ _) (Ks.refl st)
    · rw [if_neg h0]
      simp only [err_ne h0, cond_true, er1_lst]
      exact ⟨_, _, rfl, Ks.refl st, by simp [L3]⟩
  obtain ⟨v, st', h1, h2, h3⟩ := key
  have := fg_of h1 h2 (by rw [h3]; simp [L3])
  rw [h3] at this
  exact this
theorem rlist_loop (s : List UInt8) (hs : s.length ≤ 4611686018427387903) (k : Nat) (hk : k ≤ 4096) (st0 : St) : ∀ (n i at_ : Nat) (acc : List (List UInt8)) (t : Nat) (st : St), i ≤ k → k < n + i → at_ ≤ s.length → acc.length = i → Own st0 st 1 t → Ks st0 st →
    ∃ v st', g41b11111010 n (.str s) (.int .i64 (k : Nat)) (.int .i64 (at_ : Nat)) (.lst (strsV acc) t) (.int .i64 (i : Nat)) st = some (.ret v, st') ∧ Ks st0 st' ∧ v.era = L3 (goL s (k - i) at_ acc) := by
  intro n
  induction n with
  | zero => intro i at_ acc t st hi hn; omega
  | succ n ih =>
    intro i at_ acc t st hi hn hat hacc ho hks
    unfold g41b11111010
    by_cases h : i < k
    · obtain ⟨d, hd⟩ : ∃ d, k - i = d + 1 := ⟨k - i - 1, by omega⟩
      simp only [bin_lss, show ((i : Int) < (k : Int)) from by omega, decide_true, cond_true, sliceS_from hat, er1_str, rstr_s _ (drop_len hs), ret_ret, S3, ext_0, ext_1, ext_2]
      rw [hd]
      unfold goL g41b1111101001001
      by_cases h0 : (strL (s.drop at_)).2.2 = 0
      · have hu := strL_used h0
        simp only [List.length_drop] at hu
        rw [if_pos h0]
        have e3 : ∀ K, A.bin .add (.int .i64 (at_ : Nat)) (.int .i64 ((strL (s.drop at_)).2.1 : Nat)) K = K (.int .i64 ((at_ + (strL (s.drop at_)).2.1 : Nat) : Int)) := fun K => bin_addN _ _ K (by omega)
        have e4 : ∀ K, A.bin .add (.int .i64 (i : Nat)) (.int .i64 1) K = K (.int .i64 ((i + 1 : Nat) : Int)) := fun K => bin_inc (by omega) K
        simp only [h0, eql_int, if_true, show (((0 : Nat) : Int) != 0) = false from rfl, cond_false, bslice_str1, elemsOf_strs]
        rw [app_own _ ho (by simp; omega) (szok_strs _)]
        simp only [e3, e4, ← strsV_app]
        obtain ⟨k2, o2⟩ := ho.app hks
        have := ih (i + 1) (at_ + (strL (s.drop at_)).2.1) (acc ++ [(strL (s.drop at_)).1]) (st.nt + 3) _ (by omega) (by omega) (by omega) (by simp [hacc]) o2 k2
        rw [show k - (i + 1) = d by omega] at this
        exact this
      · rw [if_neg h0]
        simp only [eql_int, if_true, err_ne h0, cond_true, er1_lst, er1_int]
        exact ⟨_, _, rfl, hks, by simp [L3]⟩
    · have : i = k := by omega
      subst this
      simp only [bin_lss, Int.lt_irrefl, decide_false, cond_false, er1_lst, er1_int]
      exact ⟨_, _, rfl, hks, by simp [L3, goL]⟩
theorem rlist_s (s : List UInt8) (hs : s.length ≤ 4611686018427387903) (st : St) : s41 [.str s] st = some (.ret (L3 (listL s)), st) := by
  rw [s41_eq]
  have key : ∃ v st', f41 (.str s) st = some (.ret v, st') ∧ Ks st st' ∧ v.era = L3 (listL s) := by
    unfold f41 g41b11
    simp only [er1_str, rnum_s s hs, ret_ret, N3, ext_0, ext_1, ext_2, eql_int, if_true, er1_int]
    unfold listL
    by_cases h0 : (numL s).2.2 = 0
    · have hu := numL_used h0
      rw [if_pos h0]
      simp only [h0, show (((0 : Nat) : Int) != 0) = false from rfl, cond_false, bin_gtr]
      by_cases h1 : 4096 < (numL s).1
      · rw [if_pos h1]
        simp only [show ((4096 : Int) < ((numL s).1 : Int)) from by omega, decide_true, cond_true, er1_lst]
        exact ⟨_, _, rfl, Ks.refl st, by simp [L3]⟩
      · rw [if_neg h1]
        simp only [show ¬ ((4096 : Int) < ((numL s).1 : Int)) from by omega, decide_false, cond_false]
        unfold g41b1111
        exact rlist_loop s hs (numL s).1 (by omega) st big 0 (numL s).2.1 [] 1 st (by omega) (by have := big_le; omega) (by omega) rfl (Own.nil _ _ _) (Ks.refl st)
    · rw [if_neg h0]
      simp only [err_ne h0, cond_true, er1_lst]
      exact ⟨_, _, rfl, Ks.refl st, by simp [L3]⟩
  obtain ⟨v, st', h1, h2, h3⟩ := key
  have := fg_of h1 h2 (by rw [h3]; simp [L3])
  rw [h3] at this
  exact this
/-! ### sinewref01.Same -/
theorem same_loop (a b : List (List UInt8)) (t u : Nat) (hl : a.length = b.length) (hm : a.length ≤ 9223372036854775806) (st : St) : ∀ (n i : Nat), i ≤ a.length → a.length < n + i →
    g28b11010 n (.lst (strsV a) t) (.lst (strsV b) u) (.int .i64 (i : Nat)) st = some (.ret (.bool (decide (a.drop i = b.drop i))), st) := by
  intro n
  induction n with
  | zero => intro i hi hn; omega
  | succ n ih =>
    intro i hi hn
    unfold g28b11010
    by_cases h : i < a.length
    · have e4 : ∀ K, A.bin .add (.int .i64 (i : Nat)) (.int .i64 1) K = K (.int .i64 ((i + 1 : Nat) : Int)) := fun K => bin_inc (by omega) K
      simp only [lenL_lst, strsV_len, bin_lss, show ((i : Int) < (a.length : Int)) from by omega, decide_true, cond_true, iaddr_strs t h, iaddr_strs u (show i < b.length by omega), load_l1', eql_str, if_true, e4]
      rw [List.drop_eq_getElem_cons h, List.drop_eq_getElem_cons (show i < b.length by omega)]
      by_cases h2 : a[i] = b[i]
      · simp only [h2, bne_self_eq_false, cond_false]
        rw [ih (i + 1) (by omega) (by omega)]
        simp only [List.cons.injEq, true_and]
      · have : (a[i] != b[i]) = true := by simp [h2]
        simp only [this, cond_true, er1_bool, List.cons.injEq, h2, false_and, decide_false]
    · have h1 : i = a.length := by omega
      subst h1
      simp only [lenL_lst, strsV_len, bin_lss, Int.lt_irrefl, decide_false, cond_false, er1_bool]
      rw [List.drop_length, hl, List.drop_length]; rfl
theorem same_s (a b : List (List UInt8)) (t u : Nat) (hm : a.length ≤ 9223372036854775806) (st : St) : s28 [.lst (strsV a) t, .lst (strsV b) u] st = some (.ret (.bool (decide (a = b))), st) := by
  rw [s28_eq]
  unfold f28
  simp only [lenL_lst, strsV_len, eql_int, if_true]
  by_cases h : a.length = b.length
  · have e : ((((a.length : Nat) : Int)) != (b.length : Int)) = false := by rw [h]; simp
    simp only [e, cond_false]
    have := same_loop a b t u h hm st big 0 (by omega) (lt_big (by omega))
    simpa using this
  · have e : ((((a.length : Nat) : Int)) != (b.length : Int)) = true := by simp; omega
    simp only [e, cond_true, er1_bool]
    congr 3
    have : a ≠ b := fun g => h (by rw [g])
    simp [this]
end Go.Ab
