import Derived.Test.YtnnjfbbflfbcaaaAbW03a
/- sinew/octet: texts and lists that are read; the reference's numbers. -/
namespace Go.Ab
open Go.RowKit Go.Oct
set_option linter.unusedVariables false
set_option linter.unusedSimpArgs false

theorem sliceS_from {s : List UInt8} {a : Nat} (h : a ≤ s.length) (K : V → Res) : A.sliceS (.str s) (some (.int .i64 (a : Nat))) none K = K (.str (s.drop a)) := by
  simp [A.sliceS, bnd, h]
theorem sliceS_part {s : List UInt8} {a b : Nat} (h : a ≤ b) (hb : b ≤ s.length) (K : V → Res) : A.sliceS (.str s) (some (.int .i64 (a : Nat))) (some (.int .i64 (b : Nat))) K = K (.str ((s.drop a).take (b - a))) := by
  simp [A.sliceS, bnd, h, hb, List.drop_take]
theorem sliceS_to {s : List UInt8} {b : Nat} (hb : b ≤ s.length) (K : V → Res) : A.sliceS (.str s) none (some (.int .i64 (b : Nat))) K = K (.str (s.take b)) := by
  simp [A.sliceS, bnd, hb]
theorem bin_subN (a b : Nat) (K : V → Res) (h : b ≤ a) (ha : a ≤ 9223372036854775807) : A.bin .sub (.int .i64 (a : Nat)) (.int .i64 (b : Nat)) K = K (.int .i64 ((a - b : Nat) : Int)) := by
  rw [bin_sub K (by omega) (by omega)]
  congr 2; omega
theorem bin_mulN (a b : Nat) (K : V → Res) (h : a * b ≤ 9223372036854775807) : A.bin .mul (.int .i64 (a : Nat)) (.int .i64 (b : Nat)) K = K (.int .i64 ((a * b : Nat) : Int)) := by
  rw [bin_mul K (by rw [← Int.natCast_mul]; omega) (by rw [← Int.natCast_mul]; omega)]
  rw [← Int.natCast_mul]
/-! ### sinewref01.Num -/
theorem rnum_loop (b : UInt8) (r : List UInt8) (k : Nat) (hk : k ≤ r.length) (h8 : k ≤ 8) (hl : r.length ≤ 4611686018427387903) (hv : ∀ j, j ≤ k → val (r.take j) < 9223372036854775808) (st : St) : ∀ (n i : Nat), i ≤ k → k < n + i →
    g40b1111111010 n (.str (b :: r)) (.int .i64 (k : Nat)) (.int .i64 (val (r.take i) : Nat)) (.int .i64 ((i + 1 : Nat) : Int)) st = some (.ret (N3 (val (r.take k), k + 1, 0)), st) := by
  intro n
  induction n with
  | zero => intro i hi hn; omega
  | succ n ih =>
    intro i hi hn
    have e9 : ∀ m : Nat, m ≤ 4611686018427387904 → ∀ K, A.bin .add (.int .i64 (m : Nat)) (.int .i64 1) K = K (.int .i64 ((m + 1 : Nat) : Int)) := fun m hm K => bin_inc (by omega) K
    by_cases h : i < k
    · have hir : i < r.length := by omega
      have hv1 := hv (i + 1) (by omega)
      have hb := r[i].toNat_lt
      have hval : val (r.take (i + 1)) = val (r.take i) * 256 + r[i].toNat := by rw [List.take_succ_eq_append_getElem hir, val_snoc]
      have e1 : ∀ K, A.bin .mul (.int .i64 (val (r.take i) : Nat)) (.int .i64 256) K = K (.int .i64 ((val (r.take i) * 256 : Nat) : Int)) := fun K => by
        rw [show (256 : Int) = ((256 : Nat) : Int) from rfl]; exact bin_mulN _ _ K (by omega)
      have e2 : ∀ K, A.idxS (.str (b :: r)) (.int .i64 ((i + 1 : Nat) : Int)) K = K (.int .u8 (r[i].toNat : Nat)) := fun K => by
        rw [idxS_at (show i + 1 < (b :: r).length by simp; omega)]; rfl
      have e3 : ∀ K, A.bin .add (.int .i64 ((val (r.take i) * 256 : Nat) : Int)) (.int .i64 (r[i].toNat : Nat)) K = K (.int .i64 ((val (r.take i) * 256 + r[i].toNat : Nat) : Int)) := fun K => bin_addN _ _ K (by omega)
      unfold g40b1111111010
      simp only [bin_leq, cond_true, show (((i + 1 : Nat) : Int) ≤ (k : Int)) from by omega, decide_true, e1, e9 (i + 1) (by omega), e2, toInt_u8, e3]
      rw [← hval]
      exact ih (i + 1) (by omega) (by omega)
    · have : i = k := by omega
      subst this
      unfold g40b1111111010
      simp only [bin_leq, show ¬ (((i + 1 : Nat) : Int) ≤ (i : Int)) from by omega, decide_false, cond_false, e9 i (by omega), er1_int]
      rfl
theorem rnum_s (s : List UInt8) (hs : s.length ≤ 4611686018427387903) (st : St) : s40 [.str s] st = some (.ret (N3 (numL s)), st) := by
  rw [s40_eq]
  cases s with
  | nil => unfold f40; simp [N3, numL]
  | cons b r =>
    have hb := b.toNat_lt
    have hr : r.length ≤ 4611686018427387903 := by simp at hs; omega
    have e0 : ((((b :: r).length : Nat) : Int) == 0) = false := by simp; omega
    have e1 : ∀ K, A.bin .sub (.int .i64 (((b :: r).length : Nat) : Int)) (.int .i64 1) K = K (.int .i64 (r.length : Nat)) := fun K => by
      rw [bin_sub K (by simp) (by simp; omega)]; congr 2; simp
    unfold f40
    simp only [lenS_str, eql_int, Bool.false_eq_true, if_false, e0, cond_false, idxS_0, toInt_u8]
    unfold g40b111
    simp only [bin_gtr, lenS_str, e1, bin_lss]
    rw [numL_cons]
    by_cases h1 : 8 < b.toNat
    · simp only [show ((8 : Int) < (b.toNat : Int)) from by omega, decide_true, cond_true, er1_int, if_pos h1]; rfl
    · simp only [show ¬ ((8 : Int) < (b.toNat : Int)) from by omega, decide_false, cond_false, if_neg h1]
      by_cases h2 : r.length < b.toNat
      · simp only [show ((r.length : Int) < (b.toNat : Int)) from by omega, decide_true, cond_true, er1_int, if_pos h2]; rfl
      · simp only [show ¬ ((r.length : Int) < (b.toNat : Int)) from by omega, decide_false, cond_false, if_neg h2]
        have go : badN b.toNat r = false → g40b111111 (.str (b :: r)) (.int .i64 (b.toNat : Nat)) st = some (.ret (N3 (val (r.take b.toNat), b.toNat + 1, 0)), st) := fun hbad => by
          unfold g40b111111
          have := rnum_loop b r b.toNat (by omega) (by omega) hr (fun j hj => val_fits b r (by omega) (by omega) hbad j hj) st big 0 (by omega) (by have := big_le; omega)
          simpa [val] using this
        unfold g40b11111
        simp only [bin_gtr]
        by_cases h3 : 0 < b.toNat
        · obtain ⟨c, r', rfl⟩ : ∃ c r', r = c :: r' := by
            cases r with
            | nil => simp at h2; omega
            | cons c r' => exact ⟨c, r', rfl⟩
          have hbad := badN_cons (c := c) (r := r') h3
          simp only [show ((0 : Int) < (b.toNat : Int)) from by omega, decide_true, guard_tt, idxS_1, eql_int, Bool.false_eq_true, if_false]
          unfold g40b1111100_8
          by_cases h4 : c.toNat = 0
          · have hbad' : badN b.toNat (c :: r') = true := by rw [hbad, h4]; rfl
            have h4z : (((c.toNat : Nat) : Int) == 0) = true := by rw [h4]; rfl
            rw [if_pos hbad']
            simp only [h4z, guard_tf, er1_int]; rfl
          · have h4' : ((c.toNat : Int) == 0) = false := by simp; omega
            have h4n : (c.toNat == 0) = false := by simp [h4]
            rw [h4n, Bool.false_or] at hbad
            by_cases h5 : b.toNat = 8
            · have h5' : ((b.toNat : Int) == 8) = true := by simp [h5]
              simp only [h4', guard_tt, guard_ft, guard_ff, guard_tf, eql_int, Bool.false_eq_true, if_false, h5', guardT_b, idxS_1, bin_gtr]
              by_cases h6 : 128 ≤ c.toNat
              · rw [if_pos (by rw [hbad]; simp [h5, h6])]
                simp only [show ((127 : Int) < (c.toNat : Int)) from by omega, decide_true, cond_true, er1_int]; rfl
              · have hb0 : badN b.toNat (c :: r') = false := by rw [hbad]; simp [h6]
                rw [if_neg (by rw [hb0]; simp)]
                simp only [show ¬ ((127 : Int) < (c.toNat : Int)) from by omega, decide_false, cond_false]
                exact go hb0
            · have h5' : ((b.toNat : Int) == 8) = false := by simp; omega
              have hb0 : badN b.toNat (c :: r') = false := by rw [hbad]; simp [h5]
              rw [if_neg (by rw [hb0]; simp)]
              simp only [h4', guard_tt, guard_ft, guard_ff, guard_tf, eql_int, Bool.false_eq_true, if_false, h5', guardT_b]
              exact go hb0
        · have hb0 : badN b.toNat r = false := by
            have : b.toNat = 0 := by omega
            simp [badN, this]
          rw [if_neg (by rw [hb0]; simp)]
          have h5' : ((b.toNat : Int) == 8) = false := by simp; omega
          simp only [show ¬ ((0 : Int) < (b.toNat : Int)) from by omega, decide_false, guard_tt, guard_ft, guard_ff, guard_tf, Bool.false_eq_true, if_false]
          unfold g40b1111100_8
          simp only [guard_tt, guard_ft, guard_ff, guard_tf, eql_int, Bool.false_eq_true, if_false, h5', guardT_b]
          exact go hb0
/-! ### octet.Str, sinewref01.Str -/
def S3 (x : List UInt8 × Nat × Nat) : V := .tup [.str x.1, .int .i64 (x.2.1 : Nat), .int .i64 (x.2.2 : Nat)]
theorem numL_3 (l : List UInt8) : (numL l).2.2 = 0 ∨ (numL l).2.2 = 10 ∨ (numL l).2.2 = 11 := by
  rcases numL_err l with h | h | h
  · exact .inl h
  · exact .inr (.inl h.1)
  · exact .inr (.inr h.1)
theorem str_s (s : List UInt8) (hs : s.length ≤ 4611686018427387903) (st : St) : s53 [.str s] st = some (.ret (S3 (strL s)), st) := by
  rw [s53_eq]
  unfold f53 g53b11
  simp only [er1_str, num_s s hs, ret_ret, N3, ext_0, ext_1, ext_2, eql_int, if_true, er1_int]
  unfold strL
  by_cases h0 : (numL s).2.2 = 0
  · have hu := numL_used h0
    have hlt := numL_lt h0
    have e1 : ((((numL s).2.2 : Nat) : Int) != 0) = false := by rw [h0]; rfl
    rw [if_pos h0]
    simp only [e1, cond_false, bin_gtr]
    by_cases h1 : 65536 < (numL s).1
    · rw [if_pos h1]
      simp only [show ((65536 : Int) < ((numL s).1 : Int)) from by omega, decide_true, cond_true]; rfl
    · rw [if_neg h1]
      have e2 : ∀ K, A.bin .sub (.int .i64 (s.length : Nat)) (.int .i64 ((numL s).2.1 : Nat)) K = K (.int .i64 ((s.length - (numL s).2.1 : Nat) : Int)) := fun K => bin_subN _ _ K (by omega) (by omega)
      simp only [show ¬ ((65536 : Int) < ((numL s).1 : Int)) from by omega, decide_false, cond_false, lenS_str, e2, bin_gtr]
      by_cases h2 : s.length - (numL s).2.1 < (numL s).1
      · rw [if_pos h2]
        simp only [show (((s.length - (numL s).2.1 : Nat) : Int) < ((numL s).1 : Int)) from by omega, decide_true, cond_true]; rfl
      · rw [if_neg h2]
        have e3 : ∀ K, A.bin .add (.int .i64 ((numL s).2.1 : Nat)) (.int .i64 ((numL s).1 : Nat)) K = K (.int .i64 (((numL s).2.1 + (numL s).1 : Nat) : Int)) := fun K => bin_addN _ _ K (by omega)
        simp only [show ¬ (((s.length - (numL s).2.1 : Nat) : Int) < ((numL s).1 : Int)) from by omega, decide_false, cond_false]
        unfold g53b111
        simp only [e3, sliceS_part (show (numL s).2.1 ≤ (numL s).2.1 + (numL s).1 by omega) (show (numL s).2.1 + (numL s).1 ≤ s.length by omega), er1_str, er1_int]
        rw [show (numL s).2.1 + (numL s).1 - (numL s).2.1 = (numL s).1 by omega]; rfl
  · have e1 : ((((numL s).2.2 : Nat) : Int) != 0) = true := by
      rcases numL_3 s with h | h | h
      · exact absurd h h0
      · rw [h]; rfl
      · rw [h]; rfl
    rw [if_neg h0]
    simp only [e1, cond_true]; rfl
theorem rstr_s (s : List UInt8) (hs : s.length ≤ 4611686018427387903) (st : St) : s58 [.str s] st = some (.ret (S3 (strL s)), st) := by
  rw [s58_eq]
  unfold f58 g58b11
  simp only [er1_str, rnum_s s hs, ret_ret, N3, ext_0, ext_1, ext_2, eql_int, if_true, er1_int]
  unfold strL
  by_cases h0 : (numL s).2.2 = 0
  · have hu := numL_used h0
    have hlt := numL_lt h0
    have e1 : ((((numL s).2.2 : Nat) : Int) != 0) = false := by rw [h0]; rfl
    rw [if_pos h0]
    simp only [e1, cond_false, bin_gtr]
    by_cases h1 : 65536 < (numL s).1
    · rw [if_pos h1]
      simp only [show ((65536 : Int) < ((numL s).1 : Int)) from by omega, decide_true, cond_true]; rfl
    · rw [if_neg h1]
      have e2 : ∀ K, A.bin .sub (.int .i64 (s.length : Nat)) (.int .i64 ((numL s).2.1 : Nat)) K = K (.int .i64 ((s.length - (numL s).2.1 : Nat) : Int)) := fun K => bin_subN _ _ K (by omega) (by omega)
      simp only [show ¬ ((65536 : Int) < ((numL s).1 : Int)) from by omega, decide_false, cond_false]
      unfold g58b1111
      simp only [lenS_str, e2, bin_gtr]
      by_cases h2 : s.length - (numL s).2.1 < (numL s).1
      · rw [if_pos h2]
        simp only [show (((s.length - (numL s).2.1 : Nat) : Int) < ((numL s).1 : Int)) from by omega, decide_true, cond_true]; rfl
      · rw [if_neg h2]
        have e3 : ∀ K, A.bin .add (.int .i64 ((numL s).2.1 : Nat)) (.int .i64 ((numL s).1 : Nat)) K = K (.int .i64 (((numL s).2.1 + (numL s).1 : Nat) : Int)) := fun K => bin_addN _ _ K (by omega)
        simp only [show ¬ (((s.length - (numL s).2.1 : Nat) : Int) < ((numL s).1 : Int)) from by omega, decide_false, cond_false, e3, sliceS_part (show (numL s).2.1 ≤ (numL s).2.1 + (numL s).1 by omega) (show (numL s).2.1 + (numL s).1 ≤ s.length by omega), er1_str, er1_int]
        rw [show (numL s).2.1 + (numL s).1 - (numL s).2.1 = (numL s).1 by omega]; rfl
  · have e1 : ((((numL s).2.2 : Nat) : Int) != 0) = true := by
      rcases numL_3 s with h | h | h
      · exact absurd h h0
      · rw [h]; rfl
      · rw [h]; rfl
    rw [if_neg h0]
    simp only [e1, cond_true]; rfl
end Go.Ab
