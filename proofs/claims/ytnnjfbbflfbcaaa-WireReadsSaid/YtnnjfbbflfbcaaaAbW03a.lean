import Derived.Test.YtnnjfbbflfbcaaaAbP034
import Derived.Test.YtnnjfbbflfbcaaaAbSpec
import Derived.Test.YtnnjfbbflfbcaaaAbOct
/- sinew/octet: what is read. -/
namespace Go.Ab
open Go.RowKit Go.Oct
set_option linter.unusedVariables false
set_option linter.unusedSimpArgs false

theorem bin_shl64 (x j : Nat) (K : V → Res) (hj : j ≤ 64) (h : x * 2 ^ j ≤ 9223372036854775807) : A.bin .shl (.int .i64 (x : Nat)) (.int .u64 (j : Nat)) K = K (.int .i64 ((x * 2 ^ j : Nat) : Int)) := by
  have : ¬ ((j : Int) < 0) := by omega
  simp only [A.bin, this, if_false, Int.toNat_natCast]
  rw [show min j IntKind.i64.bits = j by simp [IntKind.bits]; omega]
  have e : ((x : Int) * 2 ^ j) = ((x * 2 ^ j : Nat) : Int) := by push_cast; rfl
  rw [e, wrap_i64 (by omega) (by omega)]
theorem bin_orJ (x y j : Nat) (K : V → Res) (hy : y < 2 ^ j) (h : x * 2 ^ j + y ≤ 9223372036854775807) : A.bin .or (.int .i64 ((x * 2 ^ j : Nat) : Int)) (.int .i64 (y : Nat)) K = K (.int .i64 ((x * 2 ^ j + y : Nat) : Int)) := by
  simp only [A.bin, if_true]
  have h1 : (BitVec.ofInt IntKind.i64.bits ((x * 2 ^ j : Nat) : Int)).toNat = x * 2 ^ j := by
    rw [BitVec.toNat_ofInt, show IntKind.i64.bits = 64 from rfl]
    generalize x * 2 ^ j = m at h ⊢
    simp; omega
  have h2 : (BitVec.ofInt IntKind.i64.bits (y : Int)).toNat = y := by rw [BitVec.toNat_ofInt, show IntKind.i64.bits = 64 from rfl]; simp; omega
  rw [BitVec.toNat_or, h1, h2]
  have e : x * 2 ^ j ||| y = x * 2 ^ j + y := by
    have := Nat.shiftLeft_add_eq_or_of_lt hy x
    rw [Nat.shiftLeft_eq] at this
    exact this.symm
  rw [e, wrap_i64 (by omega) (by omega)]
theorem idxS_0 (b : UInt8) (r : List UInt8) (K : V → Res) : A.idxS (.str (b :: r)) (.int .i64 0) K = K (.int .u8 (b.toNat : Nat)) := rfl
theorem idxS_1 (b c : UInt8) (r : List UInt8) (K : V → Res) : A.idxS (.str (b :: c :: r)) (.int .i64 1) K = K (.int .u8 (c.toNat : Nat)) := rfl
theorem toInt_u8 (b : UInt8) (K : V → Res) : A.toInt .i64 (.int .u8 (b.toNat : Nat)) K = K (.int .i64 (b.toNat : Nat)) := by
  have := b.toNat_lt
  simp only [A.toInt]; rw [wrap_i64 (by omega) (by omega)]
def N3 (x : Nat × Nat × Nat) : V := .tup [.int .i64 (x.1 : Nat), .int .i64 (x.2.1 : Nat), .int .i64 (x.2.2 : Nat)]
theorem badN_cons {k : Nat} {c : UInt8} {r : List UInt8} (h : 0 < k) : badN k (c :: r) = (c.toNat == 0 || (k == 8 && decide (128 ≤ c.toNat))) := by
  simp [badN, h]
/-! ### octet.Num -/
theorem num_loop (b : UInt8) (r : List UInt8) (k : Nat) (hk : k ≤ r.length) (h8 : k ≤ 8) (hl : r.length ≤ 4611686018427387903) (hv : ∀ j, j ≤ k → val (r.take j) < 9223372036854775808) (st : St) : ∀ (n i : Nat), i ≤ k → k < n + i →
    g36b1111010 n (.str (b :: r)) (.int .i64 (val (r.take i) : Nat)) (.int .i64 (k : Nat)) (.int .i64 (k : Nat)) (.int .i64 (i : Nat)) st = some (.ret (N3 (val (r.take k), k + 1, 0)), st) := by
  intro n
  induction n with
  | zero => intro i hi hn; omega
  | succ n ih =>
    intro i hi hn
    have e9 : ∀ m : Nat, m ≤ 4611686018427387903 → ∀ K, A.bin .add (.int .i64 (m : Nat)) (.int .i64 1) K = K (.int .i64 ((m + 1 : Nat) : Int)) := fun m hm K => bin_inc (by omega) K
    by_cases h : i < k
    · have hir : i < r.length := by omega
      have hv1 := hv (i + 1) (by omega)
      have hb := r[i].toNat_lt
      have hval : val (r.take (i + 1)) = val (r.take i) * 256 + r[i].toNat := by rw [List.take_succ_eq_append_getElem hir, val_snoc]
      have e1 : ∀ K, A.bin .shl (.int .i64 (val (r.take i) : Nat)) (.int .u64 8) K = K (.int .i64 ((val (r.take i) * 2 ^ 8 : Nat) : Int)) := fun K => by
        rw [show (8 : Int) = ((8 : Nat) : Int) from rfl]; exact bin_shl64 _ 8 K (by omega) (by omega)
      have e2 : ∀ K, A.idxS (.str (b :: r)) (.int .i64 ((i + 1 : Nat) : Int)) K = K (.int .u8 (r[i].toNat : Nat)) := fun K => by
        rw [idxS_at (show i + 1 < (b :: r).length by simp; omega)]; rfl
      have e3 : ∀ K, A.bin .or (.int .i64 ((val (r.take i) * 2 ^ 8 : Nat) : Int)) (.int .i64 (r[i].toNat : Nat)) K = K (.int .i64 ((val (r.take i) * 2 ^ 8 + r[i].toNat : Nat) : Int)) := fun K => bin_orJ _ _ 8 K (by omega) (by omega)
      unfold g36b1111010
      simp only [bin_lss, cond_true, show ((i : Int) < (k : Int)) from by omega, decide_true, e1, e9 i (by omega), e2, toInt_u8, e3]
      rw [show val (r.take i) * 2 ^ 8 + r[i].toNat = val (r.take (i + 1)) by omega]
      exact ih (i + 1) (by omega) (by omega)
    · have : i = k := by omega
      subst this
      unfold g36b1111010
      simp only [bin_lss, Int.lt_irrefl, decide_false, cond_false, e9 i (by omega), er1_int]
      rfl
theorem num_s (s : List UInt8) (hs : s.length ≤ 4611686018427387903) (st : St) : s36 [.str s] st = some (.ret (N3 (numL s)), st) := by
  rw [s36_eq]
  cases s with
  | nil => unfold f36; simp [N3, numL]
  | cons b r =>
    have hb := b.toNat_lt
    have hr : r.length ≤ 4611686018427387903 := by simp at hs; omega
    have e0 : ((b :: r) == ([] : List UInt8)) = false := rfl
    have c1 : (((b :: r).length : Nat) : Int) = (r.length : Int) + 1 := by simp
    unfold f36
    simp only [eql_str, Bool.false_eq_true, if_false, e0, cond_false, idxS_0, bin_gtr, lenS_str, toInt_u8, bin_leq, c1]
    rw [numL_cons]
    by_cases h1 : 8 < b.toNat
    · simp only [show ((8 : Int) < (b.toNat : Int)) from by omega, decide_true, cond_true, er1_int, if_pos h1]; rfl
    · simp only [show ¬ ((8 : Int) < (b.toNat : Int)) from by omega, decide_false, cond_false, if_neg h1]
      by_cases h2 : r.length < b.toNat
      · simp only [show ((r.length : Int) + 1 ≤ (b.toNat : Int)) from by omega, decide_true, cond_true, er1_int, if_pos h2]; rfl
      · simp only [show ¬ ((r.length : Int) + 1 ≤ (b.toNat : Int)) from by omega, decide_false, cond_false, if_neg h2]
        have go : badN b.toNat r = false → g36b1111 (.str (b :: r)) (.int .i64 0) (.int .i64 (b.toNat : Nat)) st = some (.ret (N3 (val (r.take b.toNat), b.toNat + 1, 0)), st) := fun hbad => by
          unfold g36b1111
          have := num_loop b r b.toNat (by omega) (by omega) hr (fun j hj => val_fits b r (by omega) (by omega) hbad j hj) st big 0 (by omega) (by have := big_le; omega)
          simpa [val] using this
        unfold g36b11
        simp only [idxS_0, toInt_u8, bin_gtr]
        by_cases h3 : 0 < b.toNat
        · obtain ⟨c, r', rfl⟩ : ∃ c r', r = c :: r' := by
            cases r with
            | nil => simp at h2; omega
            | cons c r' => exact ⟨c, r', rfl⟩
          have hbad := badN_cons (c := c) (r := r') h3
          simp only [show ((0 : Int) < (b.toNat : Int)) from by omega, decide_true, guard_tt, guard_ft, guard_ff, guard_tf, idxS_1, eql_int, Bool.false_eq_true, if_false]
          unfold g36b11100_8
          by_cases h4 : c.toNat = 0
          · have hbad' : badN b.toNat (c :: r') = true := by rw [hbad, h4]; rfl
            have h4z : (((c.toNat : Nat) : Int) == 0) = true := by rw [h4]; rfl
            rw [if_pos hbad']
            simp only [h4z, guard_tt, guard_ft, guard_ff, guard_tf, er1_int]; rfl
          · have h4' : ((c.toNat : Int) == 0) = false := by simp; omega
            have h4n : (c.toNat == 0) = false := by simp [h4]
            rw [h4n, Bool.false_or] at hbad
            by_cases h5 : b.toNat = 8
            · have h5' : ((b.toNat : Int) == 8) = true := by simp [h5]
              simp only [h4', guard_tt, guard_ft, guard_ff, guard_tf, eql_int, Bool.false_eq_true, if_false, h5', guardT_b, idxS_1, bin_geq]
              by_cases h6 : 128 ≤ c.toNat
              · rw [if_pos (by rw [hbad]; simp [h5, h6])]
                simp only [show ((128 : Int) ≤ (c.toNat : Int)) from by omega, decide_true, cond_true, er1_int]; rfl
              · have hb0 : badN b.toNat (c :: r') = false := by rw [hbad]; simp [h6]
                rw [if_neg (by rw [hb0]; simp)]
                simp only [show ¬ ((128 : Int) ≤ (c.toNat : Int)) from by omega, decide_false, cond_false]
                exact go hb0
            · have h5' : ((b.toNat : Int) == 8) = false := by simp; omega
              have hb0 : badN b.toNat (c :: r') = false := by rw [hbad]; simp [h5]
              rw [if_neg (by rw [hb0]; simp)]
              simp only [h4', guard_tt, guard_ft, guard_ff, guard_tf, eql_int, Bool.false_eq_true, if_false, h5', guardT_b, guard_tt, guard_ft, guard_ff, guard_tf]
              exact go hb0
        · have hb0 : badN b.toNat r = false := by
            have : b.toNat = 0 := by omega
            simp [badN, this]
          rw [if_neg (by rw [hb0]; simp)]
          have h5' : ((b.toNat : Int) == 8) = false := by simp; omega
          simp only [show ¬ ((0 : Int) < (b.toNat : Int)) from by omega, decide_false, guard_tt, guard_ft, guard_ff, guard_tf, Bool.false_eq_true, if_false]
          unfold g36b11100_8
          simp only [guard_tt, guard_ft, guard_ff, guard_tf, eql_int, Bool.false_eq_true, if_false, h5', guardT_b, guard_tt, guard_ft, guard_ff, guard_tf]
          exact go hb0
end Go.Ab
