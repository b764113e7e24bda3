import Derived.Test.YtnpahhlgniaddaaHcrc
import Derived.Test.YtnpahhlgniaddaaPx1
/- The document's checksum comes to the same numbers. -/
namespace Go.Proofs.Ytnpahhlgniaddaa.Hand
open Go.RowKit Go.Proofs.YtnpahhlgniaddaaW.PrintWords Go.Proofs.YtnpahhlgniaddaaW.PrintLast Go.Proofs.YtnpahhlgniaddaaW.PrintMore Go.Proofs.Ytnpahhlgniaddaa.Px

theorem bits_xor63 (a b : Nat) (ha : a < 9223372036854775808) (hb : b < 9223372036854775808) : Go.bits .xor .i64 (a : Int) (b : Int) = ((a ^^^ b : Nat) : Int) := by
  have hx : a ^^^ b < 2 ^ 63 := Nat.xor_lt_two_pow (by omega) (by omega)
  have h1 : (BitVec.ofInt 64 (a : Int)).toNat = a := by
    rw [BitVec.ofInt_natCast, BitVec.toNat_ofNat]; exact Nat.mod_eq_of_lt (by omega)
  have h2 : (BitVec.ofInt 64 (b : Int)).toNat = b := by
    rw [BitVec.ofInt_natCast, BitVec.toNat_ofNat]; exact Nat.mod_eq_of_lt (by omega)
  show IntKind.i64.wrap ((BitVec.ofInt 64 (a : Int) ^^^ BitVec.ofInt 64 (b : Int)).toNat : Int) = _
  rw [BitVec.toNat_xor, h1, h2, IntKind.wrap_i64]
  omega
theorem w64 (x : Int) (h0 : -9223372036854775808 ≤ x) (h1 : x < 9223372036854775808) : wrap64 x = x := by
  unfold wrap64
  omega
theorem ref_l1 (s : ByteArray) (i : Int) (d : Nat) : ∀ (n j k : Nat), n < 4294967296 → j + d = 8 →
    sinewref02_Sum.l1 (k + d + 1) s n i j = sinewref02_Sum.l0 k s (stN d n) (wrap64 (i + 1)) := by
  induction d with
  | zero =>
    intro n j k hn hj
    show sinewref02_Sum.l1 (k + 1) s n i j = _
    rw [sinewref02_Sum.l1, if_neg (by omega)]
    rfl
  | succ d ih =>
    intro n j k hn hj
    show sinewref02_Sum.l1 (k + d + 1 + 1) s n i j = _
    rw [sinewref02_Sum.l1, if_pos (by omega), w64 (2 * (n : Int)) (by omega) (by omega), w64 ((j : Int) + 1) (by omega) (by omega)]
    have hst : stN (d + 1) n = stN d (st n) := by
      rw [stN_add d 1 n]
      rfl
    have key : (if (2 * (n : Int)) > 4294967295 then (sinewref02_Sum.l1 (k + d + 1) s (Go.bits .xor .i64 (wrap64 ((wrap64 ((2 * (n : Int)) - 4294967295)) - 1)) 79764919) i ((j : Int) + 1)) else (sinewref02_Sum.l1 (k + d + 1) s (2 * (n : Int)) i ((j : Int) + 1))) = sinewref02_Sum.l1 (k + d + 1) s (st n : Nat) i ((j + 1 : Nat) : Int) := by
      by_cases h : (2 * (n : Int)) > 4294967295
      · rw [if_pos h, w64 (2 * (n : Int) - 4294967295) (by omega) (by omega), w64 (2 * (n : Int) - 4294967295 - 1) (by omega) (by omega)]
        have e : (2 * (n : Int) - 4294967295 - 1) = ((2 * n % 4294967296 : Nat) : Int) := by omega
        have e1 : n / 2147483648 = 1 := by omega
        rw [e]
        have := bits_xor63 (2 * n % 4294967296) 79764919 (by omega) (by omega)
        rw [show ((79764919 : Nat) : Int) = 79764919 from rfl] at this
        rw [this]
        have e2 : st n = (2 * n % 4294967296) ^^^ 79764919 := by unfold st; rw [e1]
        rw [e2]
        rfl
      · rw [if_neg h]
        have e2 : st n = 2 * n := st_small (by omega)
        rw [e2]
        rfl
    rw [key, ih (st n) (j + 1) k (st_lt hn) (by omega), hst]
theorem ref_l0 (s : ByteArray) (hs : s.size ≤ 140737488351232) (d : Nat) : ∀ (i k : Nat), i + d = s.size →
    sinewref02_Sum.l0 (k + 10 * d + 1) s (crcN s i) i = some (sumv s) := by
  induction d with
  | zero =>
    intro i k hi
    show sinewref02_Sum.l0 (k + 1) s (crcN s i) i = _
    rw [sinewref02_Sum.l0, if_neg (by omega), sumv_crcN]
    have := bits_xor63 (crcN s i) 4294967295 (by have := crcN_lt s i; omega) (by omega)
    rw [show ((4294967295 : Nat) : Int) = 4294967295 from rfl] at this
    rw [this, Nat.xor_comm]
    obtain rfl : i = s.size := by omega
    rfl
  | succ d ih =>
    intro i k hi
    rw [show k + 10 * (d + 1) + 1 = (k + 10 * d + 1 + 8 + 1) + 1 from by omega]
    have hb := byN_lt s i
    have hb2 := bt_range s i
    have hl := crcN_lt s i
    rw [sinewref02_Sum.l0, if_pos (by omega), if_pos (by omega), w64 (bt s i) (by omega) (by omega), w64 (bt s i * 16777216) (by omega) (by omega)]
    rw [show (bt s i * 16777216) = ((byN s i * 16777216 : Nat) : Int) from by unfold byN; omega, bits_xor63 _ _ (by omega) (by omega)]
    have := ref_l1 s i 8 (crcN s i ^^^ byN s i * 16777216) 0 (k + 10 * d + 1) (xor_lt32 hl (by omega)) rfl
    rw [show ((0 : Nat) : Int) = 0 from rfl] at this
    rw [this, w64 ((i : Int) + 1) (by omega) (by omega)]
    exact ih (i + 1) k (by omega)
/-- The document's sum is the program's. -/
theorem ref_sum (s : ByteArray) (hs : s.size ≤ 140737488351232) : sinewref02_Sum.f (10 * s.size + 1) s = some (sumv s) := by
  have := ref_l0 s hs s.size 0 0 (by omega)
  rw [Nat.zero_add] at this
  exact this
theorem sum_f (s : ByteArray) (hs : s.size ≤ 140737488351232) : check_Sum.f s = some (sumv s) := if_pos hs
theorem awake_some : sinewlaw02_awake.f = some true := by
  unfold sinewlaw02_awake.f
  rw [sum_f _ (by decide), sumv_crcN]
  decide +kernel
end Go.Proofs.Ytnpahhlgniaddaa.Hand
