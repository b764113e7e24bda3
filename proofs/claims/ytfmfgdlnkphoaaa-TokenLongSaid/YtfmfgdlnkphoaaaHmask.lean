import Derived.Test.YtfmfgdlnkphoaaaWWords
import Derived.Test.YtfmfgdlnkphoaaaWLast
import Derived.Test.YtfmfgdlnkphoaaaWMore
/- Masks. -/
namespace Go.Proofs.Ytfmfgdlnkphoaaa.Hand
open Go.RowKit Go.Proofs.YtfmfgdlnkphoaaaW.PrintWords Go.Proofs.YtfmfgdlnkphoaaaW.PrintLast Go.Proofs.YtfmfgdlnkphoaaaW.PrintMore
theorem and_mask (z : Int) (j : Nat) (hj : j ≤ 62) : Go.bits .and .i64 z (2 ^ j - 1) = z % 2 ^ j := by
  have hp : (2 : Nat) ^ j ≤ 2 ^ 62 := Nat.pow_le_pow_right (by decide) hj
  have hpos : 0 < (2 : Nat) ^ j := Nat.two_pow_pos j
  have hc : ((2 : Int) ^ j - 1) = ((2 ^ j - 1 : Nat) : Int) := by rw [Int.natCast_sub hpos]; simp
  have hc2 : ((2 : Int) ^ j) = ((2 ^ j : Nat) : Int) := by simp
  rw [hc, hc2]
  have h2 : (BitVec.ofInt 64 (((2 ^ j - 1 : Nat) : Int))).toNat = 2 ^ j - 1 := by
    rw [BitVec.ofInt_natCast, BitVec.toNat_ofNat]; exact Nat.mod_eq_of_lt (by omega)
  show IntKind.i64.wrap ((BitVec.ofInt 64 z &&& BitVec.ofInt 64 ((2 ^ j - 1 : Nat) : Int)).toNat : Int) = _
  rw [BitVec.toNat_and, h2, Nat.and_two_pow_sub_one_eq_mod, BitVec.toNat_ofInt]
  have h3 : (z % ((2 ^ 64 : Nat) : Int)).toNat % 2 ^ j < 2 ^ j := Nat.mod_lt _ hpos
  have h4 : (((z % ((2 ^ 64 : Nat) : Int)).toNat % 2 ^ j : Nat) : Int) = z % ((2 ^ j : Nat) : Int) := by
    rw [Int.natCast_emod, Int.toNat_of_nonneg (Int.emod_nonneg _ (by decide))]
    refine Int.emod_emod_of_dvd _ ?_
    have : (2 : Nat) ^ j ∣ 2 ^ 64 := Nat.pow_dvd_pow 2 (by omega)
    exact Int.natCast_dvd_natCast.2 this
  rw [IntKind.wrap_i64, ← h4]
  omega
theorem and255 (z : Int) : Go.bits .and .i64 z 255 = z % 256 := and_mask z 8 (by decide)
theorem and65535 (z : Int) : Go.bits .and .i64 z 65535 = z % 65536 := and_mask z 16 (by decide)
end Go.Proofs.Ytfmfgdlnkphoaaa.Hand
