import Derived.Test.YtjdgaphjjhhjeaaAbSpec
/- The checksum, on natural numbers; what the machine's steps are of it. -/
namespace Go.Ab
open Go.RowKit
set_option linter.unusedVariables false
set_option linter.unusedSimpArgs false
namespace Crc
/-- One bit goes out. -/
def st (n : Nat) : Nat := (2 * n % 4294967296) ^^^ (n / 2147483648 * 79764919)
def stN : Nat → Nat → Nat
  | 0, n => n
  | j + 1, n => st (stN j n)
theorem xor_lt32 {a b : Nat} (h1 : a < 4294967296) (h2 : b < 4294967296) : a ^^^ b < 4294967296 := Nat.xor_lt_two_pow (n := 32) h1 h2
theorem st_lt {n : Nat} (h : n < 4294967296) : st n < 4294967296 := xor_lt32 (by omega) (by omega)
theorem stN_lt {n : Nat} (h : n < 4294967296) : ∀ j, stN j n < 4294967296
  | 0 => h
  | j + 1 => st_lt (stN_lt h j)
theorem stN_add (i : Nat) : ∀ j n, stN (i + j) n = stN i (stN j n) := by
  induction i with
  | zero => intro j n; rw [Nat.zero_add]; rfl
  | succ i ih => intro j n; rw [Nat.succ_add]; show st (stN (i + j) n) = _; rw [ih]; rfl
theorem stN_st : ∀ j n, stN j (st n) = stN (j + 1) n
  | 0, n => rfl
  | j + 1, n => by show st (stN j (st n)) = _; rw [stN_st j n]; rfl
theorem two_mul_xor (a b : Nat) : 2 * (a ^^^ b) = (2 * a) ^^^ (2 * b) := by
  have h := Nat.shiftLeft_xor_distrib (a := a) (b := b) (i := 1)
  rw [Nat.shiftLeft_eq, Nat.shiftLeft_eq, Nat.shiftLeft_eq] at h
  rw [Nat.mul_comm 2 (a ^^^ b), Nat.mul_comm 2 a, Nat.mul_comm 2 b]
  exact h
theorem div_xor (a b : Nat) : (a ^^^ b) / 2147483648 = (a / 2147483648) ^^^ (b / 2147483648) := by
  have h := Nat.shiftRight_xor_distrib (a := a) (b := b) (i := 31)
  simp only [Nat.shiftRight_eq_div_pow] at h
  exact h
theorem mod_xor (a b : Nat) : (a ^^^ b) % 4294967296 = (a % 4294967296) ^^^ (b % 4294967296) := Nat.xor_mod_two_pow (n := 32) (a := a) (b := b)
theorem xor_swap (a b c d : Nat) : (a ^^^ b) ^^^ (c ^^^ d) = (a ^^^ c) ^^^ (b ^^^ d) := by
  rw [Nat.xor_assoc, Nat.xor_assoc, ← Nat.xor_assoc b c d, Nat.xor_comm b c, Nat.xor_assoc c b d]
theorem st_xor {a b : Nat} (ha : a < 4294967296) (hb : b < 4294967296) : st (a ^^^ b) = st a ^^^ st b := by
  unfold st
  rw [two_mul_xor, mod_xor, div_xor, xor_swap]
  congr 1
  have h1 : a / 2147483648 = 0 ∨ a / 2147483648 = 1 := by omega
  have h2 : b / 2147483648 = 0 ∨ b / 2147483648 = 1 := by omega
  rcases h1 with h1 | h1 <;> rcases h2 with h2 | h2 <;> rw [h1, h2] <;> rfl
theorem stN_xor {a b : Nat} (ha : a < 4294967296) (hb : b < 4294967296) : ∀ j, stN j (a ^^^ b) = stN j a ^^^ stN j b
  | 0 => rfl
  | j + 1 => by
    show st (stN j (a ^^^ b)) = st (stN j a) ^^^ st (stN j b)
    rw [stN_xor ha hb j, st_xor (stN_lt ha j) (stN_lt hb j)]
theorem st_small {n : Nat} (h : n < 2147483648) : st n = 2 * n := by
  unfold st
  have : n / 2147483648 = 0 := by omega
  rw [this, Nat.zero_mul, Nat.xor_zero]
  omega
theorem st4_small {n : Nat} (h : n < 268435456) : stN 4 n = 16 * n := by
  show st (st (st (st n))) = _
  rw [st_small (n := n) (by omega), st_small (n := 2 * n) (by omega), st_small (n := 2 * (2 * n)) (by omega), st_small (n := 2 * (2 * (2 * n))) (by omega)]
  omega
theorem split28 (n : Nat) : n = (n / 268435456 * 268435456) ^^^ (n % 268435456) := by
  have h1 : ((n / 268435456 * 268435456) ^^^ (n % 268435456)) / 268435456 = (n / 268435456 * 268435456) / 268435456 ^^^ (n % 268435456) / 268435456 := Nat.xor_div_two_pow (n := 28)
  have h2 : ((n / 268435456 * 268435456) ^^^ (n % 268435456)) % 268435456 = (n / 268435456 * 268435456) % 268435456 ^^^ (n % 268435456) % 268435456 := Nat.xor_mod_two_pow (n := 28)
  rw [show (n / 268435456 * 268435456) / 268435456 = n / 268435456 from by omega, show (n % 268435456) / 268435456 = 0 from by omega, Nat.xor_zero] at h1
  rw [show (n / 268435456 * 268435456) % 268435456 = 0 from by omega, show (n % 268435456) % 268435456 = n % 268435456 from by omega, Nat.zero_xor] at h2
  omega
theorem nib {n : Nat} (h : n < 4294967296) : (n * 16 % 4294967296) ^^^ stN 4 (n / 268435456 * 268435456) = stN 4 n := by
  conv => rhs; rw [split28 n]
  rw [stN_xor (by omega) (by omega), st4_small (n := n % 268435456) (by omega), Nat.xor_comm]
  congr 1
  omega
def crc : Nat → List UInt8 → Nat
  | n, [] => n
  | n, b :: s => crc (stN 8 (n ^^^ (b.toNat * 16777216))) s
theorem by_lt (b : UInt8) : b.toNat * 16777216 < 4294967296 := by have := b.toNat_lt; omega
theorem crc_lt : ∀ (s : List UInt8) (n : Nat), n < 4294967296 → crc n s < 4294967296
  | [], _, h => h
  | b :: s, n, h => crc_lt s _ (stN_lt (xor_lt32 h (by_lt b)) 8)
/-- The checksum of bytes. -/
def sum (s : List UInt8) : Nat := 4294967295 ^^^ crc 4294967295 s
theorem sum_lt (s : List UInt8) : sum s < 4294967296 := xor_lt32 (by omega) (crc_lt s _ (by omega))
end Crc

theorem u32_wrap (n : Int) : IntKind.u32.wrap n = n % 4294967296 := by simp [IntKind.wrap, IntKind.bits, IntKind.signed]
theorem bin_xor32 (a b : Nat) (ha : a < 4294967296) (hb : b < 4294967296) (K : V → Res) : A.bin .xor (.int .u32 (a : Nat)) (.int .u32 (b : Nat)) K = K (.int .u32 ((a ^^^ b : Nat) : Int)) := by
  simp only [A.bin, if_true]
  congr 2
  have h1 : (BitVec.ofInt IntKind.u32.bits (a : Int)).toNat = a := by rw [BitVec.toNat_ofInt]; simp [IntKind.bits]; omega
  have h2 : (BitVec.ofInt IntKind.u32.bits (b : Int)).toNat = b := by rw [BitVec.toNat_ofInt]; simp [IntKind.bits]; omega
  rw [BitVec.toNat_xor, h1, h2, u32_wrap]
  have := Crc.xor_lt32 ha hb
  omega
theorem bin_xor64 (a b : Nat) (ha : a < 9223372036854775808) (hb : b < 9223372036854775808) (K : V → Res) : A.bin .xor (.int .i64 (a : Nat)) (.int .i64 (b : Nat)) K = K (.int .i64 ((a ^^^ b : Nat) : Int)) := by
  simp only [A.bin, if_true]
  congr 2
  have h1 : (BitVec.ofInt IntKind.i64.bits (a : Int)).toNat = a := by rw [BitVec.toNat_ofInt]; simp [IntKind.bits]; omega
  have h2 : (BitVec.ofInt IntKind.i64.bits (b : Int)).toNat = b := by rw [BitVec.toNat_ofInt]; simp [IntKind.bits]; omega
  have h3 : a ^^^ b < 9223372036854775808 := Nat.xor_lt_two_pow (n := 63) ha hb
  rw [BitVec.toNat_xor, h1, h2, wrap_i64 (by omega) (by omega)]
theorem bin_shl32 (a j : Nat) (K : V → Res) (hj : j ≤ 32) : A.bin .shl (.int .u32 (a : Nat)) (.int .u64 (j : Nat)) K = K (.int .u32 ((a * 2 ^ j % 4294967296 : Nat) : Int)) := by
  have : ¬ ((j : Int) < 0) := by omega
  simp only [A.bin, this, if_false, Int.toNat_natCast]
  rw [show min j IntKind.u32.bits = j by simp [IntKind.bits]; omega, u32_wrap]
  congr 2
theorem bin_shr32 (a j : Nat) (K : V → Res) (hj : j ≤ 32) : A.bin .shr (.int .u32 (a : Nat)) (.int .u64 (j : Nat)) K = K (.int .u32 ((a / 2 ^ j : Nat) : Int)) := by
  have : ¬ ((j : Int) < 0) := by omega
  simp only [A.bin, this, if_false, Int.toNat_natCast]
  rw [show min j IntKind.u32.bits = j by simp [IntKind.bits]; omega, Int.fdiv_eq_ediv_of_nonneg _ (by exact Int.pow_nonneg (by decide))]
  congr 2
theorem bin_shlN (a j : Nat) (K : V → Res) (hj : j ≤ 62) (h : a * 2 ^ j < 9223372036854775808) : A.bin .shl (.int .i64 (a : Nat)) (.int .u64 (j : Nat)) K = K (.int .i64 ((a * 2 ^ j : Nat) : Int)) := by
  have : ¬ ((j : Int) < 0) := by omega
  simp only [A.bin, this, if_false, Int.toNat_natCast]
  rw [show min j IntKind.i64.bits = j by simp [IntKind.bits]; omega]
  have e : ((a : Int) * 2 ^ j) = ((a * 2 ^ j : Nat) : Int) := by push_cast; rfl
  rw [e, wrap_i64 (by omega) (by omega)]
def crcTab : List V := [.int .u32 0, .int .u32 79764919, .int .u32 159529838, .int .u32 222504665, .int .u32 319059676, .int .u32 398814059, .int .u32 445009330, .int .u32 507990021, .int .u32 638119352, .int .u32 583659535, .int .u32 797628118, .int .u32 726387553, .int .u32 890018660, .int .u32 835552979, .int .u32 1015980042, .int .u32 944750013]
theorem crcTab_at (i : Nat) (h : i < 16) : crcTab[i]? = some (.int .u32 ((Crc.stN 4 (i * 268435456) : Nat) : Int)) := by
  have : i = 0 ∨ i = 1 ∨ i = 2 ∨ i = 3 ∨ i = 4 ∨ i = 5 ∨ i = 6 ∨ i = 7 ∨ i = 8 ∨ i = 9 ∨ i = 10 ∨ i = 11 ∨ i = 12 ∨ i = 13 ∨ i = 14 ∨ i = 15 := by omega
  rcases this with h | h | h | h | h | h | h | h | h | h | h | h | h | h | h | h <;> subst h <;> rfl
end Go.Ab
