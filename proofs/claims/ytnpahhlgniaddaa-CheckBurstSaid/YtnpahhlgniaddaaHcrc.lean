import Derived.Test.YtnpahhlgniaddaaHsum
/- The plain law of the checksum: on natural numbers, linear in xor. -/
namespace Go.Proofs.Ytnpahhlgniaddaa.Hand
open Go.RowKit Go.Proofs.YtnpahhlgniaddaaW.PrintWords Go.Proofs.YtnpahhlgniaddaaW.PrintLast Go.Proofs.YtnpahhlgniaddaaW.PrintMore

/-- One bit goes out. -/
def st (n : Nat) : Nat := (2 * n % 4294967296) ^^^ (n / 2147483648 * 79764919)
def stN : Nat → Nat → Nat
  | 0, n => n
  | j + 1, n => st (stN j n)
theorem xor_lt32 {a b : Nat} (h1 : a < 4294967296) (h2 : b < 4294967296) : a ^^^ b < 4294967296 :=
  Nat.xor_lt_two_pow (n := 32) h1 h2
theorem st_lt {n : Nat} (h : n < 4294967296) : st n < 4294967296 := xor_lt32 (by omega) (by omega)
theorem stN_lt {n : Nat} (h : n < 4294967296) : ∀ j, stN j n < 4294967296
  | 0 => h
  | j + 1 => st_lt (stN_lt h j)
theorem stN_add (i : Nat) : ∀ j n, stN (i + j) n = stN i (stN j n) := by
  induction i with
  | zero => intro j n; rw [Nat.zero_add]; rfl
  | succ i ih => intro j n; rw [Nat.succ_add]; show st (stN (i + j) n) = _; rw [ih]; rfl
theorem st_zero : st 0 = 0 := by decide
theorem stN_zero : ∀ j, stN j 0 = 0
  | 0 => rfl
  | j + 1 => by show st (stN j 0) = 0; rw [stN_zero j]; rfl
theorem two_mul_xor (a b : Nat) : 2 * (a ^^^ b) = (2 * a) ^^^ (2 * b) := by
  have h := Nat.shiftLeft_xor_distrib (a := a) (b := b) (i := 1)
  rw [Nat.shiftLeft_eq, Nat.shiftLeft_eq, Nat.shiftLeft_eq] at h
  rw [Nat.mul_comm 2 (a ^^^ b), Nat.mul_comm 2 a, Nat.mul_comm 2 b]
  exact h
theorem eq_of_xor {a b : Nat} (h : a ^^^ b = 0) : a = b := by
  have h1 : (a ^^^ b) ^^^ b = 0 ^^^ b := by rw [h]
  rwa [Nat.xor_assoc, Nat.xor_self, Nat.xor_zero, Nat.zero_xor] at h1
theorem div_xor (a b : Nat) : (a ^^^ b) / 2147483648 = (a / 2147483648) ^^^ (b / 2147483648) := by
  have h := Nat.shiftRight_xor_distrib (a := a) (b := b) (i := 31)
  simp only [Nat.shiftRight_eq_div_pow] at h
  exact h
theorem mod_xor (a b : Nat) : (a ^^^ b) % 4294967296 = (a % 4294967296) ^^^ (b % 4294967296) :=
  Nat.xor_mod_two_pow (n := 32) (a := a) (b := b)
theorem xor_swap (a b c d : Nat) : (a ^^^ b) ^^^ (c ^^^ d) = (a ^^^ c) ^^^ (b ^^^ d) := by
  rw [Nat.xor_assoc, Nat.xor_assoc, ← Nat.xor_assoc b c d, Nat.xor_comm b c, Nat.xor_assoc c b d]
theorem st_xor {a b : Nat} (ha : a < 4294967296) (hb : b < 4294967296) : st (a ^^^ b) = st a ^^^ st b := by
  unfold st
  rw [two_mul_xor, mod_xor, div_xor, xor_swap]
  congr 1
  have h1 : a / 2147483648 = 0 ∨ a / 2147483648 = 1 := by omega
  have h2 : b / 2147483648 = 0 ∨ b / 2147483648 = 1 := by omega
  rcases h1 with h1 | h1 <;> rcases h2 with h2 | h2 <;> rw [h1, h2] <;> rfl
theorem stN_xor {a b : Nat} (ha : a < 4294967296) (hb : b < 4294967296) : ∀ j, stN j (a ^^^ b) = stN j a ^^^ stN j b
  | 0 => rfl
  | j + 1 => by
    show st (stN j (a ^^^ b)) = st (stN j a) ^^^ st (stN j b)
    rw [stN_xor ha hb j, st_xor (stN_lt ha j) (stN_lt hb j)]
/-- What goes out is told by what stays. -/
theorem st_inj {n : Nat} (h : n < 4294967296) (h0 : st n = 0) : n = 0 := by
  unfold st at h0
  have h1 : n / 2147483648 = 0 ∨ n / 2147483648 = 1 := by omega
  have h2 := eq_of_xor h0
  rcases h1 with h1 | h1 <;> rw [h1] at h2 <;> omega
theorem stN_inj {n : Nat} (h : n < 4294967296) : ∀ j, stN j n = 0 → n = 0
  | 0, h0 => h0
  | j + 1, h0 => stN_inj h j (st_inj (stN_lt h j) h0)
theorem st_small {n : Nat} (h : n < 2147483648) : st n = 2 * n := by
  unfold st
  have : n / 2147483648 = 0 := by omega
  rw [this, Nat.zero_mul, Nat.xor_zero]
  omega
theorem st4_small {n : Nat} (h : n < 268435456) : stN 4 n = 16 * n := by
  show st (st (st (st n))) = _
  rw [st_small (n := n) (by omega), st_small (n := 2 * n) (by omega), st_small (n := 2 * (2 * n)) (by omega), st_small (n := 2 * (2 * (2 * n))) (by omega)]
  omega
theorem split28 (n : Nat) : n = (n / 268435456 * 268435456) ^^^ (n % 268435456) := by
  have h1 : ((n / 268435456 * 268435456) ^^^ (n % 268435456)) / 268435456 = (n / 268435456 * 268435456) / 268435456 ^^^ (n % 268435456) / 268435456 := Nat.xor_div_two_pow (n := 28)
  have h2 : ((n / 268435456 * 268435456) ^^^ (n % 268435456)) % 268435456 = (n / 268435456 * 268435456) % 268435456 ^^^ (n % 268435456) % 268435456 := Nat.xor_mod_two_pow (n := 28)
  rw [show (n / 268435456 * 268435456) / 268435456 = n / 268435456 from by omega, show (n % 268435456) / 268435456 = 0 from by omega, Nat.xor_zero] at h1
  rw [show (n / 268435456 * 268435456) % 268435456 = 0 from by omega, show (n % 268435456) % 268435456 = n % 268435456 from by omega, Nat.zero_xor] at h2
  omega

/-! the machine's numbers -/
theorem bits_xor32 (a b : Nat) (ha : a < 4294967296) (hb : b < 4294967296) : Go.bits .xor .u32 (a : Int) (b : Int) = ((a ^^^ b : Nat) : Int) := u32_xor_nat a b ha hb
theorem sh1_st (n : Nat) (h : n < 4294967296) : sh1 (n : Int) = (st n : Int) := by
  unfold sh1 st
  rw [show ((n : Int) * 2 % 4294967296) = ((2 * n % 4294967296 : Nat) : Int) from by omega,
    show ((n : Int) / 2147483648 * 79764919 % 4294967296) = ((n / 2147483648 * 79764919 : Nat) : Int) from by omega]
  exact bits_xor32 _ _ (by omega) (by omega)
theorem shN_stN (n : Nat) (h : n < 4294967296) : ∀ j, shN j (n : Int) = (stN j n : Int)
  | 0 => rfl
  | j + 1 => by
    show sh1 (shN j n) = _
    rw [shN_stN n h j, sh1_st _ (stN_lt h j)]
    rfl
theorem nib_stN (n : Nat) (h : n < 4294967296) : nib (n : Int) = (stN 4 n : Int) := by
  unfold nib tv
  have e : ((n : Int) / 268435456).toNat = n / 268435456 := by omega
  rw [e, show (((n / 268435456 : Nat) : Int) * 268435456) = ((n / 268435456 * 268435456 : Nat) : Int) from by omega, shN_stN _ (by omega),
    show ((n : Int) * 16 % 4294967296) = ((16 * (n % 268435456) : Nat) : Int) from by omega, bits_xor32 _ _ (by omega) (stN_lt (by omega) 4)]
  congr 1
  conv => rhs; rw [split28 n]
  rw [stN_xor (by omega) (by omega), st4_small (n := n % 268435456) (by omega), Nat.xor_comm]
/-- The bytes of a text, as numbers. -/
def byN (s : ByteArray) (k : Nat) : Nat := (bt s k).toNat
theorem byN_lt (s : ByteArray) (k : Nat) : byN s k < 256 := by
  have := bt_range s k
  unfold byN
  omega
def crcN (s : ByteArray) : Nat → Nat
  | 0 => 4294967295
  | k + 1 => stN 8 (crcN s k ^^^ (byN s k * 16777216))
theorem crcN_lt (s : ByteArray) : ∀ k, crcN s k < 4294967296
  | 0 => by unfold crcN; decide
  | k + 1 => stN_lt (xor_lt32 (crcN_lt s k) (by have := byN_lt s k; omega)) 8
theorem crc_crcN (s : ByteArray) : ∀ k, crc s k = (crcN s k : Int)
  | 0 => rfl
  | k + 1 => by
    have hb := byN_lt s k
    have hb2 := bt_range s k
    have hl := crcN_lt s k
    show nib (nib (inb (crc s k) (bt s k))) = ((stN 8 _ : Nat) : Int)
    unfold inb
    rw [crc_crcN s k, show (bt s k * 16777216) = ((byN s k * 16777216 : Nat) : Int) from by unfold byN; omega, bits_xor32 _ _ hl (by omega), nib_stN _ (xor_lt32 hl (by omega)), nib_stN _ (stN_lt (xor_lt32 hl (by omega)) 4), ← stN_add]
theorem sumv_crcN (s : ByteArray) : sumv s = ((4294967295 ^^^ crcN s s.size : Nat) : Int) := by
  unfold sumv
  rw [crc_crcN]
  exact bits_xor32 4294967295 _ (by omega) (crcN_lt _ _)
theorem sumv_range (s : ByteArray) : 0 ≤ sumv s ∧ sumv s < 4294967296 := by
  rw [sumv_crcN]
  have := xor_lt32 (a := 4294967295) (by omega) (crcN_lt s s.size)
  omega
end Go.Proofs.Ytnpahhlgniaddaa.Hand
