import Derived.Test.YtnnjfbbflfbcaaaAbCrc
/- The checksum tells four bytes in a row that are others (our own text of seat 02, over lists). -/
namespace Go.Ab
set_option linter.unusedVariables false
set_option linter.unusedSimpArgs false
namespace Crc
theorem eq_of_xor {a b : Nat} (h : a ^^^ b = 0) : a = b := by
  have h1 : (a ^^^ b) ^^^ b = 0 ^^^ b := by rw [h]
  rwa [Nat.xor_assoc, Nat.xor_self, Nat.xor_zero, Nat.zero_xor] at h1
theorem st_inj {n : Nat} (h : n < 4294967296) (h0 : st n = 0) : n = 0 := by
  unfold st at h0
  have h1 : n / 2147483648 = 0 ∨ n / 2147483648 = 1 := by omega
  have h2 := eq_of_xor h0
  rcases h1 with h1 | h1 <;> rw [h1] at h2 <;> omega
theorem stN_inj {n : Nat} (h : n < 4294967296) : ∀ j, stN j n = 0 → n = 0
  | 0, h0 => h0
  | j + 1, h0 => stN_inj h j (st_inj (stN_lt h j) h0)
def crcF (f : Nat → Nat) : Nat → Nat
  | 0 => 4294967295
  | k + 1 => stN 8 (crcF f k ^^^ (f k * 16777216))
theorem mul_xor24 (a b : Nat) : (a ^^^ b) * 16777216 = (a * 16777216) ^^^ (b * 16777216) := by
  have h := Nat.shiftLeft_xor_distrib (a := a) (b := b) (i := 24)
  rw [Nat.shiftLeft_eq, Nat.shiftLeft_eq, Nat.shiftLeft_eq] at h
  exact h
theorem crcF_lt {f : Nat → Nat} (hf : ∀ i, f i < 256) : ∀ k, crcF f k < 4294967296
  | 0 => by unfold crcF; decide
  | k + 1 => stN_lt (xor_lt32 (crcF_lt hf k) (by have := hf k; omega)) 8
theorem st_shift8 {n : Nat} (h : n < 16777216) : stN 8 n = 256 * n := by
  rw [show (8 : Nat) = 4 + 4 from rfl, stN_add 4 4, st4_small (n := n) (by omega), st4_small (n := 16 * n) (by omega)]
  omega
/-- The states' xor goes its own way. -/
def dl (f g : Nat → Nat) : Nat → Nat
  | 0 => 0
  | k + 1 => stN 8 (dl f g k ^^^ ((f k ^^^ g k) * 16777216))
theorem dl_lt {f g : Nat → Nat} (hf : ∀ i, f i < 256) (hg : ∀ i, g i < 256) : ∀ k, dl f g k < 4294967296
  | 0 => by unfold dl; decide
  | k + 1 => stN_lt (xor_lt32 (dl_lt hf hg k) (by have := Nat.xor_lt_two_pow (n := 8) (hf k) (hg k); omega)) 8
theorem crcF_dl {f g : Nat → Nat} (hf : ∀ i, f i < 256) (hg : ∀ i, g i < 256) : ∀ k, crcF f k ^^^ crcF g k = dl f g k
  | 0 => by show 4294967295 ^^^ 4294967295 = 0; rfl
  | k + 1 => by
    show stN 8 _ ^^^ stN 8 _ = stN 8 _
    have lf := crcF_lt hf k
    have lg := crcF_lt hg k
    have bf := hf k
    have bg := hg k
    rw [← stN_xor (xor_lt32 lf (by omega)) (xor_lt32 lg (by omega)), xor_swap, crcF_dl hf hg k, ← mul_xor24]
theorem dl_same {f g : Nat → Nat} (p : Nat) (h : ∀ i, i < p → f i = g i) : ∀ k, k ≤ p → dl f g k = 0
  | 0, _ => rfl
  | k + 1, hk => by
    show stN 8 _ = 0
    rw [dl_same p h k (by omega), h k (by omega), Nat.xor_self]
    rfl
theorem dl_on {f g : Nat → Nat} (hf : ∀ i, f i < 256) (hg : ∀ i, g i < 256) (q : Nat) (h : ∀ i, q ≤ i → f i = g i) (h0 : dl f g q ≠ 0) : ∀ d, dl f g (q + d) ≠ 0
  | 0 => h0
  | d + 1 => by
    show stN 8 (dl f g (q + d) ^^^ ((f (q + d) ^^^ g (q + d)) * 16777216)) ≠ 0
    rw [h (q + d) (by omega), Nat.xor_self, Nat.zero_mul, Nat.xor_zero]
    exact fun h1 => dl_on hf hg q h h0 d (stN_inj (dl_lt hf hg _) 8 h1)
theorem step8 {a d : Nat} (ha : a < 4294967296) (hd : d < 65536) : stN 8 (a ^^^ (d * 256)) = stN 8 a ^^^ (d * 256 * 256) := by
  rw [stN_xor ha (by omega), st_shift8 (n := d * 256) (by omega), Nat.mul_comm (d * 256) 256]
theorem xor_mod8 (a b : Nat) : (a ^^^ b) % 256 = (a % 256) ^^^ (b % 256) := Nat.xor_mod_two_pow (n := 8)
theorem xor_div8 (a b : Nat) : (a ^^^ b) / 256 = (a / 256) ^^^ (b / 256) := Nat.xor_div_two_pow (n := 8)
/-- Four bytes, the first one highest. -/
theorem four_zero {a b c d : Nat} (_ha : a < 256) (hb : b < 256) (hc : c < 256) (hd : d < 256) (h : ((a * 256 * 256 * 256 ^^^ b * 256 * 256) ^^^ c * 256) ^^^ d = 0) : a = 0 ∧ b = 0 ∧ c = 0 ∧ d = 0 := by
  have e0 := congrArg (· % 256) h
  simp only [xor_mod8] at e0
  rw [show a * 256 * 256 * 256 % 256 = 0 from by omega, show b * 256 * 256 % 256 = 0 from by omega, show c * 256 % 256 = 0 from by omega, Nat.xor_self, Nat.xor_self, Nat.zero_xor] at e0
  have e1 := congrArg (· / 256) h
  simp only [xor_div8] at e1
  rw [show a * 256 * 256 * 256 / 256 = a * 256 * 256 from by omega, show b * 256 * 256 / 256 = b * 256 from by omega, show c * 256 / 256 = c from by omega, show d / 256 = 0 from by omega, Nat.xor_zero, Nat.zero_div] at e1
  have e2 := congrArg (· % 256) e1
  simp only [xor_mod8] at e2
  rw [show a * 256 * 256 % 256 = 0 from by omega, show b * 256 % 256 = 0 from by omega, Nat.xor_self, Nat.zero_xor] at e2
  have e3 := congrArg (· / 256) e1
  simp only [xor_div8] at e3
  rw [show a * 256 * 256 / 256 = a * 256 from by omega, show b * 256 / 256 = b from by omega, show c / 256 = 0 from by omega, Nat.xor_zero, Nat.zero_div] at e3
  have e4 := congrArg (· % 256) e3
  simp only [xor_mod8] at e4
  rw [show a * 256 % 256 = 0 from by omega, Nat.zero_xor] at e4
  have e5 := congrArg (· / 256) e3
  simp only [xor_div8] at e5
  rw [show a * 256 / 256 = a from by omega, show b / 256 = 0 from by omega, Nat.xor_zero, Nat.zero_div] at e5
  omega
theorem m24 (b : Nat) : b * 16777216 = b * 256 * 256 * 256 := by
  omega
set_option maxRecDepth 20000 in
theorem dl_four {f g : Nat → Nat} (hf : ∀ i, f i < 256) (hg : ∀ i, g i < 256) (p : Nat) (h : ∀ i, i < p → f i = g i) (hne : ¬ (f p = g p ∧ f (p + 1) = g (p + 1) ∧ f (p + 2) = g (p + 2) ∧ f (p + 3) = g (p + 3))) : dl f g (p + 4) ≠ 0 := by
  have h0 := dl_same p h p (Nat.le_refl _)
  have e : ∀ k, f k ^^^ g k < 256 := fun k => Nat.xor_lt_two_pow (n := 8) (hf k) (hg k)
  have e0 := e p
  have e1 := e (p + 1)
  have e2 := e (p + 2)
  have e3 := e (p + 3)
  show stN 8 (stN 8 (stN 8 (stN 8 (dl f g p ^^^ ((f p ^^^ g p) * 16777216)) ^^^ ((f (p + 1) ^^^ g (p + 1)) * 16777216)) ^^^ ((f (p + 2) ^^^ g (p + 2)) * 16777216)) ^^^ ((f (p + 3) ^^^ g (p + 3)) * 16777216)) ≠ 0
  rw [h0, Nat.zero_xor]
  generalize hA : f p ^^^ g p = A at *
  generalize hB : f (p + 1) ^^^ g (p + 1) = B at *
  generalize hC : f (p + 2) ^^^ g (p + 2) = C at *
  generalize hD : f (p + 3) ^^^ g (p + 3) = D at *
  have l1 : A * 16777216 < 4294967296 := by omega
  have B24 := m24 B
  have C24 := m24 C
  have D24 := m24 D
  have A24 := m24 A
  have b2 : B * 256 * 256 < 4294967296 := by omega
  have c1 : C * 256 < 4294967296 := by omega
  have d0 : D < 4294967296 := by omega
  have b65 : B * 256 < 65536 := by omega
  have c65 : C < 65536 := by omega
  have c66 : C * 256 < 65536 := by omega
  have d65 : D < 65536 := by omega
  have d66 : D * 256 < 65536 := by omega
  have d24 : D < 16777216 := by omega
  have l2 := xor_lt32 l1 b2
  have l3 := xor_lt32 l2 c1
  have l4 := xor_lt32 l3 d0
  have s1 := step8 (d := B * 256) l1 b65
  have s2a := step8 (d := C) l2 c65
  have s2b := step8 (d := C * 256) (stN_lt l2 8) c66
  have s3a : stN 8 (((A * 16777216 ^^^ B * 256 * 256) ^^^ C * 256) ^^^ D) = stN 8 ((A * 16777216 ^^^ B * 256 * 256) ^^^ C * 256) ^^^ (D * 256) := by
    rw [stN_xor l3 d0, st_shift8 (n := D) d24, Nat.mul_comm 256 D]
  have s3b := step8 (d := D) (stN_lt l3 8) d65
  have s3c := step8 (d := D * 256) (stN_lt (stN_lt l3 8) 8) d66
  rw [B24, C24, D24, ← s1, ← s2b, ← s2a, ← s3c, ← s3b, ← s3a]
  intro hz
  have z1 := stN_inj (stN_lt (stN_lt (stN_lt l4 8) 8) 8) 8 hz
  have z2 := stN_inj (stN_lt (stN_lt l4 8) 8) 8 z1
  have z3 := stN_inj (stN_lt l4 8) 8 z2
  have z4 := stN_inj l4 8 z3
  rw [A24] at z4
  obtain ⟨a0, b0, c0, d0⟩ := four_zero e0 e1 e2 e3 z4
  exact hne ⟨eq_of_xor (hA.trans a0), eq_of_xor (hB.trans b0), eq_of_xor (hC.trans c0), eq_of_xor (hD.trans d0)⟩
theorem crc_snoc : ∀ (l : List UInt8) (c : Nat) (b : UInt8), crc c (l ++ [b]) = stN 8 (crc c l ^^^ (b.toNat * 16777216))
  | [], _, _ => rfl
  | x :: l, c, b => crc_snoc l _ b
def byF (s : List UInt8) (j : Nat) : Nat := (s.getD j 0).toNat
theorem byF_lt (s : List UInt8) (j : Nat) : byF s j < 256 := (s.getD j 0).toNat_lt
theorem crc_F (s : List UInt8) : ∀ k, k ≤ s.length → crc 4294967295 (s.take k) = crcF (byF s) k
  | 0, _ => rfl
  | k + 1, h => by
    rw [List.take_succ_eq_append_getElem h, crc_snoc, crc_F s k (by omega)]
    show _ = stN 8 (crcF (byF s) k ^^^ (byF s k * 16777216))
    unfold byF
    rw [List.getD_eq_getElem?_getD, List.getElem?_eq_getElem h]; rfl
/-- Texts that are others in four bytes in a row have other sums. -/
theorem sum_burst {s t : List UInt8} (hl : s.length = t.length) (p : Nat) (hp : p + 4 ≤ s.length) (h1 : ∀ j, j < p → byF s j = byF t j) (h2 : ∀ j, p + 4 ≤ j → byF s j = byF t j) (hne : s ≠ t) : sum s ≠ sum t := by
  intro h
  have e1 := crc_F s s.length (Nat.le_refl _)
  have e2 := crc_F t t.length (Nat.le_refl _)
  rw [List.take_length] at e1 e2
  unfold sum at h
  rw [e1, e2, ← hl] at h
  have h3 : crcF (byF s) s.length ^^^ crcF (byF t) s.length = 0 := by
    have h3 := congrArg (4294967295 ^^^ ·) h
    simp only [← Nat.xor_assoc, Nat.xor_self, Nat.zero_xor] at h3
    rw [h3, Nat.xor_self]
  rw [crcF_dl (byF_lt s) (byF_lt t)] at h3
  have h4 := dl_four (byF_lt s) (byF_lt t) p h1 (fun ⟨a, b, c, d⟩ => by
    apply hne
    apply List.ext_getElem hl
    intro j hj1 hj2
    have : byF s j = byF t j := by
      by_cases g1 : j < p
      · exact h1 j g1
      · by_cases g2 : p + 4 ≤ j
        · exact h2 j g2
        · have : j = p ∨ j = p + 1 ∨ j = p + 2 ∨ j = p + 3 := by omega
          rcases this with g | g | g | g <;> subst g <;> assumption
    unfold byF at this
    rw [List.getD_eq_getElem?_getD, List.getElem?_eq_getElem hj1, List.getD_eq_getElem?_getD, List.getElem?_eq_getElem hj2] at this
    exact UInt8.toNat_inj.1 this)
  have := dl_on (byF_lt s) (byF_lt t) (p + 4) h2 h4 (s.length - (p + 4))
  rw [show p + 4 + (s.length - (p + 4)) = s.length by omega] at this
  exact this h3
end Crc
end Go.Ab
