import Derived.Test.YtnpahhlgniaddaaPureCheckAdds
/- Four bytes that are others are told: the plain law. -/
namespace Go.Proofs.Ytnpahhlgniaddaa.Hand
open Go.RowKit Go.Proofs.YtnpahhlgniaddaaW.PrintWords Go.Proofs.YtnpahhlgniaddaaW.PrintLast Go.Proofs.YtnpahhlgniaddaaW.PrintMore Go.Proofs.Ytnpahhlgniaddaa.Px Go.Proofs.Ytnpahhlgniaddaa.Pure

theorem and_mask (z : Int) (j : Nat) (hj : j ≤ 62) : Go.bits .and .i64 z (2 ^ j - 1) = z % 2 ^ j := by
  have hp : (2 : Nat) ^ j ≤ 2 ^ 62 := Nat.pow_le_pow_right (by decide) hj
  have hpos : 0 < (2 : Nat) ^ j := Nat.two_pow_pos j
  have hc : ((2 : Int) ^ j - 1) = ((2 ^ j - 1 : Nat) : Int) := by rw [Int.natCast_sub hpos]; simp
  have hc2 : ((2 : Int) ^ j) = ((2 ^ j : Nat) : Int) := by simp
  rw [hc, hc2]
  have h2 : (BitVec.ofInt 64 (((2 ^ j - 1 : Nat) : Int))).toNat = 2 ^ j - 1 := by
    rw [BitVec.ofInt_natCast, BitVec.toNat_ofNat]; exact Nat.mod_eq_of_lt (by omega)
  show IntKind.i64.wrap ((BitVec.ofInt 64 z &&& BitVec.ofInt 64 ((2 ^ j - 1 : Nat) : Int)).toNat : Int) = _
  rw [BitVec.toNat_and, h2, Nat.and_two_pow_sub_one_eq_mod, BitVec.toNat_ofInt]
  have h3 : (z % ((2 ^ 64 : Nat) : Int)).toNat % 2 ^ j < 2 ^ j := Nat.mod_lt _ hpos
  have h4 : (((z % ((2 ^ 64 : Nat) : Int)).toNat % 2 ^ j : Nat) : Int) = z % ((2 ^ j : Nat) : Int) := by
    rw [Int.natCast_emod, Int.toNat_of_nonneg (Int.emod_nonneg _ (by decide))]
    refine Int.emod_emod_of_dvd _ ?_
    have : (2 : Nat) ^ j ∣ 2 ^ 64 := Nat.pow_dvd_pow 2 (by omega)
    exact Int.natCast_dvd_natCast.2 this
  rw [IntKind.wrap_i64, ← h4]
  omega
theorem and255 (z : Int) : Go.bits .and .i64 z 255 = z % 256 := and_mask z 8 (by decide)
theorem and65535 (z : Int) : Go.bits .and .i64 z 65535 = z % 65536 := and_mask z 16 (by decide)
theorem and32 (z : Int) : Go.bits .and .i64 z 4294967295 = z % 4294967296 := and_mask z 32 (by decide)

/-- The byte by which place i is turned. -/
def dby (y : Int) (i : Nat) : Int := Go.bits .and .i64 (y / 2 ^ (8 * i)) 255 % 256
def dbN (y : Int) (i : Nat) : Nat := (y / 2 ^ (8 * i) % 256).toNat
theorem dby_dbN (y : Int) (i : Nat) : dby y i = (dbN y i : Int) := by
  unfold dby dbN
  rw [and255]
  omega
theorem dbN_lt (y : Int) (i : Nat) : dbN y i < 256 := by
  unfold dbN
  omega
def bx (s : ByteArray) (p : Nat) (y : Int) : Nat → List Int
  | 0 => bytesOf s
  | i + 1 => (bx s p y i).set (p + i) (Go.bits .xor .u8 ((bx s p y i).getD (p + i) 0) (dby y i))
theorem bx_length (s : ByteArray) (p : Nat) (y : Int) : ∀ i, (bx s p y i).length = s.size
  | 0 => bytesOf_length s
  | i + 1 => by show ((bx s p y i).set _ _).length = _; rw [List.length_set, bx_length s p y i]
theorem bytesOf_getD (s : ByteArray) (j : Nat) : (bytesOf s).getD j 0 = (byN s j : Int) := by
  have h := rd_bytesOf s j
  unfold rd at h
  have hb := bt_range s j
  rw [show ((j : Int)).toNat = j from by omega] at h
  rw [h]
  unfold byN
  omega
/-- What each place holds behind i rounds. -/
def gx (s : ByteArray) (p : Nat) (y : Int) (i j : Nat) : Nat := if p ≤ j ∧ j < p + i then byN s j ^^^ dbN y (j - p) else byN s j
theorem gx_lt (s : ByteArray) (p : Nat) (y : Int) (i j : Nat) : gx s p y i j < 256 := by
  unfold gx
  split
  · exact Nat.xor_lt_two_pow (n := 8) (byN_lt s j) (dbN_lt y _)
  · exact byN_lt s j
theorem bx_gx (s : ByteArray) (p : Nat) (y : Int) : ∀ i, p + i ≤ s.size → ∀ j, j < s.size → (bx s p y i).getD j 0 = (gx s p y i j : Int)
  | 0, _, j, _ => by
    show (bytesOf s).getD j 0 = _
    rw [bytesOf_getD]
    unfold gx
    rw [if_neg (by omega)]
  | i + 1, h, j, hj => by
    have ih := bx_gx s p y i (by omega)
    show ((bx s p y i).set (p + i) _).getD j 0 = _
    have hl := bx_length s p y i
    by_cases e : j = p + i
    · subst e
      have h1 : gx s p y i (p + i) = byN s (p + i) := by unfold gx; rw [if_neg (by omega)]
      have h2 : gx s p y (i + 1) (p + i) = byN s (p + i) ^^^ dbN y i := by
        unfold gx
        rw [if_pos (by omega), show p + i - p = i from by omega]
      rw [ih (p + i) hj, h1, h2, dby_dbN, u8_xor_nat _ _ (byN_lt _ _) (dbN_lt _ _)]
      simp [List.getD, show p + i < (bx s p y i).length by omega]
    · have h2 : gx s p y (i + 1) j = gx s p y i j := by
        unfold gx
        have : (p ≤ j ∧ j < p + (i + 1)) = (p ≤ j ∧ j < p + i) := propext ⟨fun h => by omega, fun h => by omega⟩
        simp only [this]
      rw [h2, ← ih j hj]
      simp [List.getD, List.getElem?_set_ne (show p + i ≠ j by omega)]
theorem st_shift8 {n : Nat} (h : n < 16777216) : stN 8 n = 256 * n := by
  rw [show (8 : Nat) = 4 + 4 from rfl, stN_add 4 4, st4_small (n := n) (by omega), st4_small (n := 16 * n) (by omega)]
  omega
/-- The states' xor goes its own way. -/
def dl (f g : Nat → Nat) : Nat → Nat
  | 0 => 0
  | k + 1 => stN 8 (dl f g k ^^^ ((f k ^^^ g k) * 16777216))
theorem dl_lt {f g : Nat → Nat} (hf : ∀ i, f i < 256) (hg : ∀ i, g i < 256) : ∀ k, dl f g k < 4294967296
  | 0 => by unfold dl; decide
  | k + 1 => stN_lt (xor_lt32 (dl_lt hf hg k) (by have := Nat.xor_lt_two_pow (n := 8) (hf k) (hg k); omega)) 8
theorem crcF_dl {f g : Nat → Nat} (hf : ∀ i, f i < 256) (hg : ∀ i, g i < 256) : ∀ k, crcF f k ^^^ crcF g k = dl f g k
  | 0 => by show 4294967295 ^^^ 4294967295 = 0; rfl
  | k + 1 => by
    show stN 8 _ ^^^ stN 8 _ = stN 8 _
    have lf := crcF_lt hf k
    have lg := crcF_lt hg k
    have bf := hf k
    have bg := hg k
    rw [← stN_xor (xor_lt32 lf (by omega)) (xor_lt32 lg (by omega)), xor_swap, crcF_dl hf hg k, ← mul_xor24]
theorem dl_same {f g : Nat → Nat} (p : Nat) (h : ∀ i, i < p → f i = g i) : ∀ k, k ≤ p → dl f g k = 0
  | 0, _ => rfl
  | k + 1, hk => by
    show stN 8 _ = 0
    rw [dl_same p h k (by omega), h k (by omega), Nat.xor_self]
    rfl
theorem dl_on {f g : Nat → Nat} (hf : ∀ i, f i < 256) (hg : ∀ i, g i < 256) (q : Nat) (h : ∀ i, q ≤ i → f i = g i) (h0 : dl f g q ≠ 0) : ∀ d, dl f g (q + d) ≠ 0
  | 0 => h0
  | d + 1 => by
    show stN 8 (dl f g (q + d) ^^^ ((f (q + d) ^^^ g (q + d)) * 16777216)) ≠ 0
    rw [h (q + d) (by omega), Nat.xor_self, Nat.zero_mul, Nat.xor_zero]
    exact fun h1 => dl_on hf hg q h h0 d (stN_inj (dl_lt hf hg _) 8 h1)
theorem step8 {a d : Nat} (ha : a < 4294967296) (hd : d < 65536) : stN 8 (a ^^^ (d * 256)) = stN 8 a ^^^ (d * 256 * 256) := by
  rw [stN_xor ha (by omega), st_shift8 (n := d * 256) (by omega), Nat.mul_comm (d * 256) 256]
theorem xor_mod8 (a b : Nat) : (a ^^^ b) % 256 = (a % 256) ^^^ (b % 256) := Nat.xor_mod_two_pow (n := 8)
theorem xor_div8 (a b : Nat) : (a ^^^ b) / 256 = (a / 256) ^^^ (b / 256) := Nat.xor_div_two_pow (n := 8)
/-- Four bytes, the first one highest. -/
theorem four_zero {a b c d : Nat} (_ha : a < 256) (hb : b < 256) (hc : c < 256) (hd : d < 256) (h : ((a * 256 * 256 * 256 ^^^ b * 256 * 256) ^^^ c * 256) ^^^ d = 0) : a = 0 ∧ b = 0 ∧ c = 0 ∧ d = 0 := by
  have e0 := congrArg (· % 256) h
  simp only [xor_mod8] at e0
  rw [show a * 256 * 256 * 256 % 256 = 0 from by omega, show b * 256 * 256 % 256 = 0 from by omega, show c * 256 % 256 = 0 from by omega, Nat.xor_self, Nat.xor_self, Nat.zero_xor] at e0
  have e1 := congrArg (· / 256) h
  simp only [xor_div8] at e1
  rw [show a * 256 * 256 * 256 / 256 = a * 256 * 256 from by omega, show b * 256 * 256 / 256 = b * 256 from by omega, show c * 256 / 256 = c from by omega, show d / 256 = 0 from by omega, Nat.xor_zero, Nat.zero_div] at e1
  have e2 := congrArg (· % 256) e1
  simp only [xor_mod8] at e2
  rw [show a * 256 * 256 % 256 = 0 from by omega, show b * 256 % 256 = 0 from by omega, Nat.xor_self, Nat.zero_xor] at e2
  have e3 := congrArg (· / 256) e1
  simp only [xor_div8] at e3
  rw [show a * 256 * 256 / 256 = a * 256 from by omega, show b * 256 / 256 = b from by omega, show c / 256 = 0 from by omega, Nat.xor_zero, Nat.zero_div] at e3
  have e4 := congrArg (· % 256) e3
  simp only [xor_mod8] at e4
  rw [show a * 256 % 256 = 0 from by omega, Nat.zero_xor] at e4
  have e5 := congrArg (· / 256) e3
  simp only [xor_div8] at e5
  rw [show a * 256 / 256 = a from by omega, show b / 256 = 0 from by omega, Nat.xor_zero, Nat.zero_div] at e5
  omega
theorem m24 (b : Nat) : b * 16777216 = b * 256 * 256 * 256 := by
  omega
set_option maxRecDepth 20000 in
theorem dl_four {f g : Nat → Nat} (hf : ∀ i, f i < 256) (hg : ∀ i, g i < 256) (p : Nat) (h : ∀ i, i < p → f i = g i) (hne : ¬ (f p = g p ∧ f (p + 1) = g (p + 1) ∧ f (p + 2) = g (p + 2) ∧ f (p + 3) = g (p + 3))) : dl f g (p + 4) ≠ 0 := by
  have h0 := dl_same p h p (Nat.le_refl _)
  have e : ∀ k, f k ^^^ g k < 256 := fun k => Nat.xor_lt_two_pow (n := 8) (hf k) (hg k)
  have e0 := e p
  have e1 := e (p + 1)
  have e2 := e (p + 2)
  have e3 := e (p + 3)
  show stN 8 (stN 8 (stN 8 (stN 8 (dl f g p ^^^ ((f p ^^^ g p) * 16777216)) ^^^ ((f (p + 1) ^^^ g (p + 1)) * 16777216)) ^^^ ((f (p + 2) ^^^ g (p + 2)) * 16777216)) ^^^ ((f (p + 3) ^^^ g (p + 3)) * 16777216)) ≠ 0
  rw [h0, Nat.zero_xor]
  generalize hA : f p ^^^ g p = A at *
  generalize hB : f (p + 1) ^^^ g (p + 1) = B at *
  generalize hC : f (p + 2) ^^^ g (p + 2) = C at *
  generalize hD : f (p + 3) ^^^ g (p + 3) = D at *
  have l1 : A * 16777216 < 4294967296 := by omega
  have B24 := m24 B
  have C24 := m24 C
  have D24 := m24 D
  have A24 := m24 A
  have b2 : B * 256 * 256 < 4294967296 := by omega
  have c1 : C * 256 < 4294967296 := by omega
  have d0 : D < 4294967296 := by omega
  have b65 : B * 256 < 65536 := by omega
  have c65 : C < 65536 := by omega
  have c66 : C * 256 < 65536 := by omega
  have d65 : D < 65536 := by omega
  have d66 : D * 256 < 65536 := by omega
  have d24 : D < 16777216 := by omega
  have l2 := xor_lt32 l1 b2
  have l3 := xor_lt32 l2 c1
  have l4 := xor_lt32 l3 d0
  have s1 := step8 (d := B * 256) l1 b65
  have s2a := step8 (d := C) l2 c65
  have s2b := step8 (d := C * 256) (stN_lt l2 8) c66
  have s3a : stN 8 (((A * 16777216 ^^^ B * 256 * 256) ^^^ C * 256) ^^^ D) = stN 8 ((A * 16777216 ^^^ B * 256 * 256) ^^^ C * 256) ^^^ (D * 256) := by
    rw [stN_xor l3 d0, st_shift8 (n := D) d24, Nat.mul_comm 256 D]
  have s3b := step8 (d := D) (stN_lt l3 8) d65
  have s3c := step8 (d := D * 256) (stN_lt (stN_lt l3 8) 8) d66
  rw [B24, C24, D24, ← s1, ← s2b, ← s2a, ← s3c, ← s3b, ← s3a]
  intro hz
  have z1 := stN_inj (stN_lt (stN_lt (stN_lt l4 8) 8) 8) 8 hz
  have z2 := stN_inj (stN_lt (stN_lt l4 8) 8) 8 z1
  have z3 := stN_inj (stN_lt l4 8) 8 z2
  have z4 := stN_inj l4 8 z3
  rw [A24] at z4
  obtain ⟨a0, b0, c0, d0⟩ := four_zero e0 e1 e2 e3 z4
  exact hne ⟨eq_of_xor (hA.trans a0), eq_of_xor (hB.trans b0), eq_of_xor (hC.trans c0), eq_of_xor (hD.trans d0)⟩
theorem xor_same {a b : Nat} (h : a = a ^^^ b) : b = 0 := by
  have h1 : a ^^^ a = a ^^^ (a ^^^ b) := by rw [← h]
  rw [Nat.xor_self, ← Nat.xor_assoc, Nat.xor_self, Nat.zero_xor] at h1
  exact h1.symm
theorem dbN_zero (y : Int) (h0 : dbN y 0 = 0) (h1 : dbN y 1 = 0) (h2 : dbN y 2 = 0) (h3 : dbN y 3 = 0) : y % 4294967296 = 0 := by
  unfold dbN at h0 h1 h2 h3
  rw [show (2 : Int) ^ (8 * 0) = 1 from rfl] at h0
  rw [show (2 : Int) ^ (8 * 1) = 256 from rfl] at h1
  rw [show (2 : Int) ^ (8 * 2) = 65536 from rfl] at h2
  rw [show (2 : Int) ^ (8 * 3) = 16777216 from rfl] at h3
  omega
/-- Another text. -/
theorem burst_ne (s : ByteArray) (p : Nat) (y : Int) (hp : p + 4 ≤ s.size) (hy : Go.bits .and .i64 y 4294967295 ≠ 0) : sumv s ≠ sumv (strOfNums (bx s p y 4)) := by
  have hl := bx_length s p y 4
  have hz := strOfNums_size (bx s p y 4)
  rw [sumv_crcF s (byN s) s.size rfl (fun _ _ => rfl), sumv_crcF (strOfNums (bx s p y 4)) (gx s p y 4) s.size (by omega) (fun j hj => byN_num _ j _ (by omega) (gx_lt s p y 4 j) (bx_gx s p y 4 hp j hj))]
  intro h
  have h1 : 4294967295 ^^^ crcF (byN s) s.size = 4294967295 ^^^ crcF (gx s p y 4) s.size := by omega
  have h2 : crcF (byN s) s.size ^^^ crcF (gx s p y 4) s.size = 0 := by
    have h3 := congrArg (4294967295 ^^^ ·) h1
    simp only [← Nat.xor_assoc, Nat.xor_self, Nat.zero_xor] at h3
    rw [h3, Nat.xor_self]
  rw [crcF_dl (byN_lt s) (gx_lt s p y 4)] at h2
  have hg : ∀ i, i < 4 → gx s p y 4 (p + i) = byN s (p + i) ^^^ dbN y i := fun i hi => by
    unfold gx
    rw [if_pos (by omega), show p + i - p = i from by omega]
  have h4 := dl_four (byN_lt s) (gx_lt s p y 4) p (fun i hi => by unfold gx; rw [if_neg (by omega)]) (fun ⟨a, b, c, d⟩ => by
    have g0 := hg 0 (by omega)
    rw [Nat.add_zero] at g0
    rw [g0] at a
    rw [hg 1 (by omega)] at b
    rw [hg 2 (by omega)] at c
    rw [hg 3 (by omega)] at d
    exact hy (by rw [and32]; exact dbN_zero y (xor_same a) (xor_same b) (xor_same c) (xor_same d)))
  have h5 := dl_on (byN_lt s) (gx_lt s p y 4) (p + 4) (fun i hi => by unfold gx; rw [if_neg (by omega)]) h4 (s.size - (p + 4))
  rw [show p + 4 + (s.size - (p + 4)) = s.size from by omega] at h5
  exact h5 h2
end Go.Proofs.Ytnpahhlgniaddaa.Hand
