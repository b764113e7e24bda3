/- Proved: of any three texts, cut to the shortest one's length of at most 2^13 bytes, the sum of all three, one xor the others byte by byte, is the xor of their three sums. No condition. -/
import Derived.Test.YtnpahhlgniaddaaHref
import Derived.Test.YtnpahhlgniaddaaPx2
namespace Go.Proofs.Ytnpahhlgniaddaa.Pure
open Go.RowKit Go.Proofs.Ytnpahhlgniaddaa.Hand Go.Proofs.Ytnpahhlgniaddaa.Px Go.Proofs.YtnpahhlgniaddaaW.PrintWords Go.Proofs.YtnpahhlgniaddaaW.PrintLast

/-- The state over numbers told one by one. -/
def crcF (f : Nat → Nat) : Nat → Nat
  | 0 => 4294967295
  | k + 1 => stN 8 (crcF f k ^^^ (f k * 16777216))
theorem crcN_crcF (s : ByteArray) : ∀ k, crcN s k = crcF (byN s) k
  | 0 => rfl
  | k + 1 => by show stN 8 (crcN s k ^^^ _) = stN 8 (crcF _ k ^^^ _); rw [crcN_crcF s k]
theorem crcF_congr {f g : Nat → Nat} : ∀ k, (∀ i, i < k → f i = g i) → crcF f k = crcF g k
  | 0, _ => rfl
  | k + 1, h => by
    show stN 8 (crcF f k ^^^ _) = stN 8 (crcF g k ^^^ _)
    rw [crcF_congr k (fun i hi => h i (by omega)), h k (by omega)]
theorem mul_xor24 (a b : Nat) : (a ^^^ b) * 16777216 = (a * 16777216) ^^^ (b * 16777216) := by
  have h := Nat.shiftLeft_xor_distrib (a := a) (b := b) (i := 24)
  rw [Nat.shiftLeft_eq, Nat.shiftLeft_eq, Nat.shiftLeft_eq] at h
  exact h
theorem crcF_lt {f : Nat → Nat} (hf : ∀ i, f i < 256) : ∀ k, crcF f k < 4294967296
  | 0 => by unfold crcF; decide
  | k + 1 => stN_lt (xor_lt32 (crcF_lt hf k) (by have := hf k; omega)) 8
theorem xor3 (a b c x y z : Nat) : (a ^^^ b ^^^ c) ^^^ (x ^^^ y ^^^ z) = (a ^^^ x) ^^^ (b ^^^ y) ^^^ (c ^^^ z) := by
  rw [xor_swap (a ^^^ b) c (x ^^^ y) z, xor_swap a b x y]
theorem crcF_xor3 {f g h : Nat → Nat} (hf : ∀ i, f i < 256) (hg : ∀ i, g i < 256) (hh : ∀ i, h i < 256) : ∀ k, crcF (fun i => f i ^^^ g i ^^^ h i) k = crcF f k ^^^ crcF g k ^^^ crcF h k
  | 0 => by
    show 4294967295 = 4294967295 ^^^ 4294967295 ^^^ 4294967295
    rfl
  | k + 1 => by
    show stN 8 (crcF _ k ^^^ (f k ^^^ g k ^^^ h k) * 16777216) = stN 8 (crcF f k ^^^ _) ^^^ stN 8 (crcF g k ^^^ _) ^^^ stN 8 (crcF h k ^^^ _)
    have lf := crcF_lt hf k
    have lg := crcF_lt hg k
    have lh := crcF_lt hh k
    have bf := hf k
    have bg := hg k
    have bh := hh k
    rw [crcF_xor3 hf hg hh k, mul_xor24, mul_xor24, xor3]
    rw [stN_xor (xor_lt32 (xor_lt32 lf (by omega)) (xor_lt32 lg (by omega))) (xor_lt32 lh (by omega)), stN_xor (xor_lt32 lf (by omega)) (xor_lt32 lg (by omega))]
theorem sumv_crcF (s : ByteArray) (f : Nat → Nat) (n : Nat) (hn : s.size = n) (hf : ∀ i, i < n → byN s i = f i) : sumv s = ((4294967295 ^^^ crcF f n : Nat) : Int) := by
  rw [sumv_crcN, hn, crcN_crcF, crcF_congr n hf]
theorem byN_num (xs : List Int) (j v : Nat) (hj : j < xs.length) (hv : v < 256) (h : xs.getD j 0 = (v : Int)) : byN (strOfNums xs) j = v := by
  unfold byN bt
  have hs := strOfNums_size xs
  have e : ((j : Int)).toNat = j := by omega
  rw [dif_pos (by omega)]
  have hx : xs[j] = (v : Int) := by rw [← h]; simp [hj]
  have : ((strOfNums xs)[((j : Int)).toNat]'(by omega)) = UInt8.ofNat v := by
    show ((xs.map fun n => UInt8.ofNat n.toNat).toArray)[((j : Int)).toNat]'_ = _
    simp [hx]
  rw [this]
  simp
  omega
theorem byN_extract (s : ByteArray) (n j : Nat) (hn : n ≤ s.size) (hj : j < n) : byN (s.extract 0 n) j = byN s j := by
  unfold byN bt
  have h1 : (s.extract 0 n).size = n := by simp; omega
  rw [dif_pos (by omega), dif_pos (by omega)]
  congr 2
  simp [ByteArray.getElem_extract]
theorem size_extract (s : ByteArray) (n : Nat) (hn : n ≤ s.size) : (s.extract 0 n).size = n := by simp; omega
def val3 (a b c : ByteArray) (j : Nat) : Nat := byN a j ^^^ byN b j ^^^ byN c j
theorem val3_lt (a b c : ByteArray) (j : Nat) : val3 a b c j < 256 :=
  Nat.xor_lt_two_pow (n := 8) (Nat.xor_lt_two_pow (n := 8) (byN_lt a j) (byN_lt b j)) (byN_lt c j)
theorem val3_bits (a b c : ByteArray) (j : Nat) : Go.bits .xor .u8 (Go.bits .xor .u8 (bt a j) (bt b j)) (bt c j) = (val3 a b c j : Int) := by
  have ha := bt_range a j
  have hb := bt_range b j
  have hc := bt_range c j
  have ea : bt a j = (byN a j : Int) := by unfold byN; omega
  have eb : bt b j = (byN b j : Int) := by unfold byN; omega
  have ec : bt c j = (byN c j : Int) := by unfold byN; omega
  rw [ea, eb, ec, u8_xor_nat _ _ (byN_lt a j) (byN_lt b j), u8_xor_nat _ _ (Nat.xor_lt_two_pow (n := 8) (byN_lt a j) (byN_lt b j)) (byN_lt c j)]
  rfl
theorem cancel3 (x y z : Nat) : 4294967295 ^^^ (x ^^^ y ^^^ z) = (4294967295 ^^^ x) ^^^ (4294967295 ^^^ y) ^^^ (4294967295 ^^^ z) := by
  have := xor3 4294967295 4294967295 4294967295 x y z
  rw [show 4294967295 ^^^ 4294967295 ^^^ 4294967295 = 4294967295 from rfl] at this
  exact this
theorem adds_loop (a b c : ByteArray) (n : Nat) (ha : n ≤ a.size) (hb : n ≤ b.size) (hc : n ≤ c.size) (hn : n ≤ 8192) (d : Nat) : ∀ (i k : Nat) (xs : List Int), i + d = n → xs.length = n → (∀ j, j < i → xs.getD j 0 = (val3 a b c j : Int)) →
    sinewlaw02_CheckAdds.l0 (k + d + 1) a b c n xs i = some true := by
  induction d with
  | zero =>
    intro i k xs hi hl hx
    have hz := strOfNums_size xs
    have e : ((n : Int)).toNat = n := by omega
    rw [sinewlaw02_CheckAdds.l0, if_neg (by omega), sum_f _ (by omega), awake_some, e]
    simp only [Option.bind_some, if_pos (show (0 : Int) ≤ n by omega), if_pos (show (n : Int) ≤ a.size by omega), if_pos (show (n : Int) ≤ b.size by omega), if_pos (show (n : Int) ≤ c.size by omega)]
    rw [sum_f _ (by rw [size_extract a n ha]; omega), sum_f _ (by rw [size_extract b n hb]; omega), sum_f _ (by rw [size_extract c n hc]; omega)]
    simp only [Option.bind_some]
    rw [sumv_crcF (strOfNums xs) (val3 a b c) n (by omega) (fun j hj => byN_num xs j _ (by omega) (val3_lt a b c j) (hx j (by omega)))]
    rw [sumv_crcF (a.extract 0 n) (byN a) n (size_extract a n ha) (fun j hj => byN_extract a n j ha hj)]
    rw [sumv_crcF (b.extract 0 n) (byN b) n (size_extract b n hb) (fun j hj => byN_extract b n j hb hj)]
    rw [sumv_crcF (c.extract 0 n) (byN c) n (size_extract c n hc) (fun j hj => byN_extract c n j hc hj)]
    have la := xor_lt32 (a := 4294967295) (by omega) (crcF_lt (byN_lt a) n)
    have lb := xor_lt32 (a := 4294967295) (by omega) (crcF_lt (byN_lt b) n)
    have lc := xor_lt32 (a := 4294967295) (by omega) (crcF_lt (byN_lt c) n)
    have lab := xor_lt32 la lb
    rw [bits_xor63 _ _ (by omega) (by omega), bits_xor63 _ _ (by omega) (by omega)]
    have hv : crcF (val3 a b c) n = crcF (byN a) n ^^^ crcF (byN b) n ^^^ crcF (byN c) n := crcF_xor3 (byN_lt a) (byN_lt b) (byN_lt c) n
    rw [if_pos (by rw [hv, cancel3])]
  | succ d ih =>
    intro i k xs hi hl hx
    rw [show k + (d + 1) + 1 = (k + d + 1) + 1 from by omega, sinewlaw02_CheckAdds.l0, if_pos (by omega), if_pos (by omega), if_pos (by omega), if_pos (by omega), if_pos (by omega), if_pos (by omega), val3_bits, w64 ((i : Int) + 1) (by omega) (by omega)]
    refine ih (i + 1) k _ (by omega) (by rw [List.length_set]; exact hl) (fun j hj => ?_)
    have e : ((i : Int)).toNat = i := by omega
    rw [e]
    by_cases h : j = i
    · subst h
      simp [List.getD, show j < xs.length by omega]
    · have := hx j (by omega)
      rw [← this]
      simp [List.getD, List.getElem?_set_ne (show i ≠ j by omega)]
theorem CheckAdds : sinewlaw02_CheckAdds.Pure := by
  intro a b c ha hb hc
  have hm : ∃ n : Nat, mn (a.size : Int) (mn (b.size : Int) (c.size : Int)) = (n : Int) ∧ n ≤ a.size ∧ n ≤ b.size ∧ n ≤ c.size := by
    unfold mn
    split <;> split <;> first | exact ⟨a.size, by omega⟩ | exact ⟨b.size, by omega⟩ | exact ⟨c.size, by omega⟩
  obtain ⟨n, hm, h1, h2, h3⟩ := hm
  refine ⟨0 + n + 1, ?_⟩
  unfold sinewlaw02_CheckAdds.f
  rw [hm, awake_some]
  by_cases h : (n : Int) > 8192
  · rw [if_pos h]; rfl
  rw [if_neg h, if_pos (by omega), if_pos (by omega)]
  exact adds_loop a b c n h1 h2 h3 (by omega) n 0 0 _ (by omega) (by rw [List.length_replicate]; omega) (fun j hj => by omega)
end Go.Proofs.Ytnpahhlgniaddaa.Pure
