import Derived.Test.YtjeoenpkhfmafaaHspec
import Derived.Test.YtjeoenpkhfmafaaHrput
import Derived.Test.YtjeoenpkhfmafaaPx4
import Derived.Laws.BitsLemmas
/- The program's readers and the document's come to the plain law. -/
namespace Go.Proofs.Ytjeoenpkhfmafaa.Hand
open Go.RowKit Go.Proofs.YtjeoenpkhfmafaaW.PrintWords Go.Proofs.YtjeoenpkhfmafaaW.PrintLast Go.Proofs.YtjeoenpkhfmafaaW.PrintMore Go.Proofs.Ytjeoenpkhfmafaa.Px Go.Proofs.Ytjeoenpkhfmafaa.Pa
set_option linter.unusedVariables false
set_option linter.unusedSimpArgs false

def L (s : ByteArray) : List UInt8 := s.data.toList
theorem L_length (s : ByteArray) : (L s).length = s.size := data_len s
theorem L_toList (s : ByteArray) : s.toList = L s := ByteArray.toList_eq s
theorem bt_L (s : ByteArray) (i : Nat) : bt s i = (((L s).getD i 0).toNat : Int) := by
  have h := rd_bytesOf s i
  unfold rd at h
  rw [show ((i : Int)).toNat = i from by omega] at h
  rw [← h]
  unfold bytesOf L
  simp only [List.getD_eq_getElem?_getD, List.getElem?_map]
  cases s.data.toList[i]? <;> simp
def I3 (x : Nat × Nat × Nat) : Int × Int × Int := ((x.1 : Int), (x.2.1 : Int), (x.2.2 : Int))
theorem or_join (x y : Int) (h0 : 0 ≤ x) (h1 : x * 256 < 9223372036854775808) (h2 : 0 ≤ y) (h3 : y < 256) : Go.bits .or .i64 (x * 256) y = x * 256 + y :=
  bits_join .i64 63 (by decide) (fun n h h' => by rw [IntKind.wrap_i64]; omega) 8 (x * 256) y (by omega) (by omega) (by omega) h2 (by omega) (by omega)
theorem take_getD (r : List UInt8) (i : Nat) (h : i < r.length) : r.take (i + 1) = r.take i ++ [r.getD i 0] := by
  rw [List.take_succ_eq_append_getElem h]
  simp [List.getD, h]
theorem val_fits (b : UInt8) (r : List UInt8) (h8 : b.toNat ≤ 8) (hl : b.toNat ≤ r.length) (hb : badN b.toNat r = false) (j : Nat) (hj : j ≤ b.toNat) : val (r.take j) < 9223372036854775808 := by
  by_cases h : j = b.toNat
  · have hn : numL (b :: r) = (val (r.take b.toNat), b.toNat + 1, 0) := by
      rw [numL_cons, if_neg (by omega), if_neg (by omega), hb, if_neg (by simp)]
    have := numL_lt (l := b :: r) (by rw [hn])
    rw [hn] at this
    rw [h]
    exact this
  · have h1 := val_lt (r.take j)
    have h2 : (r.take j).length = j := by rw [List.length_take]; omega
    rw [h2] at h1
    have h3 : (256 : Nat) ^ j ≤ 256 ^ 7 := Nat.pow_le_pow_right (by decide) (by omega)
    omega
theorem num_l0 (s : ByteArray) (b : UInt8) (r : List UInt8) (hs : L s = b :: r) (hsz : s.size ≤ 4611686018427387903) (hl : b.toNat ≤ r.length) (hv : ∀ j, j ≤ b.toNat → val (r.take j) < 9223372036854775808) (d : Nat) : ∀ (i k : Nat), i + d = b.toNat →
    octet_Num.l0 (k + d + 1) s (val (r.take i)) (b.toNat : Int) (b.toNat : Int) i = some ((val (r.take b.toNat) : Int), ((b.toNat + 1 : Nat) : Int), 0) := by
  have hsl : s.size = r.length + 1 := by rw [← L_length, hs, List.length_cons]
  have hbl := b.toNat_lt
  induction d with
  | zero =>
    intro i k hi
    show octet_Num.l0 (k + 1) _ _ _ _ _ = _
    rw [octet_Num.l0, if_neg (by omega), w64 _ (by omega) (by omega)]
    obtain rfl : i = b.toNat := by omega
    rfl
  | succ d ih =>
    intro i k hi
    have h1 := hv (i + 1) (by omega)
    have h2 : val (r.take (i + 1)) = val (r.take i) * 256 + (r.getD i 0).toNat := by rw [take_getD r i (by omega), val_snoc]
    have h3 := (r.getD i 0).toNat_lt
    rw [show k + (d + 1) + 1 = (k + d + 1) + 1 from by omega, octet_Num.l0, if_pos (by omega), w64 ((i : Int) + 1) (by omega) (by omega), if_pos (by omega), if_pos (by omega)]
    have hbt : bt s ((i : Int) + 1) = ((r.getD i 0).toNat : Int) := by
      have := bt_L s (i + 1)
      rw [hs] at this
      rw [show ((i : Int) + 1) = ((i + 1 : Nat) : Int) from rfl, this]
      simp [List.getD]
    rw [hbt, w64 _ (by omega) (by omega), w64 _ (by omega) (by omega), or_join _ _ (by omega) (by omega) (by omega) (by omega)]
    have e : ((val (r.take i) : Int) * 256 + ((r.getD i 0).toNat : Int)) = ((val (r.take (i + 1)) : Nat) : Int) := by omega
    rw [e]
    exact ih (i + 1) k (by omega)
theorem size_pos_of (s : ByteArray) (b : UInt8) (r : List UInt8) (hs : L s = b :: r) : s.size = r.length + 1 := by rw [← L_length, hs, List.length_cons]
theorem octet_num (s : ByteArray) (hsz : s.size ≤ 4611686018427387903) (k : Nat) : octet_Num.f (k + 11) s = some (I3 (numL (L s))) := by
  unfold octet_Num.f
  rw [L_toList]
  cases hs : L s with
  | nil => rw [if_pos rfl]; rfl
  | cons b r =>
    have hsl := size_pos_of s b r hs
    have hb0 : bt s 0 = (b.toNat : Int) := by
      have := bt_L s 0
      rw [hs] at this
      simpa using this
    have hb1 : bt s 1 = ((r.getD 0 0).toNat : Int) := by
      have := bt_L s 1
      rw [hs] at this
      simpa [List.getD] using this
    have hbl := b.toNat_lt
    rw [if_neg (by simp), if_pos (by omega), hb0, hb1, w64 _ (by omega) (by omega), numL_cons]
    by_cases h1 : 8 < b.toNat
    · rw [if_pos (by omega), if_pos h1]; rfl
    · rw [if_neg (by omega), if_neg h1]
      by_cases h2 : r.length < b.toNat
      · rw [if_pos (by omega), if_pos h2]; rfl
      · rw [if_neg (by omega), if_neg h2]
        have key : ∀ x : Bool, x = badN b.toNat r → octet_Num.j0 (k + 11) s 0 (b.toNat : Int) x = some (I3 (if badN b.toNat r = true then (0, 0, 10) else (val (r.take b.toNat), b.toNat + 1, 0))) := by
          intro x hx
          rw [octet_Num.j0, hx]
          by_cases h3 : badN b.toNat r = true
          · rw [if_pos h3, if_pos h3]; rfl
          · rw [if_neg h3, if_neg h3]
            have := num_l0 s b r hs hsz (by omega) (val_fits b r (by omega) (by omega) (by simpa using h3)) b.toNat 0 (k + 9 - b.toNat) (by omega)
            rw [show k + 9 - b.toNat + b.toNat + 1 = k + 10 from by omega] at this
            exact this
        have hr : (0 < b.toNat) → ∃ c r', r = c :: r' := by
          intro h
          cases r with
          | nil => simp at h2; omega
          | cons c r' => exact ⟨c, r', rfl⟩
        by_cases h3 : 0 < b.toNat
        · obtain ⟨c, r', rfl⟩ := hr h3
          rw [if_pos (by omega), if_pos (by simp at hsl; omega)]
          have hc := c.toNat_lt
          simp only [List.getD_cons_zero] at hb1 ⊢
          by_cases h4 : c.toNat = 0
          · rw [if_pos (by omega)]
            exact key true (by simp [badN, h3, h4])
          · rw [if_neg (by omega)]
            by_cases h5 : b.toNat = 8
            · rw [if_pos (by omega)]
              refine key _ ?_
              have h6 : (c.toNat == 0) = false := beq_eq_false_iff_ne.mpr h4
              simp only [badN, h5, List.headD_cons, h6, Bool.and_false, Bool.false_or]
              simp only [beq_self_eq_true, Bool.true_and]
              exact decide_eq_decide.mpr (by omega)
            · rw [if_neg (by omega)]
              exact key false (by simp [badN, h4, h5])
        · rw [if_neg (by omega), if_neg (by omega)]
          exact key false (by simp [badN, show b.toNat = 0 from by omega])
theorem rnum_l0 (s : ByteArray) (b : UInt8) (r : List UInt8) (hs : L s = b :: r) (hsz : s.size ≤ 4611686018427387903) (hl : b.toNat ≤ r.length) (hv : ∀ j, j ≤ b.toNat → val (r.take j) < 9223372036854775808) (d : Nat) : ∀ (i k : Nat), i + d = b.toNat →
    sinewref01_Num.l0 (k + d + 1) s (b.toNat : Int) (val (r.take i)) ((i + 1 : Nat) : Int) = some ((val (r.take b.toNat) : Int), ((b.toNat + 1 : Nat) : Int), 0) := by
  have hsl : s.size = r.length + 1 := by rw [← L_length, hs, List.length_cons]
  have hbl := b.toNat_lt
  induction d with
  | zero =>
    intro i k hi
    show sinewref01_Num.l0 (k + 1) _ _ _ _ = _
    rw [sinewref01_Num.l0, if_neg (by omega), w64 _ (by omega) (by omega)]
    obtain rfl : i = b.toNat := by omega
    rfl
  | succ d ih =>
    intro i k hi
    have h1 := hv (i + 1) (by omega)
    have h2 : val (r.take (i + 1)) = val (r.take i) * 256 + (r.getD i 0).toNat := by rw [take_getD r i (by omega), val_snoc]
    have h3 := (r.getD i 0).toNat_lt
    have hbt : bt s ((i + 1 : Nat) : Int) = ((r.getD i 0).toNat : Int) := by
      have := bt_L s (i + 1)
      rw [hs] at this
      rw [this]
      simp [List.getD]
    rw [show k + (d + 1) + 1 = (k + d + 1) + 1 from by omega, sinewref01_Num.l0, if_pos (by omega), if_pos (by omega), if_pos (by omega), hbt, w64 ((val (r.take i) : Int) * 256) (by omega) (by omega), w64 ((r.getD i 0).toNat : Int) (by omega) (by omega), w64 ((val (r.take i) : Int) * 256 + ((r.getD i 0).toNat : Int)) (by omega) (by omega), w64 (((i + 1 : Nat) : Int) + 1) (by omega) (by omega)]
    have e : ((val (r.take i) : Int) * 256 + ((r.getD i 0).toNat : Int)) = ((val (r.take (i + 1)) : Nat) : Int) := by omega
    rw [e]
    exact ih (i + 1) k (by omega)
theorem ref_num (s : ByteArray) (hsz : s.size ≤ 4611686018427387903) (k : Nat) : sinewref01_Num.f (k + 11) s = some (I3 (numL (L s))) := by
  unfold sinewref01_Num.f
  cases hs : L s with
  | nil =>
    have := L_length s
    rw [hs] at this
    simp at this
    rw [if_pos (by omega)]; rfl
  | cons b r =>
    have hsl := size_pos_of s b r hs
    have hb0 : bt s 0 = (b.toNat : Int) := by
      have := bt_L s 0
      rw [hs] at this
      simpa using this
    have hb1 : bt s 1 = ((r.getD 0 0).toNat : Int) := by
      have := bt_L s 1
      rw [hs] at this
      simpa [List.getD] using this
    have hbl := b.toNat_lt
    rw [if_neg (by omega), if_pos (by omega), hb0, hb1, w64 _ (by omega) (by omega), w64 _ (by omega) (by omega), numL_cons]
    by_cases h1 : 8 < b.toNat
    · rw [if_pos (by omega), if_pos h1]; rfl
    · rw [if_neg (by omega), if_neg h1]
      by_cases h2 : r.length < b.toNat
      · rw [if_pos (by omega), if_pos h2]; rfl
      · rw [if_neg (by omega), if_neg h2]
        have key : ∀ x : Bool, x = badN b.toNat r → sinewref01_Num.j0 (k + 11) s (b.toNat : Int) x = some (I3 (if badN b.toNat r = true then (0, 0, 10) else (val (r.take b.toNat), b.toNat + 1, 0))) := by
          intro x hx
          rw [sinewref01_Num.j0, hx]
          by_cases h3 : badN b.toNat r = true
          · rw [if_pos h3, if_pos h3]; rfl
          · rw [if_neg h3, if_neg h3]
            have := rnum_l0 s b r hs hsz (by omega) (val_fits b r (by omega) (by omega) (by simpa using h3)) b.toNat 0 (k + 9 - b.toNat) (by omega)
            rw [show k + 9 - b.toNat + b.toNat + 1 = k + 10 from by omega] at this
            exact this
        have hr : (0 < b.toNat) → ∃ c r', r = c :: r' := by
          intro h
          cases r with
          | nil => simp at h2; omega
          | cons c r' => exact ⟨c, r', rfl⟩
        by_cases h3 : 0 < b.toNat
        · obtain ⟨c, r', rfl⟩ := hr h3
          rw [if_pos (by omega), if_pos (by simp at hsl; omega)]
          have hc := c.toNat_lt
          simp only [List.getD_cons_zero] at hb1 ⊢
          by_cases h4 : c.toNat = 0
          · rw [if_pos (by omega)]
            exact key true (by simp [badN, h3, h4])
          · rw [if_neg (by omega)]
            by_cases h5 : b.toNat = 8
            · rw [if_pos (by omega)]
              refine key _ ?_
              have h6 : (c.toNat == 0) = false := beq_eq_false_iff_ne.mpr h4
              simp only [badN, h5, List.headD_cons, h6, Bool.and_false, Bool.false_or]
              simp only [beq_self_eq_true, Bool.true_and]
              exact decide_eq_decide.mpr (by omega)
            · rw [if_neg (by omega)]
              exact key false (by simp [badN, h4, h5])
        · rw [if_neg (by omega), if_neg (by omega)]
          exact key false (by simp [badN, show b.toNat = 0 from by omega])
end Go.Proofs.Ytjeoenpkhfmafaa.Hand
