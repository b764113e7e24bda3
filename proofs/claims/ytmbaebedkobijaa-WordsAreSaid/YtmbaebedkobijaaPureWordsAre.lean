/- Proved: of any text the program tells whether it is a word, as the document does. No condition. -/
import Derived.Test.YtmbaebedkobijaaPx1
namespace Go.Proofs.Ytmbaebedkobijaa.Pure
open Go.RowKit Go.Proofs.Ytmbaebedkobijaa.Hand Go.Proofs.Ytmbaebedkobijaa.Px Go.Proofs.YtmbaebedkobijaaW.PrintWords Go.Proofs.YtmbaebedkobijaaW.PrintLast
set_option linter.unusedVariables false
set_option linter.unusedSimpArgs false

theorem w64 (x : Int) (h0 : -9223372036854775808 ≤ x) (h1 : x < 9223372036854775808) : wrap64 x = x := by
  unfold wrap64; omega
def L (s : ByteArray) : List UInt8 := s.data.toList
theorem L_length (s : ByteArray) : (L s).length = s.size := by unfold L; rw [Array.length_toList]; rfl
theorem bt_L (s : ByteArray) (i : Nat) : bt s i = (((L s).getD i 0).toNat : Int) := by
  have h := rd_bytesOf s i
  unfold rd at h
  rw [show ((i : Int)).toNat = i from by omega] at h
  rw [← h]
  unfold bytesOf L
  simp only [List.getD_eq_getElem?_getD, List.getElem?_map]
  cases s.data.toList[i]? <;> simp
/-- The rune at a place: a byte below 128, or one that is no byte of a word; a byte wide where it is below 128. -/
theorem dec (s : ByteArray) (i : Nat) : ((L s).getD i 0).toNat < 128 ∧ Utf8.decode s i = (((L s).getD i 0).toNat, 1) ∨ 128 ≤ ((L s).getD i 0).toNat ∧ oddR (Utf8.decode s i).1 = true := by
  have hb : ∀ x : UInt8, x.toNat < 256 := fun x => UInt8.toNat_lt x
  rw [Lib.decode_N]
  have h : ∀ n : Nat, 128 ≤ n → oddR n = true := by
    intro n hn
    unfold oddR
    have e1 : decide (122 < n) = true := decide_eq_true (by omega)
    have e2 : decide (57 < n) = true := decide_eq_true (by omega)
    have e3 : (n != 45) = true := bne_iff_ne.mpr (by omega)
    have e4 : (n != 58) = true := bne_iff_ne.mpr (by omega)
    rw [e1, e2, e3, e4]; simp
  show ((L s).getD i 0).toNat < 128 ∧ Lib.decodeN ((L s).length - i) ((L s).getD i 0).toNat ((L s).getD (i + 1) 0).toNat ((L s).getD (i + 2) 0).toNat ((L s).getD (i + 3) 0).toNat = _ ∨ _
  rcases Lib.decodeN_shape ((L s).length - i) ((L s).getD i 0).toNat ((L s).getD (i + 1) 0).toNat ((L s).getD (i + 2) 0).toNat ((L s).getD (i + 3) 0).toNat with ⟨h1, h2⟩ | ⟨h1, _, _, h3, h2⟩ | ⟨h1, _, _, _, h3, _, h2⟩ | ⟨h1, _, _, _, _, h3, _, h2⟩ | h2
  · exact .inl ⟨h1, h2⟩
  · refine .inr ⟨by omega, ?_⟩; show oddR (Lib.decodeN ((L s).length - i) ((L s).getD i 0).toNat ((L s).getD (i + 1) 0).toNat ((L s).getD (i + 2) 0).toNat ((L s).getD (i + 3) 0).toNat).1 = true; rw [h2]; exact h _ h3
  · refine .inr ⟨by omega, ?_⟩; show oddR (Lib.decodeN ((L s).length - i) ((L s).getD i 0).toNat ((L s).getD (i + 1) 0).toNat ((L s).getD (i + 2) 0).toNat ((L s).getD (i + 3) 0).toNat).1 = true; rw [h2]; exact h _ (by omega)
  · refine .inr ⟨by omega, ?_⟩; show oddR (Lib.decodeN ((L s).length - i) ((L s).getD i 0).toNat ((L s).getD (i + 1) 0).toNat ((L s).getD (i + 2) 0).toNat ((L s).getD (i + 3) 0).toNat).1 = true; rw [h2]; exact h _ (by omega)
  · by_cases c : ((L s).getD i 0).toNat < 128
    · refine .inl ⟨c, ?_⟩; unfold Lib.decodeN; rw [if_pos c]
    · refine .inr ⟨by omega, ?_⟩; show oddR (Lib.decodeN ((L s).length - i) ((L s).getD i 0).toNat ((L s).getD (i + 1) 0).toNat ((L s).getD (i + 2) 0).toNat ((L s).getD (i + 3) 0).toNat).1 = true; rw [h2]; exact h _ (by decide)
/-- Is a byte none of a word? -/
def oddB (b : UInt8) : Bool := oddR b.toNat
theorem odd_great (b : UInt8) (h : 128 ≤ b.toNat) : oddB b = true := by
  unfold oddB oddR
  have e1 : decide (122 < b.toNat) = true := decide_eq_true (by omega)
  have e2 : decide (57 < b.toNat) = true := decide_eq_true (by omega)
  have e3 : (b.toNat != 45) = true := bne_iff_ne.mpr (by omega)
  have e4 : (b.toNat != 58) = true := bne_iff_ne.mpr (by omega)
  rw [e1, e2, e3, e4]; simp
theorem idx_any (s : ByteArray) : ∀ (f i : Nat), s.size - i ≤ f → decide (0 ≤ Lib.idxFuncFrom oddR true s f i) = ((L s).drop i).any oddB := by
  have hl := L_length s
  intro f
  induction f with
  | zero =>
    intro i hi
    rw [List.drop_of_length_le (by omega)]
    rfl
  | succ f ih =>
    intro i hi
    rw [Lib.idxFuncFrom]
    by_cases c : i < s.size
    · rw [if_pos c, List.drop_eq_getElem_cons (show i < (L s).length by omega), List.any_cons]
      have e : (L s).getD i 0 = (L s)[i]'(by omega) := by simp [List.getD, show i < (L s).length by omega]
      rcases dec s i with ⟨h1, h2⟩ | ⟨h1, h2⟩
      · rw [h2, e]
        by_cases p : oddR ((L s)[i]'(by omega)).toNat = true
        · rw [if_pos p]
          show _ = (oddR _ || _)
          rw [p]
          simp
        · rw [if_neg p]
          show _ = (oddR _ || _)
          rw [Bool.eq_false_iff.mpr p, Bool.false_or]
          exact ih (i + 1) (by omega)
      · rw [if_pos h2]
        rw [e] at h1
        rw [odd_great _ h1]
        simp
    · rw [if_neg c, List.drop_of_length_le (by omega)]
      rfl
theorem is_f (s : ByteArray) : words_Is.f s = some ((decide (s.size ≠ 0) && decide (s.size ≤ 16)) && !((L s).any oddB)) := by
  unfold words_Is.f Lib.idxFunc
  rw [idx_any s s.size 0 (by omega), List.drop_zero]
theorem ifs (n : Int) (G : Option Bool) : (if n < 97 then (if n < 48 then (if n = 45 then G else (if n = 58 then G else (some false))) else (if n > 57 then (if n = 45 then G else (if n = 58 then G else (some false))) else G)) else (if n > 122 then (if n < 48 then (if n = 45 then G else (if n = 58 then G else (some false))) else (if n > 57 then (if n = 45 then G else (if n = 58 then G else (some false))) else G)) else G)) =
    if (n < 97 ∨ 122 < n) ∧ (n < 48 ∨ 57 < n) ∧ n ≠ 45 ∧ n ≠ 58 then some false else G := by
  by_cases h : (n < 97 ∨ 122 < n) ∧ (n < 48 ∨ 57 < n) ∧ n ≠ 45 ∧ n ≠ 58
  · rw [if_pos h]
    repeat' split
    all_goals first | rfl | (exfalso; omega)
  · rw [if_neg h]
    repeat' split
    all_goals first | rfl | (exfalso; omega)
theorem oddB_iff (b : UInt8) : oddB b = true ↔ ((b.toNat : Int) < 97 ∨ 122 < (b.toNat : Int)) ∧ ((b.toNat : Int) < 48 ∨ 57 < (b.toNat : Int)) ∧ (b.toNat : Int) ≠ 45 ∧ (b.toNat : Int) ≠ 58 := by
  unfold oddB oddR
  simp only [Bool.and_eq_true, Bool.or_eq_true, decide_eq_true_eq, bne_iff_ne, ne_eq]
  omega
theorem ref_l0 (s : ByteArray) (hs : s.size ≤ 140737488351232) : ∀ (d i k : Nat), i + d = s.size → sinewref05_Is.l0 (k + d + 1) s i = some (!(((L s).drop i).any oddB) && (decide (1 ≤ s.size) && decide (s.size ≤ 16))) := by
  have hl := L_length s
  intro d
  induction d with
  | zero =>
    intro i k hi
    show sinewref05_Is.l0 (k + 1) s i = _
    rw [sinewref05_Is.l0, if_neg (by omega), List.drop_of_length_le (by omega)]
    by_cases c : 1 ≤ s.size
    · rw [if_pos (by omega), decide_eq_true c]
      have : decide ((s.size : Int) ≤ 16) = decide (s.size ≤ 16) := decide_eq_decide.mpr (by omega)
      rw [this]; simp
    · rw [if_neg (by omega), decide_eq_false c]; simp
  | succ d ih =>
    intro i k hi
    rw [show k + (d + 1) + 1 = (k + d + 1) + 1 from rfl, sinewref05_Is.l0, if_pos (by omega), if_pos (by omega), bt_L, ifs, w64 _ (by omega) (by omega), show ((i : Int) + 1) = ((i + 1 : Nat) : Int) from rfl, ih (i + 1) k (by omega)]
    rw [List.drop_eq_getElem_cons (show i < (L s).length by omega), List.any_cons]
    have e : (L s).getD i 0 = (L s)[i]'(by omega) := by simp [List.getD, show i < (L s).length by omega]
    rw [e]
    by_cases p : oddB ((L s)[i]'(by omega)) = true
    · rw [if_pos ((oddB_iff _).mp p), p]; simp
    · rw [if_neg (fun h => p ((oddB_iff _).mpr h)), Bool.eq_false_iff.mpr p, Bool.false_or]
theorem WordsAre : sinewlaw05_WordsAre.Pure := by
  intro s hs
  refine ⟨0 + s.size + 1, ?_⟩
  unfold sinewlaw05_WordsAre.f sinewref05_Is.f
  have := ref_l0 s hs s.size 0 0 (by omega)
  rw [show ((0 : Nat) : Int) = (0 : Int) from rfl, List.drop_zero] at this
  rw [is_f, this, is_f, is_f, Option.bind_some, Option.bind_some]
  have e : decide (s.size ≠ 0) = decide (1 ≤ s.size) := decide_eq_decide.mpr (by omega)
  rw [e, if_pos (by cases ((L s).any oddB) <;> simp)]
  decide +kernel
end Go.Proofs.Ytmbaebedkobijaa.Pure
