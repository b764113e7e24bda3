import Derived.Test.YtmbaebedkobijaaAbS05c
import Derived.Test.YtmbaebedkobijaaHis
/- sinew/words: Is. -/
namespace Go.Ab
open Go.RowKit Go.Proofs Go.Proofs.Ytmbaebedkobijaa.Hand
set_option linter.unusedVariables false
set_option linter.unusedSimpArgs false
def L (s : ByteArray) : List UInt8 := s.data.toList
theorem L_length (s : ByteArray) : (L s).length = s.size := by unfold L; rw [Array.length_toList]; rfl
/-- The rune at a place: a byte below 128, or one that is no byte of a word; a byte wide where it is below 128. -/
theorem dec (s : ByteArray) (i : Nat) : ((L s).getD i 0).toNat < 128 ∧ Utf8.decode s i = (((L s).getD i 0).toNat, 1) ∨ 128 ≤ ((L s).getD i 0).toNat ∧ oddR (Utf8.decode s i).1 = true := by
  have hb : ∀ x : UInt8, x.toNat < 256 := fun x => UInt8.toNat_lt x
  rw [Lib.decode_N]
  have h : ∀ n : Nat, 128 ≤ n → oddR n = true := by
    intro n hn
    unfold oddR
    have e1 : decide (122 < n) = true := decide_eq_true (by omega)
    have e2 : decide (57 < n) = true := decide_eq_true (by omega)
    have e3 : (n != 45) = true := bne_iff_ne.mpr (by omega)
    have e4 : (n != 58) = true := bne_iff_ne.mpr (by omega)
    rw [e1, e2, e3, e4]; simp
  show ((L s).getD i 0).toNat < 128 ∧ Lib.decodeN ((L s).length - i) ((L s).getD i 0).toNat ((L s).getD (i + 1) 0).toNat ((L s).getD (i + 2) 0).toNat ((L s).getD (i + 3) 0).toNat = _ ∨ _
  rcases Lib.decodeN_shape ((L s).length - i) ((L s).getD i 0).toNat ((L s).getD (i + 1) 0).toNat ((L s).getD (i + 2) 0).toNat ((L s).getD (i + 3) 0).toNat with ⟨h1, h2⟩ | ⟨h1, _, _, h3, h2⟩ | ⟨h1, _, _, _, h3, _, h2⟩ | ⟨h1, _, _, _, _, h3, _, h2⟩ | h2
  · exact .inl ⟨h1, h2⟩
  · refine .inr ⟨by omega, ?_⟩; show oddR (Lib.decodeN ((L s).length - i) ((L s).getD i 0).toNat ((L s).getD (i + 1) 0).toNat ((L s).getD (i + 2) 0).toNat ((L s).getD (i + 3) 0).toNat).1 = true; rw [h2]; exact h _ h3
  · refine .inr ⟨by omega, ?_⟩; show oddR (Lib.decodeN ((L s).length - i) ((L s).getD i 0).toNat ((L s).getD (i + 1) 0).toNat ((L s).getD (i + 2) 0).toNat ((L s).getD (i + 3) 0).toNat).1 = true; rw [h2]; exact h _ (by omega)
  · refine .inr ⟨by omega, ?_⟩; show oddR (Lib.decodeN ((L s).length - i) ((L s).getD i 0).toNat ((L s).getD (i + 1) 0).toNat ((L s).getD (i + 2) 0).toNat ((L s).getD (i + 3) 0).toNat).1 = true; rw [h2]; exact h _ (by omega)
  · by_cases c : ((L s).getD i 0).toNat < 128
    · refine .inl ⟨c, ?_⟩; unfold Lib.decodeN; rw [if_pos c]
    · refine .inr ⟨by omega, ?_⟩; show oddR (Lib.decodeN ((L s).length - i) ((L s).getD i 0).toNat ((L s).getD (i + 1) 0).toNat ((L s).getD (i + 2) 0).toNat ((L s).getD (i + 3) 0).toNat).1 = true; rw [h2]; exact h _ (by decide)
/-- Is a byte none of a word? -/
def oddB (b : UInt8) : Bool := oddR b.toNat
theorem odd_great (b : UInt8) (h : 128 ≤ b.toNat) : oddB b = true := by
  unfold oddB oddR
  have e1 : decide (122 < b.toNat) = true := decide_eq_true (by omega)
  have e2 : decide (57 < b.toNat) = true := decide_eq_true (by omega)
  have e3 : (b.toNat != 45) = true := bne_iff_ne.mpr (by omega)
  have e4 : (b.toNat != 58) = true := bne_iff_ne.mpr (by omega)
  rw [e1, e2, e3, e4]; simp
theorem idx_any (s : ByteArray) : ∀ (f i : Nat), s.size - i ≤ f → decide (0 ≤ Lib.idxFuncFrom oddR true s f i) = ((L s).drop i).any oddB := by
  have hl := L_length s
  intro f
  induction f with
  | zero =>
    intro i hi
    rw [List.drop_of_length_le (by omega)]
    rfl
  | succ f ih =>
    intro i hi
    rw [Lib.idxFuncFrom]
    by_cases c : i < s.size
    · rw [if_pos c, List.drop_eq_getElem_cons (show i < (L s).length by omega), List.any_cons]
      have e : (L s).getD i 0 = (L s)[i]'(by omega) := by simp [List.getD, show i < (L s).length by omega]
      rcases dec s i with ⟨h1, h2⟩ | ⟨h1, h2⟩
      · rw [h2, e]
        by_cases p : oddR ((L s)[i]'(by omega)).toNat = true
        · rw [if_pos p]
          show _ = (oddR _ || _)
          rw [p]
          simp
        · rw [if_neg p]
          show _ = (oddR _ || _)
          rw [Bool.eq_false_iff.mpr p, Bool.false_or]
          exact ih (i + 1) (by omega)
      · rw [if_pos h2]
        rw [e] at h1
        rw [odd_great _ h1]
        simp
    · rw [if_neg c, List.drop_of_length_le (by omega)]
      rfl
theorem is_f (s : ByteArray) : words_Is.f s = some ((decide (s.size ≠ 0) && decide (s.size ≤ 16)) && !((L s).any oddB)) := by
  unfold words_Is.f Lib.idxFunc
  rw [idx_any s s.size 0 (by omega), List.drop_zero]
/-- Is a text a word? -/
def isW (s : List UInt8) : Bool := (decide (s.length ≠ 0) && decide (s.length ≤ 16)) && !(s.any oddB)
def a9 : Fn := fun args st => match args with | [.str s] => some (.ret (.bool (isW s)), st) | _ => none
theorem simA9 : Sim Try.prog 9 a9 := by
  refine Sim.strB isW (by kernel_rfl) fun s w => ?_
  refine words_Is.calls ⟨s.toArray⟩ (isW s) w ?_
  rw [is_f]
  unfold isW L
  simp [ByteArray.size]
noncomputable def s9 : Fn := sealF a9
noncomputable def s24 : Fn := sealF a24
theorem sim9 : Sim Try.prog 9 s9 := simA9.sealed
theorem sim24 : Sim Try.prog 24 s24 := simA24.sealed
theorem is_s (s : List UInt8) (st : St) : s9 [.str s] st = some (.ret (.bool (isW s)), st) := by unfold s9; rw [sealF_eq]; rfl
theorem sort_s (args : List V) (st : St) : s24 args st = a24 args st := by unfold s24; rw [sealF_eq]
end Go.Ab
