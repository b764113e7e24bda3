/- Proved: texts and words at their limits. No condition. -/
import Derived.Test.YtfmfgdlnkphoaaaPx8
import Derived.Test.YtfmfgdlnkphoaaaHmask
import Derived.Test.YtfmfgdlnkphoaaaPureTokenJoins
namespace Go.Proofs.Ytfmfgdlnkphoaaa.Pure
open Go.RowKit Go.Proofs.Ytfmfgdlnkphoaaa.Hand Go.Proofs.Ytfmfgdlnkphoaaa.Px Go.Proofs.YtfmfgdlnkphoaaaW.PrintWords Go.Proofs.YtfmfgdlnkphoaaaW.PrintLast
set_option linter.unusedVariables false
set_option linter.unusedSimpArgs false

theorem set_next (i d : Nat) : (List.replicate i (32 : Int) ++ List.replicate (d + 1) 0).set i 32 = List.replicate (i + 1) 32 ++ List.replicate d 0 := by
  rw [List.set_append_right _ _ (by simp)]
  simp only [List.length_replicate, Nat.sub_self, List.replicate_succ, List.set_cons_zero]
  rw [show (32 : Int) :: List.replicate i 32 = List.replicate (i + 1) 32 from rfl, List.replicate_succ', List.append_assoc]; rfl
theorem blanks_l0 (n : Nat) (hn : n ≤ 5000) : ∀ (d i k : Nat), i + d = n → sinewlaw08_blanks.l0 (k + d + 1) (n : Int) (List.replicate i 32 ++ List.replicate d 0) i = some (List.replicate n 32) := by
  intro d
  induction d with
  | zero =>
    intro i k h
    show sinewlaw08_blanks.l0 (k + 1) (n : Int) _ i = _
    rw [sinewlaw08_blanks.l0, if_neg (by omega), show i = n by omega]
    simp
  | succ d ih =>
    intro i k h
    rw [show k + (d + 1) + 1 = (k + d + 1) + 1 from rfl, sinewlaw08_blanks.l0, if_pos (by omega), if_pos (by omega), if_pos (by simp; omega), w64 _ (by omega) (by omega)]
    rw [show ((i : Int) : Int).toNat = i from by omega, set_next]
    exact ih (i + 1) k (by omega)
theorem blanks_f (n k : Nat) (hn : n ≤ 5000) (hk : n + 1 ≤ k) : sinewlaw08_blanks.f k (n : Int) = some (List.replicate n 32) := by
  unfold sinewlaw08_blanks.f
  rw [if_pos (by omega), if_pos (by omega), show ((n : Int)).toNat = n from by omega]
  have := blanks_l0 n hn n 0 (k - n - 1) (by omega)
  rw [show k - n - 1 + n + 1 = k from by omega] at this
  simpa using this
theorem sg_blanks : ∀ (n a : Nat) (acc : List S30), sg (List.replicate n 32) a acc = (acc, 0, 0)
  | 0, a, acc => by rw [List.replicate_zero, sg_nil]
  | n + 1, a, acc => by rw [List.replicate_succ, sg_cons, if_pos (by decide)]; exact sg_blanks n (a + 1) acc
theorem L_str (l : List Int) : L (strOfNums l) = l.map fun x => UInt8.ofNat x.toNat := by simp [L, strOfNums]
def W : List UInt8 := [97, 98, 99, 100, 101, 102, 103, 104, 105, 106, 107, 108, 109, 110, 111, 112]
def W1 : List UInt8 := [98, 99, 100, 101, 102, 103, 104, 105, 106, 107, 108, 109, 110, 111, 112]
theorem L_append (s t : ByteArray) : L (s ++ t) = L s ++ L t := by
  unfold L; rw [ByteArray.data_append, Array.toList_append]
theorem long_two (k : Nat) (hk : 16500 ≤ k) : token_Signs.f k ((((⟨#[63]⟩ : ByteArray) ++ (⟨#[97, 98, 99, 100, 101, 102, 103, 104, 105, 106, 107, 108, 109, 110, 111, 112]⟩ : ByteArray)) ++ (⟨#[32]⟩ : ByteArray)) ++ (⟨#[97, 98, 99, 100, 101, 102, 103, 104, 105, 106, 107, 108, 109, 110, 111, 112]⟩ : ByteArray)) = some ([⟨2, mkB W, 0⟩, ⟨1, mkB W, 18⟩], 0, 0) := by
  rw [signs_f _ _ hk]
  have hz : ((((⟨#[63]⟩ : ByteArray) ++ (⟨#[97, 98, 99, 100, 101, 102, 103, 104, 105, 106, 107, 108, 109, 110, 111, 112]⟩ : ByteArray)) ++ (⟨#[32]⟩ : ByteArray)) ++ (⟨#[97, 98, 99, 100, 101, 102, 103, 104, 105, 106, 107, 108, 109, 110, 111, 112]⟩ : ByteArray)).size = 34 := by simp only [ByteArray.size_append]; rfl
  have hl : L ((((⟨#[63]⟩ : ByteArray) ++ (⟨#[97, 98, 99, 100, 101, 102, 103, 104, 105, 106, 107, 108, 109, 110, 111, 112]⟩ : ByteArray)) ++ (⟨#[32]⟩ : ByteArray)) ++ (⟨#[97, 98, 99, 100, 101, 102, 103, 104, 105, 106, 107, 108, 109, 110, 111, 112]⟩ : ByteArray)) = 63 :: (W ++ (32 :: W)) := by rw [L_append, L_append, L_append]; rfl
  rw [hz, if_neg (by omega), hl, sg_cons, if_neg (by decide), if_neg (by decide)]
  have h1 : rn (W ++ (32 :: W)) = W := by decide
  have h2 : rest (W ++ (32 :: W)) = 32 :: W := by decide
  rw [h1, h2, if_pos (by decide), if_neg (by decide), sg_cons, if_pos (by decide)]
  show some (sg (97 :: W1) _ _) = _
  have h3 : rn W1 = W1 := by decide
  have h4 : rest W1 = [] := by decide
  rw [sg_cons, if_neg (by decide), if_pos (by decide), h3, h4, if_neg (by decide), sg_nil]
  rfl
theorem long_one (k : Nat) (hk : 16500 ≤ k) : token_Signs.f k (((⟨#[32]⟩ : ByteArray) ++ (⟨#[97, 98, 99, 100, 101, 102, 103, 104, 105, 106, 107, 108, 109, 110, 111, 112]⟩ : ByteArray)) ++ (⟨#[120]⟩ : ByteArray)) = some ([], 1, 80) := by
  rw [signs_f _ _ hk]
  have hz : (((⟨#[32]⟩ : ByteArray) ++ (⟨#[97, 98, 99, 100, 101, 102, 103, 104, 105, 106, 107, 108, 109, 110, 111, 112]⟩ : ByteArray)) ++ (⟨#[120]⟩ : ByteArray)).size = 18 := by simp only [ByteArray.size_append]; rfl
  have hl : L (((⟨#[32]⟩ : ByteArray) ++ (⟨#[97, 98, 99, 100, 101, 102, 103, 104, 105, 106, 107, 108, 109, 110, 111, 112]⟩ : ByteArray)) ++ (⟨#[120]⟩ : ByteArray)) = 32 :: (97 :: (W1 ++ [120])) := by rw [L_append, L_append]; rfl
  have h3 : rn (W1 ++ [120]) = W1 ++ [120] := by decide
  rw [hz, if_neg (by omega), hl, sg_cons, if_pos (by decide), sg_cons, if_neg (by decide), if_pos (by decide), h3, if_pos (by decide)]
  rfl
theorem TokenLong : sinewlaw08_TokenLong.Pure := by
  intro x hx
  refine ⟨30000, ?_⟩
  unfold sinewlaw08_TokenLong.f
  have hm : Go.bits .and .i64 x 3 = x % 4 := and_mask x 2 (by decide)
  obtain ⟨n, hn, h4⟩ : ∃ n : Nat, x % 4 = (n : Int) ∧ n ≤ 3 := ⟨(x % 4).toNat, by omega, by omega⟩
  rw [hm, hn]
  rw [if_pos (by decide), if_pos (by decide), if_pos (by simp only [ByteArray.size_append]; exact (by decide : (1 : Nat) + 16 + 1 + 16 ≤ 9223372036854775807))]
  rw [long_two 30000 (by omega), long_one 30000 (by omega)]
  rw [Option.bind_some, Option.bind_some, w64 _ (by omega) (by omega), show ((4094 : Int) + (n : Int)) = ((4094 + n : Nat) : Int) from by omega, blanks_f _ _ (by omega) (by omega), Option.bind_some, signs_f _ _ (by omega), Option.bind_some]
  have hL : L (strOfNums (List.replicate (4094 + n) 32)) = List.replicate (4094 + n) 32 := by rw [L_str, List.map_replicate]; rfl
  have hz : (strOfNums (List.replicate (4094 + n) 32)).size = 4094 + n := by rw [← L_length, hL, List.length_replicate]
  rw [hL, hz, sg_blanks, awake_some _ (by omega)]
  by_cases c : 4096 < 4094 + n
  · have : n = 3 := by omega
    subst this
    simp
  · rw [if_neg c]
    have : decide ((n : Int) ≤ 2) = true := decide_eq_true (by omega)
    simp only [this]
    simp
end Go.Proofs.Ytfmfgdlnkphoaaa.Pure
