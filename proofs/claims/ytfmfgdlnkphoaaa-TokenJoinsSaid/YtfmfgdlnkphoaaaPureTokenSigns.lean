/- Proved: of any text the program tells the signs, or the place of what is none, as the document does. No condition. -/
import Derived.Test.YtfmfgdlnkphoaaaPx5
import Derived.Test.YtfmfgdlnkphoaaaHtok
namespace Go.Proofs.Ytfmfgdlnkphoaaa.Pure
open Go.RowKit Go.Proofs.Ytfmfgdlnkphoaaa.Hand Go.Proofs.Ytfmfgdlnkphoaaa.Px Go.Proofs.YtfmfgdlnkphoaaaW.PrintWords Go.Proofs.YtfmfgdlnkphoaaaW.PrintLast
set_option linter.unusedVariables false
set_option linter.unusedSimpArgs false

theorem rd_nat (l : List S30) (i : Nat) : rd_T30 l (i : Int) = l.getD i z30 := by
  unfold rd_T30; rw [show ((i : Int)).toNat = i from by omega]
theorem same_l0 (a : List S30) (hm : a.length ≤ 9223372036854775806) (d : Nat) : ∀ (i k : Nat) (b : List S30), a = b → i + d = a.length →
    sinewref08_Same.l0 (k + d + 1) a b i = some true := by
  induction d with
  | zero =>
    intro i k b hb hi
    subst hb
    show sinewref08_Same.l0 (k + 1) a a i = _
    rw [sinewref08_Same.l0, if_neg (by omega)]
  | succ d ih =>
    intro i k b hb hi
    subst hb
    rw [show k + (d + 1) + 1 = (k + d + 1) + 1 from by omega, sinewref08_Same.l0, if_pos (by omega), if_pos (by omega), if_pos (by omega), w64 _ (by omega) (by omega)]
    rw [if_neg (by simp)]
    exact ih (i + 1) k a rfl (by omega)
theorem same_self (a : List S30) (hm : a.length ≤ 9223372036854775806) (k : Nat) (hk : a.length < k) : sinewref08_Same.f k a a = some true := by
  unfold sinewref08_Same.f
  rw [if_pos rfl]
  have := same_l0 a hm a.length 0 (k - a.length - 1) a rfl (by omega)
  rw [show k - a.length - 1 + a.length + 1 = k from by omega] at this
  exact this
theorem sg_len : ∀ (n : Nat) (u : List UInt8) (a : Nat) (acc : List S30), u.length ≤ n → (sg u a acc).1.length ≤ acc.length + u.length := by
  intro n
  induction n with
  | zero =>
    intro u a acc h
    cases u with
    | nil => rw [sg_nil]; simp
    | cons b r => simp at h
  | succ n ih =>
    intro u a acc h
    cases u with
    | nil => rw [sg_nil]; simp
    | cons b r =>
      rw [List.length_cons] at h
      have h1 := rest_le r
      rw [sg_cons, List.length_cons]
      split
      · have := ih r (a + 1) acc (by omega); omega
      split
      · split
        · simp
        · have := ih (rest r) (a + ((rn r).length + 1)) (acc ++ [⟨1, mkB (b :: rn r), (a : Int)⟩]) (by omega)
          rw [List.length_append] at this; simp at this; omega
      split
      · split
        · simp
        · have := ih (rest r) (a + ((rn r).length + 1)) (acc ++ [⟨2, mkB (rn r), (a : Int)⟩]) (by omega)
          rw [List.length_append] at this; simp at this; omega
      split
      · have := ih r (a + 1) (acc ++ [⟨3, mkB [b], (a : Int)⟩]) (by omega)
        rw [List.length_append] at this; simp at this; omega
      · simp
theorem awake_some (k : Nat) (hk : 16500 ≤ k) : sinewlaw08_awake.f k = some true := by
  refine up sinewlaw08_awake.mono (k := 40) ?_ (by omega)
  decide +kernel
theorem TokenSigns : sinewlaw08_TokenSigns.Pure := by
  intro s hs
  refine ⟨25000, ?_⟩
  unfold sinewlaw08_TokenSigns.f
  rw [signs_f s _ (by omega), refsigns_f s _ (by omega), awake_some _ (by omega)]
  have hl : (if 4096 < s.size then (([], 0, 1) : List S30 × Int × Int) else sg (L s) 0 []).1.length ≤ 4096 := by
    split
    · simp
    · have := sg_len _ (L s) 0 [] (Nat.le_refl _)
      rw [L_length] at this; simp at this; omega
  simp only [Option.bind_some]
  rw [same_self _ (by omega) _ (by omega)]
  simp
end Go.Proofs.Ytfmfgdlnkphoaaa.Pure
