/- Proved: for every word of 1 to 2^12 bytes and every number: among twice as many workers the word's home, taken by the lesser number, is its home among these; one worker is the home of all. No condition. -/
import Derived.Test.YtnpahhlgniaddaaPureCheckHomes
namespace Go.Proofs.Ytnpahhlgniaddaa.Pure
open Go.RowKit Go.Proofs.Ytnpahhlgniaddaa.Hand Go.Proofs.Ytnpahhlgniaddaa.Px Go.Proofs.YtnpahhlgniaddaaW.PrintWords Go.Proofs.YtnpahhlgniaddaaW.PrintLast

theorem home_f (s : ByteArray) (n : Int) (hs : s.size ≤ 140737488351232) (h1 : 1 ≤ n) (h2 : n ≤ 64) (h3 : ¬ s.toList = ([] : List UInt8)) : check_Home.f s n = some (sumv s % n, 0) := by
  unfold check_Home.f
  rw [if_neg (by omega), if_neg (by omega), if_neg h3, sum_f s hs]
  have hr := sumv_range s
  have ht : (sumv s).tmod n = sumv s % n := Int.tmod_eq_emod_of_nonneg hr.1
  simp only [Option.bind_some, if_neg (show ¬ n = 0 by omega), ht]
theorem and31 (x : Int) : 0 ≤ Go.bits .and .i64 x 31 ∧ Go.bits .and .i64 x 31 ≤ 31 := by
  have h : Go.bits .and .i64 x 31 = IntKind.i64.wrap (((BitVec.ofInt 64 x).toNat &&& 31 : Nat) : Int) := by
    show IntKind.i64.wrap ((BitVec.ofInt 64 x &&& BitVec.ofInt 64 31).toNat : Int) = _
    rw [BitVec.toNat_and]
    rfl
  have h2 : (BitVec.ofInt 64 x).toNat &&& 31 ≤ 31 := Nat.and_le_right
  rw [h, IntKind.wrap_i64]
  omega
theorem CheckHalves : sinewlaw02_CheckHalves.Pure := by
  intro s n hs hn
  refine ⟨1, ?_⟩
  unfold sinewlaw02_CheckHalves.f
  by_cases h0 : (s.size : Int) > 4096
  · rw [if_pos h0, sinewlaw02_CheckHalves.j0, if_pos rfl, homes_some]; rfl
  rw [if_neg h0]
  by_cases h3 : s.toList = ([] : List UInt8)
  · rw [sinewlaw02_CheckHalves.j0, if_pos (by rw [h3]; rfl), homes_some]; rfl
  have h4 : ¬ (s.toList == ([] : List UInt8)) = true := by simpa using h3
  have ha := and31 n
  rw [sinewlaw02_CheckHalves.j0, if_neg h4, homes_some]
  generalize Go.bits .and .i64 n 31 = x at ha
  rw [w64 (1 + x) (by omega) (by omega), w64 (2 * (1 + x)) (by omega) (by omega)]
  rw [home_f s _ hs (by omega) (by omega) h3, home_f s _ hs (by omega) (by omega) h3, home_f s 1 hs (by omega) (by omega) h3]
  have hr := sumv_range s
  have h5 := Int.emod_nonneg (sumv s) (show (2 * (1 + x)) ≠ 0 by omega)
  have h6 : (sumv s % (2 * (1 + x))).tmod (1 + x) = sumv s % (1 + x) := by
    rw [Int.tmod_eq_emod_of_nonneg h5, Int.emod_emod_of_dvd _ (Int.dvd_mul_left _ _)]
  have h7 : sumv s % 1 = 0 := by omega
  simp only [Option.bind_some, if_true, if_neg (show ¬ (1 + x) = 0 by omega), h6, h7]
end Go.Proofs.Ytnpahhlgniaddaa.Pure
