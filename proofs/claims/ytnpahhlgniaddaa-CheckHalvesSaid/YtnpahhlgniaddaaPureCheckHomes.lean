/- Proved: for every word up to 2^12 bytes and every number of workers the program's home is the document's, and one of the workers. No condition. -/
import Derived.Test.YtnpahhlgniaddaaHref
import Derived.Test.YtnpahhlgniaddaaPx3
namespace Go.Proofs.Ytnpahhlgniaddaa.Pure
open Go.RowKit Go.Proofs.Ytnpahhlgniaddaa.Hand Go.Proofs.Ytnpahhlgniaddaa.Px Go.Proofs.YtnpahhlgniaddaaW.PrintWords Go.Proofs.YtnpahhlgniaddaaW.PrintLast

theorem homes_some : sinewlaw02_homes.f = some true := by
  unfold sinewlaw02_homes.f check_Home.f
  rw [sum_f _ (by decide), sumv_crcN]
  decide +kernel
theorem CheckHomes : sinewlaw02_CheckHomes.Pure := by
  intro s n hs hn
  refine ⟨10 * s.size + 1, ?_⟩
  unfold sinewlaw02_CheckHomes.f
  rw [homes_some]
  by_cases h0 : (s.size : Int) > 4096
  · rw [if_pos h0]; rfl
  rw [if_neg h0]
  unfold check_Home.f sinewref02_Home.f
  by_cases h1 : n < 1
  · simp only [if_pos h1]; rfl
  simp only [if_neg h1]
  by_cases h2 : n > 64
  · simp only [if_pos h2]; rfl
  simp only [if_neg h2]
  by_cases h3 : s.toList = ([] : List UInt8)
  · simp only [if_pos h3]; rfl
  simp only [if_neg h3]
  rw [sum_f s hs, ref_sum s hs]
  have h4 : ¬ n = 0 := by omega
  have hr := sumv_range s
  have ht : (sumv s).tmod n = sumv s % n := Int.tmod_eq_emod_of_nonneg hr.1
  have h5 := Int.emod_nonneg (sumv s) h4
  have h6 := Int.emod_lt_of_pos (sumv s) (show 0 < n by omega)
  simp only [Option.bind_some, if_neg h4, if_true, ht]
  rw [if_pos (show sumv s % n ≥ 0 from h5), if_pos h6]
end Go.Proofs.Ytnpahhlgniaddaa.Pure
