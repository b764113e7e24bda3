/- Proved: for every text up to 2^14 bytes the program's checksum, by a table of sixteen, is the document's, bit by bit; beyond that length the statement asks for one fixed sum. No condition. -/
import Derived.Test.YtnpahhlgniaddaaHref
namespace Go.Proofs.Ytnpahhlgniaddaa.Pure
open Go.RowKit Go.Proofs.Ytnpahhlgniaddaa.Hand Go.Proofs.Ytnpahhlgniaddaa.Px Go.Proofs.YtnpahhlgniaddaaW.PrintWords Go.Proofs.YtnpahhlgniaddaaW.PrintLast

theorem CheckSums : sinewlaw02_CheckSums.Pure := by
  intro s hs
  refine ⟨10 * s.size + 1, ?_⟩
  unfold sinewlaw02_CheckSums.f
  rw [awake_some, sum_f s hs, ref_sum s hs]
  simp only [Option.bind_some, if_true]
  split <;> rfl
end Go.Proofs.Ytnpahhlgniaddaa.Pure
