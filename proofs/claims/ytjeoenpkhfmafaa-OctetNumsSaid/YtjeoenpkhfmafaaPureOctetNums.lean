/- Proved: of any bytes the program reads the number that they begin with, or tells the error, as the document does. No condition. -/
import Derived.Test.YtjeoenpkhfmafaaPureOctetPuts
namespace Go.Proofs.Ytjeoenpkhfmafaa.Pure
open Go.RowKit Go.Proofs.Ytjeoenpkhfmafaa.Hand Go.Proofs.Ytjeoenpkhfmafaa.Pa Go.Proofs.Ytjeoenpkhfmafaa.Px Go.Proofs.YtjeoenpkhfmafaaW.PrintWords Go.Proofs.YtjeoenpkhfmafaaW.PrintLast

theorem OctetNums : sinewlaw01_OctetNums.Pure := by
  intro s hs
  refine ⟨0 + 11, ?_⟩
  unfold sinewlaw01_OctetNums.f
  rw [numbers_some 0, octet_num s (by omega) 0, ref_num s (by omega) 0]
  simp only [Option.bind_some, if_true]
end Go.Proofs.Ytjeoenpkhfmafaa.Pure
