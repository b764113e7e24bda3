/- Proved: of any bytes, up to 2^17, the program reads the text that they begin with, or tells the error, and writes them as a text, as the document does. No condition. -/
import Derived.Test.YtjeoenpkhfmafaaPureOctetPuts
namespace Go.Proofs.Ytjeoenpkhfmafaa.Pure
open Go.RowKit Go.Proofs.Ytjeoenpkhfmafaa.Hand Go.Proofs.Ytjeoenpkhfmafaa.Pa Go.Proofs.Ytjeoenpkhfmafaa.Px Go.Proofs.YtjeoenpkhfmafaaW.PrintWords Go.Proofs.YtjeoenpkhfmafaaW.PrintLast

theorem texts_some (k : Nat) : sinewlaw01_texts.f (k + 11) = some true := by
  unfold sinewlaw01_texts.f
  rw [octet_str _ (by decide) k, putstr_f _ (by decide)]
  decide +kernel
theorem refputstr_f (s : ByteArray) (h : s.size ≤ 65536) (k : Nat) : sinewref01_PutStr.f (k + 19) s = some (mkB (putS (L s)), 0) := by
  rw [ref_putstr s h k]
  have h1 : pstr s = mkB (putS (L s)) := L_inj (by rw [L_mkB]; exact pstr_data s)
  rw [h1]
theorem OctetStrs : sinewlaw01_OctetStrs.Pure := by
  intro s hs
  refine ⟨11 + 19, ?_⟩
  unfold sinewlaw01_OctetStrs.f
  rw [texts_some 19, octet_str s (by omega) 19, ref_str s (by omega) 19]
  by_cases h0 : (s.size : Int) > 131072
  · rw [if_pos h0]; rfl
  rw [if_neg h0]
  by_cases h1 : s.size ≤ 65536
  · rw [putstr_f s h1, refputstr_f s h1]
    simp only [Option.bind_some, if_true]
  · rw [putstr_great_f s (by omega), ref_putstr_great s (by omega)]
    simp only [Option.bind_some, if_true]
    rw [if_pos (by rfl)]
end Go.Proofs.Ytjeoenpkhfmafaa.Pure
