/- Proved: for every number the program's bytes, or its error, are the document's. No condition. -/
import Derived.Test.YtjeoenpkhfmafaaHlst
namespace Go.Proofs.Ytjeoenpkhfmafaa.Pure
open Go.RowKit Go.Proofs.Ytjeoenpkhfmafaa.Hand Go.Proofs.Ytjeoenpkhfmafaa.Pa Go.Proofs.Ytjeoenpkhfmafaa.Px Go.Proofs.YtjeoenpkhfmafaaW.PrintWords Go.Proofs.YtjeoenpkhfmafaaW.PrintLast

theorem wf_bd {n : Int} (h : (Lit.int .i64 n).wf = true) : -9223372036854775808 ≤ n ∧ n < 9223372036854775808 := by
  simp [Lit.wf, IntKind.min, IntKind.max, IntKind.bits, IntKind.signed] at h
  omega
theorem numbers_some (k : Nat) : sinewlaw01_numbers.f (k + 11) = some true := by
  unfold sinewlaw01_numbers.f
  rw [octet_num _ (by decide) k, show (300 : Int) = ((300 : Nat) : Int) from rfl, putnum_f 300 (by decide)]
  decide +kernel
theorem OctetPuts : sinewlaw01_OctetPuts.Pure := by
  intro n hn
  have hb := wf_bd hn
  refine ⟨30, ?_⟩
  unfold sinewlaw01_OctetPuts.f
  rw [numbers_some 19]
  by_cases h : n < 0
  · have h2 : sinewref01_PutNum.f 30 n = some (⟨#[]⟩, 1) := by unfold sinewref01_PutNum.f; exact if_pos h
    rw [putnum_neg_f n h, h2]
    simp only [Option.bind_some]
    rw [if_pos (by rfl)]
    simp only [if_true]
  · obtain ⟨m, rfl⟩ := Int.eq_ofNat_of_zero_le (show 0 ≤ n by omega)
    rw [putnum_f m (by omega), ref_putnum m (by omega) 11]
    simp only [Option.bind_some]
    rw [if_pos (by rfl)]
    simp only [if_true]
end Go.Proofs.Ytjeoenpkhfmafaa.Pure
