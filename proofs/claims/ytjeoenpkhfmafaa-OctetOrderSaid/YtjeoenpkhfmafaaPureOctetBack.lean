/- Proved: a number's bytes are read back as that number, whatever stands behind them; two numbers have the same bytes just if they are one; a number below 0 has none. No condition. -/
import Derived.Test.YtjeoenpkhfmafaaPureOctetPuts
namespace Go.Proofs.Ytjeoenpkhfmafaa.Pure
open Go.RowKit Go.Proofs.Ytjeoenpkhfmafaa.Hand Go.Proofs.Ytjeoenpkhfmafaa.Pa Go.Proofs.Ytjeoenpkhfmafaa.Px Go.Proofs.YtjeoenpkhfmafaaW.PrintWords Go.Proofs.YtjeoenpkhfmafaaW.PrintLast

theorem size_mkB (l : List UInt8) : (mkB l).size = l.length := by rw [← L_length, L_mkB]
theorem putN_len (n : Nat) : (putN n).length ≤ 9 := by rw [putN_length]; have := nlen_le n; omega
theorem OctetBack : sinewlaw01_OctetBack.Pure := by
  intro n m tail hn hm ht
  have hb := wf_bd hn
  have hc := wf_bd hm
  refine ⟨0 + 11, ?_⟩
  unfold sinewlaw01_OctetBack.f
  rw [numbers_some 0]
  by_cases h : n < 0
  · rw [putnum_neg_f n h]
    simp only [Option.bind_some, if_pos h]
    rfl
  · obtain ⟨a, rfl⟩ := Int.eq_ofNat_of_zero_le (show 0 ≤ n by omega)
    have hl := putN_len a
    rw [putnum_f a (by omega)]
    simp only [Option.bind_some, if_true]
    rw [if_pos (by rw [size_mkB]; omega)]
    have hlong : (mkB (putN a) ++ tail).size ≤ 4611686018427387903 := by rw [ByteArray.size_append, size_mkB]; omega
    rw [octet_num _ hlong, L_append, L_mkB, numL_put a (by omega)]
    simp only [Option.bind_some, I3, size_mkB, if_true]
    by_cases h2 : m < 0
    · rw [putnum_neg_f m h2]
      simp only [Option.bind_some]
      rw [if_pos (by rfl), if_pos (by omega), if_neg (by decide)]
    · obtain ⟨b, rfl⟩ := Int.eq_ofNat_of_zero_le (show 0 ≤ m by omega)
      rw [putnum_f b (by omega)]
      simp only [Option.bind_some, if_true, L_toList, L_mkB]
      rw [if_pos (by rfl), if_pos (by omega), if_pos]
      rw [beq_iff_eq]
      by_cases e : a = b
      · subst e; simp
      · have e2 : ¬ putN a = putN b := fun h => e (putN_inj (by omega) (by omega) h)
        have e3 : ¬ (a : Int) = (b : Int) := by omega
        rw [beq_eq_false_iff_ne.mpr e2, beq_eq_false_iff_ne.mpr e3]
end Go.Proofs.Ytjeoenpkhfmafaa.Pure
