/- Proved: of any bytes, up to 2^14, the program reads the list that they begin with, or tells the error, as the document does. No condition. -/
import Derived.Test.YtjeoenpkhfmafaaPureOctetStrs
namespace Go.Proofs.Ytjeoenpkhfmafaa.Pure
open Go.RowKit Go.Proofs.Ytjeoenpkhfmafaa.Hand Go.Proofs.Ytjeoenpkhfmafaa.Pa Go.Proofs.Ytjeoenpkhfmafaa.Px Go.Proofs.YtjeoenpkhfmafaaW.PrintWords Go.Proofs.YtjeoenpkhfmafaaW.PrintLast

theorem lists_some : sinewlaw01_lists.f = some true := by
  unfold sinewlaw01_lists.f
  rw [putlist_f _ (by decide) (by decide)]
  decide +kernel
theorem goL_length (l : List UInt8) : ∀ (n at_ : Nat) (acc : List (List UInt8)), (goL l n at_ acc).1.length ≤ acc.length + n
  | 0, _, acc => by simp [goL]
  | n + 1, at_, acc => by
    unfold goL
    split
    · have := goL_length l n (at_ + (strL (l.drop at_)).2.1) (acc ++ [(strL (l.drop at_)).1])
      rw [List.length_append, List.length_singleton] at this
      omega
    · simp
theorem listL_length (l : List UInt8) : (listL l).1.length ≤ 4096 := by
  unfold listL
  split
  · split
    · simp
    · have := goL_length l (numL l).1 (numL l).2.1 []
      simp at this
      omega
  · simp
theorem OctetLists : sinewlaw01_OctetLists.Pure := by
  intro s hs
  refine ⟨0 + 4108, ?_⟩
  unfold sinewlaw01_OctetLists.f
  rw [lists_some, octet_list s (by omega) 0, ref_list s (by omega) 0]
  by_cases h0 : (s.size : Int) > 16384
  · rw [if_pos h0]; rfl
  rw [if_neg h0]
  have hl := listL_length (L s)
  simp only [Option.bind_some]
  rw [same_f _ _ (by simp only [R3, List.length_map]; omega) _ (by simp only [R3, List.length_map]; omega)]
  simp
end Go.Proofs.Ytjeoenpkhfmafaa.Pure
