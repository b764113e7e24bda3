import Derived.Test.YtjeoenpkhfmafaaWWords
import Derived.Test.YtjeoenpkhfmafaaWLast
import Derived.Test.YtjeoenpkhfmafaaWMore
import Derived.SliceStrings
import Derived.SizedLaws
/- A row's slice of strings: what a walk asks of it. -/
namespace Go.Proofs.Ytjeoenpkhfmafaa.Hand
open Go.RowKit Go.Proofs.YtjeoenpkhfmafaaW.PrintWords Go.Proofs.YtjeoenpkhfmafaaW.PrintLast Go.Proofs.YtjeoenpkhfmafaaW.PrintMore
open Go.ChangeShapes Go.WideShapes Go.ChangeShapes
set_option linter.unusedVariables false
set_option linter.unusedSimpArgs false
theorem str_row {H : Type} {enc : TypeId × Value → H} {P : Program} {W : World} {base : Nat} {spare : Nat → Bool} {held : Bool} {t e : TypeId} {a : Option Addr} {len cap : Nat} {d : DataW H} {ps : List MemPlace} {ts : List TypeId} {ds : List (DataW H)} {j : Nat}
    (hsz : (DataW.weightsEach P ts ds).all (· ≤ reachBytes) = true) (ht : ts[j]? = some t) (hd : ds[j]? = some d) (hu : P.underlying t = some (.slice e)) (he : P.underlying e = some .string) (hc : P.cellsOf e = 1) (hB : P.bytesOf e = 16)
    (h : DataW.Trod enc P W base spare held t (.slice a len cap) d ps) :
    ∃ zs : List ByteArray, Kd.C Kd.string W a zs.length zs ∧ zs.length ≤ cap ∧ zs.length = len ∧ zs.length * 16 ≤ 140737488351232 ∧ ∀ s ∈ zs, s.size ≤ maxLen := by
  obtain ⟨fuel, hf⟩ := h
  rcases open_strings hu he hc hf with ⟨hcs, _⟩ | ⟨x, l, c, ss, hcs, _, hl, hm, hz, hx, hcell, hs⟩
  · simp [Value.cells] at hcs
    obtain ⟨rfl, rfl, rfl⟩ := hcs
    exact ⟨[], Kd.C_of_reads (d := ByteArray.empty) ⟨rfl, by simp, fun h => absurd h (by simp)⟩, by simp, rfl, by simp, fun s h => by cases h⟩
  · simp [Value.cells] at hcs
    obtain ⟨rfl, rfl, rfl⟩ := hcs
    obtain ⟨hx, _⟩ := Prod.mk.inj hx
    subst hx
    have z := sized_slice hsz ht hd hu
    rw [hB] at z
    have hl2 : len ≤ ss.length := by
      rw [hz]
      split
      · exact hl
      · exact Nat.le_refl _
    have h1 : (strs (H := H) (ss.take len)).length + (strs (H := H) (ss.drop len)).length = ss.length := by
      simp [strs]
      omega
    rw [h1] at z
    have hr : reachBytes = 140737488351232 := rfl
    rw [hr] at z
    have ht2 : (ss.take len).length = len := by rw [List.length_take]; omega
    refine ⟨ss.take len, Kd.C_of_reads (d := ByteArray.empty) ⟨rfl, by rw [ht2]; omega, fun _ => ⟨_, rfl, fun j hj => ?_⟩⟩, by rw [ht2]; exact hl, ht2, by rw [ht2]; omega, fun s h => hs s (List.mem_of_mem_take h)⟩
    rw [ht2] at hj
    rw [hcell j (by omega)]
    congr 2
    simp [List.getD, List.getElem?_take, hj]
end Go.Proofs.Ytjeoenpkhfmafaa.Hand
