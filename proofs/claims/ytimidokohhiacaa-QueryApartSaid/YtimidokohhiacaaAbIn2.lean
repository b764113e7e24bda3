import Derived.Test.YtimidokohhiacaaAbIn
import Derived.Test.YtimidokohhiacaaAbSpec
/- A row's arguments: numbers, texts, lists of them. -/
namespace Go.Ab
open Go.RowKit
set_option linter.unusedVariables false
set_option linter.unusedSimpArgs false
variable {P : Program}
theorem notAg {t : TypeId} {d : TypeDesc} (h : P.underlying t = some d) (h2 : (match d with | .struct _ | .array _ _ => true | _ => false) = false) : isAg P t = false := by
  unfold isAg; rw [h]; cases d <;> simp_all
theorem in_str {n : Nat} {t : TypeId} {x : V} (s : Sh P n t x.cells) (f : fit P t x) (h : P.underlying t = some .string) : ∃ a, x = .str a ∧ a.length ≤ 9223372036854775807 := by
  obtain ⟨a, h1, h2⟩ := s.str h
  rw [fit_one f (notAg h rfl)] at h1
  cases h1; exact ⟨a, rfl, h2⟩
end Go.Ab
