import Derived.Test.YtimidokohhiacaaAbA09e
import Derived.Test.YtimidokohhiacaaAbA09i
/- sinew/query: where signs stand does not matter; how many blanks stand between does not. -/
namespace Go.Ab
open Go.RowKit
set_option linter.unusedVariables false
set_option linter.unusedSimpArgs false
def strip (x : Sg) : Sg := ⟨x.k, x.tx, 0⟩
def PR.mp {α : Type} (r : PR α) : PR α := match r with | .ok a l => .ok a (l.map strip) | .bad l => .bad (l.map strip)
/-! blanks -/
inductive Bl : List UInt8 → List UInt8 → Prop
  | nil (u : List UInt8) (h : ∀ b ∈ u, blB b = true) : Bl [] u
  | blank (b : UInt8) (s u t : List UInt8) (hb : blB b = true) (h : ∀ b ∈ u, blB b = true) (hu : u ≠ []) : Bl s t → Bl (b :: s) (u ++ t)
  | other (b : UInt8) (s t : List UInt8) (hb : blB b = false) : Bl s t → Bl (b :: s) (b :: t)
theorem blank_part (b : UInt8) (h : blB b = true) : partB b = false := by
  revert h
  exact all256 (P := fun b => blB b = true → partB b = false) (by decide +kernel) b
theorem Bl.app {s t : List UInt8} (h : Bl s t) (u : List UInt8) (hu : ∀ b ∈ u, blB b = true) : Bl s (t ++ u) := by
  induction h with
  | nil v hv => exact .nil _ fun b hb => by rcases List.mem_append.1 hb with g | g; exact hv b g; exact hu b g
  | blank b s v t hb hv hne _ ih => rw [List.append_assoc]; exact .blank b s v _ hb hv hne ih
  | other b s t hb _ ih => exact .other b s _ hb ih
theorem Bl.run {s t : List UInt8} (h : Bl s t) : runL s = runL t ∧ Bl (s.drop (runL s).length) (t.drop (runL s).length) := by
  induction h with
  | nil u hu =>
    have : runL u = [] := by
      cases u with
      | nil => rfl
      | cons b u => exact runL_no (blank_part b (hu b (by simp)))
    rw [this]; exact ⟨rfl, .nil u hu⟩
  | blank b s u t hb hu hne hst ih =>
    have h1 : runL (b :: s) = [] := runL_no (blank_part b hb)
    have h2 : runL (u ++ t) = [] := by
      cases u with
      | nil => exact absurd rfl hne
      | cons c u => exact runL_no (blank_part c (hu c (by simp)))
    rw [h1, h2]; exact ⟨rfl, .blank b s u t hb hu hne hst⟩
  | other b s t hb hst ih =>
    cases hp : partB b with
    | true =>
      rw [runL_cons hp, runL_cons hp]
      exact ⟨by rw [ih.1], by simpa using ih.2⟩
    | false => rw [runL_no hp, runL_no hp]; exact ⟨rfl, .other b s t hb hst⟩
end Go.Ab
