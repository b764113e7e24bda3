import Derived.Test.YtjdgaphjjhhjeaaAbSimp
import Derived.ChangeSlices
import Derived.WideShapes
/- From a row's arguments to the engine's. -/
namespace Go.Ab
open Go.RowKit Go.ChangeShapes Go.WideShapes
set_option linter.unusedVariables false
set_option linter.unusedSimpArgs false

/-- The state at a row's start: nothing is known but what stands. -/
def St0 : St := ⟨fun _ => none, 0, fun _ => none, 0⟩
def E0 (W : World) : E := ⟨St0, W, fun _ => 0, fun _ => none, fun b => match W.heap[b]? with | some (.cells c _ _) => c.size | _ => 0⟩
theorem rel0 (W : World) : Rel W W.heap.size (E0 W) := by
  refine ⟨Below.refl _ _, Nat.le_refl _, fun id cs h => (by cases h), fun id es h => (by cases h), fun id o h => (by cases h), fun i j o o' h => (by cases h), fun t s h => (by cases h), fun t s b k h => (by cases h), fun t t' s s' b k k' h => (by cases h), fun t s b k id o h => (by cases h), fun b c ty fz h => ?_, fun b h => ?_⟩
  · simp only [E0] at h ⊢; rw [h]; exact Nat.le_refl _
  · have h' : W.heap.size ≤ b := h
    simp only [E0]; rw [Array.getElem?_eq_none h']
/-- A law's contract. -/
theorem bool_row {P : Program} {f : FuncId} {s : Fn} (hs : Sim P f s) (W : World) (args : List V) (cargs : Array Value) (st' : St) (h : s args St0 = some (.ret (.bool true), st')) (ha : Rs (E0 W) args cargs.toList) :
    Calls P f cargs W fun e w' => e = .returned (.bool true) ∧ Below W.heap.size W w' := by
  have := hs.run W W.heap.size (E0 W) args cargs _ _ h (rel0 W) ha
  refine this.mono fun en w' hh => ?_
  obtain ⟨e', _, rfl, _, hr, ho⟩ := hh
  refine ⟨?_, hr.below⟩
  obtain ⟨v', rfl, hv⟩ := ho
  cases hv
  rfl
end Go.Ab
