import Derived.Test.YtimidokohhiacaaAbConst
/- Behind what leaves the blocks as they were. -/
namespace Go.Ab
open Go.RowKit
set_option linter.unusedVariables false
theorem below_step {W0 : World} {B : Nat} {e : E} {w' : World} (hr : Rel W0 B e) (hb : Below e.w.heap.size e.w w') : Ext e { e with w := w' } ∧ Rel W0 B { e with w := w' } := by
  have old : ∀ (b : Nat) (x : Obj), e.w.heap[b]? = some x → w'.heap[b]? = some x := by
    intro b x hx
    have hlt := (Array.getElem?_eq_some_iff.mp hx).1
    rw [hb.block b hlt]; exact hx
  have X : Ext e { e with w := w' } := ⟨Nat.le_refl _, Nat.le_refl _, fun _ _ => rfl, fun _ _ o h => ⟨o, h⟩, fun _ _ => rfl, fun _ _ _ h => h, fun _ => Nat.le_refl _, fun b c ty fz hx => ⟨c, fz, old b (.cells c ty fz) hx, rfl, fun _ _ => rfl⟩⟩
  have hsz := hr.below.size
  refine ⟨X, ?_⟩
  refine ⟨hr.below.trans ⟨hb.os, hb.tape, hb.output, hb.size, fun k hk => hb.block k (by have := hr.hB; omega)⟩, hr.hB, ?_, ?_, hr.live, hr.inj, hr.tkn, ?_, hr.tinj, hr.tob, ?_, fun b hb' => hr.frn b (Nat.le_trans hb.size hb')⟩
  · intro id cs ho
    obtain ⟨a, b, c, ty, fz, d, f, g, k, kb⟩ := hr.cells id cs ho
    exact ⟨a, b, c, ty, fz, old _ _ d, f, g, k.mono X, kb⟩
  · intro id es ho
    obtain ⟨a, ents, clock, b, c, d⟩ := hr.maps id es ho
    exact ⟨a, ents, clock, old _ _ b, c.mono X, d.1.mono X, d.2⟩
  · intro t s b k ht hτ
    obtain ⟨a, b', c, ty, fz, d, f⟩ := hr.toks t s b k ht hτ
    exact ⟨a, b', c, ty, fz, old _ _ d, f⟩
  · intro b c ty fz hx
    by_cases hbs : b < e.w.heap.size
    · have hx' : w'.heap[b]? = some (.cells c ty fz) := hx
      rw [hb.block b hbs] at hx'
      exact hr.frs b c ty fz hx'
    · have := hr.frn b (by omega)
      show e.fr b ≤ _
      omega
end Go.Ab
