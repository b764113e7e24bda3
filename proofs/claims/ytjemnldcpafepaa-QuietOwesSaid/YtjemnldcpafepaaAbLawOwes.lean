import Derived.Test.YtjemnldcpafepaaAbO14
import Derived.Test.YtjemnldcpafepaaAbRow
/- QuietOwes: the row's contract. -/
namespace Go.Ab
open Go.Proofs Go.RowKit
theorem bool_row {f : FuncId} {s : Fn} (hs : Sim Try.prog f s) (W : World) (args : List V) (cargs : Array Value) (st' : St) (h : s args St0 = some (.ret (.bool true), st')) (ha : Rs (E0 W) args cargs.toList) :
    Calls Try.prog f cargs W fun e w' => e = .returned (.bool true) ∧ Below W.heap.size W w' := by
  have := hs.2 W W.heap.size (E0 W) args cargs _ _ h (rel0 W) ha
  refine this.mono fun en w' hh => ?_
  obtain ⟨e', _, rfl, _, hr, ho⟩ := hh
  refine ⟨?_, hr.below⟩
  obtain ⟨v', rfl, hv⟩ := ho
  cases hv
  rfl
theorem owes_row (x : Int) (xs : List Int) (v : Value) (W : World) (h : Rs (E0 W) [.lst (intsV xs) 0] [v]) : Calls Try.prog 6 #[.int .i64 x, v] W fun e w' => e = .returned (.bool true) ∧ Below W.heap.size W w' := by
  obtain ⟨st', hs⟩ := owes_law x xs 0 St0
  exact bool_row sim6 W _ _ _ hs (.int _ _ h)
end Go.Ab
