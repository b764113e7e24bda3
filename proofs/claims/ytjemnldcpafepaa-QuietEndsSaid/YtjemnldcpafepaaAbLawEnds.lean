import Derived.Test.YtjemnldcpafepaaAbE14
import Derived.Test.YtjemnldcpafepaaAbRow
/- QuietEnds: the row's contract. -/
namespace Go.Ab
open Go.Proofs Go.RowKit
theorem ends_row (x : Int) (xs : List Int) (v : Value) (x2 : Int) (W : World) (h : Rs (E0 W) [.lst (intsV xs) 0] [v]) : Calls Try.prog 4 #[.int .i64 x, v, .int .i64 x2] W fun e w' => e = .returned (.bool true) ∧ Below W.heap.size W w' := by
  obtain ⟨st', hs⟩ := ends_law x xs 0 x2 St0
  exact bool_row sim4 W _ _ _ hs (.int _ _ (Rs.cons h (.int _ _ .nil)))
end Go.Ab
