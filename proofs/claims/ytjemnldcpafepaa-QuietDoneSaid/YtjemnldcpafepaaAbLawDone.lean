import Derived.Test.YtjemnldcpafepaaAbD14
import Derived.Test.YtjemnldcpafepaaAbRow
/- QuietDone: the row's contract. -/
namespace Go.Ab
open Go.Proofs Go.RowKit
theorem done_row (x : Int) (xs : List Int) (v : Value) (W : World) (h : Rs (E0 W) [.lst (intsV xs) 0] [v]) : Calls Try.prog 3 #[.int .i64 x, v] W fun e w' => e = .returned (.bool true) ∧ Below W.heap.size W w' := by
  obtain ⟨st', hs⟩ := done_law x xs 0 St0
  exact bool_row sim3 W _ _ _ hs (.int _ _ h)
end Go.Ab
