import Derived.Test.YtiegejeleanfbaaAbLawShares
import Derived.Test.YtiegejeleanfbaaAbIn2
/- sinewlaw13.ShareShares: the shares of any atoms are the document's. -/
namespace Go.Ab
open Go.Proofs Go.RowKit
theorem shareShares_row {W : World} {v0 v1 v2 : Value} {x0 x1 x2 : V} {n0 n1 n2 : Nat}
    (r0 : Rs (E0 W) [x0] [v0]) (s0 : Sh Try.prog n0 22 x0.cells) (f0 : fit Try.prog 22 x0)
    (r1 : Rs (E0 W) [x1] [v1]) (s1 : Sh Try.prog n1 23 x1.cells) (f1 : fit Try.prog 23 x1)
    (r2 : Rs (E0 W) [x2] [v2]) (s2 : Sh Try.prog n2 24 x2.cells) (f2 : fit Try.prog 24 x2) :
    Calls Try.prog 3 #[v0, v1, v2] W fun e w' => e = .returned (.bool true) ∧ Below W.heap.size W w' := by
  obtain ⟨a, b, rfl, _, _⟩ := in_arr2 s0 f0 Try.underlying22 Try.underlying3 (by kernel_rfl)
  obtain ⟨xs, rfl, h1, h2⟩ := in_intss s1 f1 Try.underlying23 Try.underlying24 Try.underlying3
  obtain ⟨ys, rfl, h3, _⟩ := in_ints s2 f2 Try.underlying24 Try.underlying3
  obtain ⟨st', hs⟩ := shareShares_law (st := St0) a b xs ys 0 0 h1 h3 h2
  exact bool_row sim3 W _ _ _ hs (Rs.cons r0 (Rs.cons r1 r2))
end Go.Ab
