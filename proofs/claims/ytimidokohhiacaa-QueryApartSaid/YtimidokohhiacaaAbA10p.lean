import Derived.Test.YtimidokohhiacaaAbA10a
/- sinew/query: how many places a path has. -/
namespace Go.Ab
open Go.RowKit
set_option linter.unusedVariables false
set_option linter.unusedSimpArgs false
/-- The places of a path, as the reference counts them. -/
def Pth.pl : Pth → Nat
  | .mk k _ l => if k = 1 then 1 else pll l
where pll : List Pth → Nat
  | [] => 0
  | p :: l => p.pl + pll l
abbrev Pth.pll := Pth.pl.pll
theorem pl_eq (k : Int) (w : List UInt8) (l : List Pth) : (Pth.mk k w l).pl = if k = 1 then 1 else Pth.pll l := rfl
theorem pll_cons (p : Pth) (l : List Pth) : Pth.pll (p :: l) = p.pl + Pth.pll l := rfl
theorem pll_nil : Pth.pll [] = 0 := rfl
mutual
theorem sz2_nd : ∀ p : Pth, p.sz.2 ≤ p.nd
  | .mk k w l => by
    rw [sz_eq, nd_eq]
    have := szl2_nd l
    simp only; omega
theorem szl2_nd : ∀ l : List Pth, (Pth.szl l).2 ≤ Pth.ndl l
  | [] => Nat.le_refl _
  | p :: l => by rw [szl_cons, ndl_cons]; have := sz2_nd p; have := szl2_nd l; simp only; omega
end
end Go.Ab
