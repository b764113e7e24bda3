import Derived.Test.YtimidokohhiacaaAbP09r
import Derived.Test.YtimidokohhiacaaAbRun0
/- sinewref09: Same. -/
namespace Go.Ab
open Go.Proofs Go.RowKit
set_option linter.unusedVariables false
set_option linter.unusedSimpArgs false
set_option maxRecDepth 100000
def sameP : Pth → Pth → Bool
  | .mk k w l, .mk k' w' l' => (k == k') && ((w == w') && sameK l l')
where sameK : List Pth → List Pth → Bool
  | [], [] => true
  | p :: l, q :: m => sameP p q && sameK l m
  | _, _ => false
abbrev sameK := sameP.sameK
def sameTm (a b : Tm) : Bool := (a.v == b.v) && (a.n == b.n)
def sameAt (a b : AtP) : Bool := sameTm a.s b.s && (sameTm a.o b.o && sameP a.p b.p)
def sameC (a b : Chg) : Bool := (a.gone == b.gone) && ((a.s == b.s) && ((a.p == b.p) && (a.o == b.o)))
def sameL {α : Type} (f : α → α → Bool) : List α → List α → Bool
  | [], [] => true
  | a :: l, b :: m => f a b && sameL f l m
  | _, _ => false
def sameR (a b : Rq) : Bool := (a.kind == b.kind) && (sameL (fun x y : List UInt8 => x == y) a.vars b.vars && (sameL sameAt a.atoms b.atoms && sameL sameC a.ch b.ch))
/-! the walk -/
structure RqAt (st0 : St) (c d : Nat) (a b : Rq) : Prop where
  hc : c < st0.n
  hd : d < st0.n
  oc : st0.ob c = some (.cells (rqC a))
  od : st0.ob d = some (.cells (rqC b))
theorem rq_load {st : St} {c : Nat} {a : Rq} (h : st.ob c = some (.cells (rqC a))) : (∀ K : V → St → Res, A.load false 1 (.ptr c 0) st K = K (.int .i64 a.kind) st) ∧ (∀ K : V → St → Res, A.load false 1 (.ptr c 1) st K = K (.lst (strsV a.vars) 0) st) ∧ (∀ K : V → St → Res, A.load false 1 (.ptr c 2) st K = K (.lst (a.atoms.map atpV) 0) st) ∧ (∀ K : V → St → Res, A.load false 1 (.ptr c 3) st K = K (.lst (a.ch.map chV) 0) st) :=
  ⟨fun K => by rw [load_ob, h]; rfl, fun K => by rw [load_ob, h]; rfl, fun K => by rw [load_ob, h]; rfl, fun K => by rw [load_ob, h]; rfl⟩
theorem iaddr_ch {l : List Chg} {i : Nat} (t : Nat) (h : i < l.length) (K : V → Res) : A.iaddr 4 (.lst (l.map chV) t) (.int .i64 (i : Nat)) K = K (.lptr (chC l[i])) :=
  iaddr_lst (v := chV l[i]) K (by simp [h]) rfl
def Z7 : List V := [(.bool false), (.str []), (.int .i64 0), (.str []), (.lst [] 1), (.bool false), (.str [])]
end Go.Ab

/- sinewref09: Same, the whole. -/
namespace Go.Ab
open Go.Proofs Go.RowKit
set_option linter.unusedVariables false
set_option linter.unusedSimpArgs false
set_option maxRecDepth 100000
/-- Small enough to be gone through. -/
def okS (a : Rq) : Prop := a.vars.length ≤ 1000000000 ∧ a.atoms.length ≤ 1000000000 ∧ a.ch.length ≤ 1000000000 ∧ ∀ x ∈ a.atoms, x.p.sz.2 ≤ 1000000 ∧ x.p.nd ≤ 1000000
end Go.Ab
