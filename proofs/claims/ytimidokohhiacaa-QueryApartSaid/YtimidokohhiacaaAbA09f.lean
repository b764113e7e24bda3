import Derived.Test.YtimidokohhiacaaAbA09e
/- sinew/query: read. -/
namespace Go.Ab
open Go.Proofs Go.RowKit
set_option linter.unusedVariables false
set_option linter.unusedSimpArgs false
set_option maxRecDepth 100000
def rq0 : Rq := ⟨0, [], [], []⟩
def readR (r : PR Rq) (e : Int) : List V := match r with | .ok r _ => [rqV r, .int .i64 0, .int .i64 0] | .bad l => [rqV rq0, .int .i64 (nowS l e).at_, .int .i64 90]
/-- A request's cells, with some rights. -/
def rqCt (r : Rq) (u1 u2 u3 : Nat) : List V := [.int .i64 r.kind, .lst (strsV r.vars) u1, .lst (r.atoms.map atpV) u2, .lst (r.ch.map chV) u3]
structure RdAt (st : St) (i j k : Nat) (cs : List V) : Prop where
  oi : st.ob i = some (.cells cs)
  oj : st.ob j = some (.cells [.int .i64 0])
  ok : st.ob k = some (.cells [.int .i64 0])
  len : cs.length = 4
/-- What a body answers. -/
def Body (p : Nat) (st0 : St) (e : Int) (i j k : Nat) (r : PR Rq) (x : Res) : Prop := match r with
  | .ok r _ => ∃ st' u1 u2 u3, x = some (.ret (.tup []), st') ∧ KsP p st0 st' ∧ RdAt st' i j k (rqCt r u1 u2 u3)
  | .bad l => ∃ st' cs, x = some (.panic (.iface 88 (.agg [.int .i64 (nowS l e).at_])), st') ∧ KsP p st0 st' ∧ RdAt st' i j k cs ∧ k < st'.n
end Go.Ab
