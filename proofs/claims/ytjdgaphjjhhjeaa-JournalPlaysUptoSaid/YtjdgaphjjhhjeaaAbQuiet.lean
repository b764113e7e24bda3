import Derived.Test.YtjdgaphjjhhjeaaAbForget
/- A region that draws its order, of what computes and loads alone: the text's order, cut anywhere. -/
namespace Go.Ab
open Go.RowKit
set_option linter.unusedVariables false
set_option linter.unusedSimpArgs false
variable {P : Program} {mu : Nat → Bool} {T : Tbl} {N m : Nat} {K : Kon} {c : Code} {G : Env → St → Res}
def quiet (P : Program) (mu : Nat → Bool) (ops : Array Oper) : Bool := ops.toList.all fun o => cls P mu o != 2
/-! Regions where each load has an order with each operation that may write. -/
/-- An operation, then; what may write does not panic. -/
def stepN (P : Program) (mu : Nat → Bool) (T : Tbl) (al : Bool) (o : Oper) (env : Env) (st : St) (K : V → St → Res) : Res := if cls P mu o == 2 then A.noPx al (aop P mu T o env st kid) K else aop P mu T o env st K
def aopsN (P : Program) (mu : Nat → Bool) (T : Tbl) (m : Nat) (ops : Array Oper) (B : List Nat) : List Nat → Env → St → (Env → St → Res) → Res
  | [], env, st, K => K env st
  | i :: rest, env, st, K =>
    match ops[i]? with
    | none => none
    | some o =>
      match o.guard with
      | none => stepN P mu T (allow B ops.size i) o env st fun v st => aopsN P mu T m ops B rest (putV m env o.dst v) st K
      | some (j, want) =>
        match (ops[j]?).bind (·.dst) with
        | none => none
        | some d => cond ((ops[j]?).bind (·.guard)).isSome (A.guardT (env d) want (stepN P mu T (allow B ops.size i) o (putV m env (some d) (.bool want)) st fun v st => aopsN P mu T m ops B rest (putV m (putV m env (some d) (.bool want)) o.dst v) st K) (aopsN P mu T m ops B rest (putV m (putV m env (some d) (.bool !want)) o.dst (.tup [])) st K) (aopsN P mu T m ops B rest (putV m env o.dst (.tup [])) st K)) (A.guard (env d) want (stepN P mu T (allow B ops.size i) o (putV m env (some d) (.bool want)) st fun v st => aopsN P mu T m ops B rest (putV m (putV m env (some d) (.bool want)) o.dst v) st K) (aopsN P mu T m ops B rest (putV m (putV m env (some d) (.bool !want)) o.dst (.tup [])) st K))
def clsAt (P : Program) (mu : Nat → Bool) (ops : Array Oper) (i : Nat) : Nat := match ops[i]? with | some o => cls P mu o | none => 0
def calm (P : Program) (mu : Nat → Bool) (ops : Array Oper) (B : List Nat) : Bool :=
  (List.range ops.size).all fun j => (List.range j).all fun i => !((clsAt P mu ops i == 1 && clsAt P mu ops j == 2) || (clsAt P mu ops i == 2 && clsAt P mu ops j == 1)) || ord B i j
end Go.Ab
