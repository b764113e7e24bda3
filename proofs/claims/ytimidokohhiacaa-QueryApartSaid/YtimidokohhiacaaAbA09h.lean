import Derived.Test.YtimidokohhiacaaAbA09c
import Derived.Test.YtimidokohhiacaaAbA09g
/- sinew/token: the walk of Signs. -/
namespace Go.Ab
open Go.Proofs Go.RowKit
set_option linter.unusedVariables false
set_option linter.unusedSimpArgs false
set_option maxRecDepth 100000
/-- The answer of Signs, from a place on. -/
def sgR (acc : List Sg) (u : Nat) (r : LR) : V := match r with
  | .ok l => .tup [.lst ((acc ++ l).map sgV) u, .int .i64 0, .int .i64 0]
  | .bad k => .tup [.lst [] 1, .int .i64 (k : Nat), .int .i64 80]
theorem eqB (b : UInt8) (k : Nat) (hk : k < 256) : ((b.toNat : Int) == (k : Int)) = (b == k.toUInt8) := by
  by_cases h : b = k.toUInt8
  · subst h
    rw [beq_self_eq_true, beq_iff_eq]
    congr 1
    simp [Nat.toUInt8, UInt8.toNat_ofNat]; omega
  · rw [beq_eq_false_iff_ne.2 h, beq_eq_false_iff_ne]
    intro g
    apply h
    have : b.toNat = k := by omega
    rw [← this]; exact UInt8.ofNat_toNat.symm
def sgF (r : LR) : V := match r with
  | .ok l => .tup [.lst (l.map sgV) 0, .int .i64 0, .int .i64 0]
  | .bad k => .tup [.lst [] 0, .int .i64 (k : Nat), .int .i64 80]
def signsV (s : List UInt8) : V := if 4096 < s.length then .tup [.lst [] 0, .int .i64 0, .int .i64 1] else sgF (lexA s)
end Go.Ab
