import Derived.Test.YtimidokohhiacaaAbA09
/- sinew/token: signs, in plain words. -/
namespace Go.Ab
open Go.RowKit
set_option linter.unusedVariables false
set_option linter.unusedSimpArgs false
set_option maxRecDepth 100000
def partI (n : Int) : Bool := (decide ((48 : Int) ≤ n) && decide (n ≤ 57)) || ((decide ((97 : Int) ≤ n) && decide (n ≤ 122)) || (n == 45 || n == 58))
def partB (b : UInt8) : Bool := partI b.toNat
def blI (n : Int) : Bool := n == 32 || (n == 9 || n == 10)
def blB (b : UInt8) : Bool := blI b.toNat
def marksL : List UInt8 := [123, 125, 40, 41, 46, 47, 124, 42, 43, 63]
def runL (s : List UInt8) : List UInt8 := s.takeWhile partB
inductive LR where
  | ok (l : List Sg)
  | bad (k : Nat)
def LR.cons (x : Sg) (r : LR) : LR := match r with | .ok l => .ok (x :: l) | .bad k => .bad k
/-- The signs of what a text goes on with, from a place on. -/
def lex : Nat → Nat → List UInt8 → LR
  | 0, i, _ => .bad i
  | _ + 1, _, [] => .ok []
  | n + 1, i, b :: s =>
    if blB b = true then lex n (i + 1) s
    else if partB b = true then (if 16 < (runL (b :: s)).length then .bad i else (lex n (i + (runL (b :: s)).length) ((b :: s).drop (runL (b :: s)).length)).cons ⟨1, runL (b :: s), i⟩)
    else if b = 63 ∧ runL s ≠ [] then (if 16 < (runL s).length then .bad i else (lex n (i + (runL s).length + 1) (s.drop (runL s).length)).cons ⟨2, runL s, i⟩)
    else if marksL.contains b = true then (lex n (i + 1) s).cons ⟨3, [b], i⟩ else .bad i
def lexA (s : List UInt8) : LR := lex (s.length + 1) 0 s
theorem all256 {P : UInt8 → Prop} [DecidablePred P] (h : ((List.range 256).all fun n => decide (P n.toUInt8)) = true) (b : UInt8) : P b := by
  have := List.all_eq_true.1 h b.toNat (List.mem_range.2 (UInt8.toNat_lt b))
  simpa using this
theorem runL_cons {b : UInt8} {s : List UInt8} (h : partB b = true) : runL (b :: s) = b :: runL s := by unfold runL; rw [List.takeWhile_cons, if_pos h]
theorem runL_no {b : UInt8} {s : List UInt8} (h : partB b = false) : runL (b :: s) = [] := by unfold runL; rw [List.takeWhile_cons, if_neg (by simp [h])]
end Go.Ab
