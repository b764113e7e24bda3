import Derived.Test.YtimidokohhiacaaAbA09
import Derived.Test.YtimidokohhiacaaAbA09g
/- sinew/query: why a request may not be, and Parse, in plain words. -/
namespace Go.Ab
open Go.RowKit
set_option linter.unusedVariables false
set_option linter.unusedSimpArgs false
/-- How many words a path has, and how deep it is. -/
def Pth.sz : Pth → Nat × Nat
  | .mk k _ l => ((if k = 1 then 1 else 0) + (szl l).1, (szl l).2 + 1)
where szl : List Pth → Nat × Nat
  | [] => (0, 0)
  | p :: l => (p.sz.1 + (szl l).1, max p.sz.2 (szl l).2)
abbrev Pth.szl := Pth.sz.szl
theorem sz_eq (k : Int) (w : List UInt8) (l : List Pth) : (Pth.mk k w l).sz = ((if k = 1 then 1 else 0) + (Pth.szl l).1, (Pth.szl l).2 + 1) := rfl
theorem szl_cons (p : Pth) (l : List Pth) : Pth.szl (p :: l) = (p.sz.1 + (Pth.szl l).1, max p.sz.2 (Pth.szl l).2) := rfl
theorem szl_nil : Pth.szl [] = (0, 0) := rfl
def addV (out : List (List UInt8)) (t : Tm) : List (List UInt8) := if (t.v && !(out.contains t.n)) = true then out ++ [t.n] else out
def addP (out : List (List UInt8)) (a : AtP) : List (List UInt8) := addV (addV out a.s) a.o
def namesP (l : List AtP) : List (List UInt8) := l.foldl addP []
def dupF : List (List UInt8) → List (List UInt8) → Bool
  | _, [] => false
  | pre, v :: l => pre.contains v || dupF (pre ++ [v]) l
def deepA (l : List AtP) : Bool := l.any fun a => decide (24 < a.p.sz.1) || decide (12 < a.p.sz.2)
/-- Why a request of the grammar may not be. -/
def whyP (r : Rq) : Int :=
  if deepA r.atoms = true then 100
  else if 6 < r.vars.length ∨ 6 < r.atoms.length ∨ 6 < (namesP r.atoms).length ∨ 64 < r.ch.length then 2
  else if dupF [] r.vars = true then 1
  else if (r.vars.any fun v => !(namesP r.atoms).contains v) = true then 91 else 0
def rqZ : Rq := ⟨0, [], [], []⟩
/-- Parse: the request, the place, the number of what is wrong. -/
def parseP (s : List UInt8) : Rq × Int × Int :=
  if 4096 < s.length then (rqZ, 0, 1) else match lexA s with
    | .bad k => (rqZ, (k : Nat), 80)
    | .ok l => match pReq (l.length + 1) l with
      | .bad l' => (rqZ, (nowS l' (s.length : Nat)).at_, 90)
      | .ok r _ => if whyP r = 0 then (r, 0, 0) else (rqZ, 0, whyP r)
def parseV (x : Rq × Int × Int) : V := .tup [rqV x.1, .int .i64 x.2.1, .int .i64 x.2.2]
/-! no more words, and no deeper, than what is read -/
def PR.fits (r : PR Pth) (n : Nat) : Prop := match r with | .ok p l => p.sz.1 + l.length ≤ n ∧ p.sz.2 + l.length ≤ n | .bad _ => True
def PR.fitsL (r : PR (List Pth)) (n : Nat) : Prop := match r with | .ok ps l => (Pth.szl ps).1 + l.length ≤ n ∧ (Pth.szl ps).2 + 1 + l.length ≤ n ∨ (∃ p, ps = [p] ∧ p.sz.1 + l.length ≤ n ∧ p.sz.2 + l.length ≤ n) | .bad _ => True
/-! how many nodes -/
def Pth.nd : Pth → Nat
  | .mk _ _ l => ndl l + 1
where ndl : List Pth → Nat
  | [] => 0
  | p :: l => p.nd + ndl l
abbrev Pth.ndl := Pth.nd.ndl
theorem nd_eq (k : Int) (w : List UInt8) (l : List Pth) : (Pth.mk k w l).nd = Pth.ndl l + 1 := rfl
theorem ndl_cons (p : Pth) (l : List Pth) : Pth.ndl (p :: l) = p.nd + Pth.ndl l := rfl
theorem ndl_nil : Pth.ndl [] = 0 := rfl
theorem nd_pos (p : Pth) : 1 ≤ p.nd := by cases p; rw [nd_eq]; omega
theorem ndl_len : ∀ l : List Pth, l.length ≤ Pth.ndl l
  | [] => Nat.le_refl _
  | p :: l => by have := ndl_len l; have := nd_pos p; rw [ndl_cons, List.length_cons]; omega
theorem ndl_mem {l : List Pth} {p : Pth} (h : p ∈ l) : p.nd ≤ Pth.ndl l := by
  induction l with
  | nil => cases h
  | cons a l ih =>
    rw [ndl_cons]
    rcases List.mem_cons.1 h with rfl | g
    · omega
    · have := ih g; omega
def PR.fitN (r : PR Pth) (n : Nat) : Prop := match r with | .ok p l => p.nd + 1 + 2 * l.length ≤ 2 * n | .bad _ => True
/-! how much is read -/
def smallR (r : Rq) (n : Nat) : Prop := r.vars.length ≤ n ∧ r.atoms.length ≤ n ∧ r.ch.length ≤ n ∧ ∀ a ∈ r.atoms, a.p.sz.1 ≤ n ∧ a.p.sz.2 ≤ n ∧ a.p.nd ≤ 2 * n
end Go.Ab
