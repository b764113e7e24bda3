import Derived.Test.YtimidokohhiacaaAbSpec
/- sinew/query: requests, and what is read out of signs, in plain words. -/
namespace Go.Ab
open Go.RowKit
set_option linter.unusedVariables false
set_option linter.unusedSimpArgs false
/-- A sign. -/
structure Sg where
  k : Int
  tx : List UInt8
  at_ : Int
inductive Pth where
  | mk (k : Int) (w : List UInt8) (kids : List Pth)
structure Tm where
  v : Bool
  n : List UInt8
structure AtP where
  s : Tm
  p : Pth
  o : Tm
structure Chg where
  gone : Bool
  s : List UInt8
  p : List UInt8
  o : List UInt8
structure Rq where
  kind : Int
  vars : List (List UInt8)
  atoms : List AtP
  ch : List Chg
def Pth.kind : Pth → Int | .mk k _ _ => k
def Pth.word : Pth → List UInt8 | .mk _ w _ => w
def Pth.kids : Pth → List Pth | .mk _ _ l => l
/-! as values -/
def sgV (x : Sg) : V := .agg [.int .i64 x.k, .str x.tx, .int .i64 x.at_]
def Pth.v : Pth → V
  | .mk k w l => .agg [.int .i64 k, .str w, .lst (vl l) 0]
where vl : List Pth → List V
  | [] => []
  | p :: l => p.v :: vl l
abbrev Pth.vl := Pth.v.vl
theorem vl_map : ∀ l : List Pth, Pth.vl l = l.map Pth.v
  | [] => rfl
  | p :: l => by show p.v :: Pth.vl l = _; rw [vl_map l]; rfl
theorem pth_v (k : Int) (w : List UInt8) (l : List Pth) : (Pth.mk k w l).v = .agg [.int .i64 k, .str w, .lst (l.map Pth.v) 0] := by
  show V.agg [.int .i64 k, .str w, .lst (Pth.vl l) 0] = _
  rw [vl_map]
def pthC (p : Pth) : List V := [.int .i64 p.kind, .str p.word, .lst (p.kids.map Pth.v) 0]
theorem pth_c (p : Pth) : p.v = .agg (pthC p) := by cases p; exact pth_v _ _ _
def tmV (t : Tm) : V := .agg [.bool t.v, .str t.n]
def atpC (a : AtP) : List V := [.bool a.s.v, .str a.s.n, .int .i64 a.p.kind, .str a.p.word, .lst (a.p.kids.map Pth.v) 0, .bool a.o.v, .str a.o.n]
def atpV (a : AtP) : V := .agg (atpC a)
def chC (c : Chg) : List V := [.bool c.gone, .str c.s, .str c.p, .str c.o]
def chV (c : Chg) : V := .agg (chC c)
def rqC (r : Rq) : List V := [.int .i64 r.kind, .lst (strsV r.vars) 0, .lst (r.atoms.map atpV) 0, .lst (r.ch.map chV) 0]
def rqV (r : Rq) : V := .agg (rqC r)
/-! reading -/
inductive PR (α : Type) where
  | ok (a : α) (l : List Sg)
  | bad (l : List Sg)
def PR.bind {α β : Type} (x : PR α) (f : α → List Sg → PR β) : PR β := match x with | .ok a l => f a l | .bad l => .bad l
@[simp] theorem PR.bind_ok {α β : Type} (a : α) (l : List Sg) (f : α → List Sg → PR β) : (PR.ok a l).bind f = f a l := rfl
@[simp] theorem PR.bind_bad {α β : Type} (l : List Sg) (f : α → List Sg → PR β) : (PR.bad l : PR α).bind f = .bad l := rfl
def nowS (l : List Sg) (e : Int) : Sg := match l with | [] => ⟨0, [], e⟩ | x :: _ => x
def nowK (l : List Sg) : Int := match l with | [] => 0 | x :: _ => x.k
def pTake (k : Int) (ts : List (List UInt8)) : List Sg → PR (List UInt8)
  | [] => .bad []
  | x :: l => if x.k = k ∧ (ts = [] ∨ ts.contains x.tx = true) then .ok x.tx l else .bad (x :: l)
def pIs (m : List UInt8) : List Sg → Option (List Sg)
  | [] => none
  | x :: l => if x.k = 3 ∧ x.tx = m then some l else none
def pTerm (l : List Sg) : PR Tm := if nowK l = 2 then (pTake 2 [] l).bind fun w l => .ok ⟨true, w⟩ l else (pTake 1 [] l).bind fun w l => .ok ⟨false, w⟩ l
def pPrim (P : List Sg → PR Pth) (l : List Sg) : PR Pth := match pIs [40] l with
  | some l' => (P l').bind fun p l => (pTake 3 [[41]] l).bind fun _ l => .ok p l
  | none => (pTake 1 [] l).bind fun w l => .ok (.mk 1 w []) l
def pStars : Pth → List Sg → Pth × List Sg
  | p, [] => (p, [])
  | p, x :: l => if x.k = 3 ∧ x.tx = [42] then pStars (.mk 4 [] [p]) l else if x.k = 3 ∧ x.tx = [43] then pStars (.mk 5 [] [p]) l else if x.k = 3 ∧ x.tx = [63] then pStars (.mk 6 [] [p]) l else (p, x :: l)
def pPost (P : List Sg → PR Pth) (l : List Sg) : PR Pth := (pPrim P l).bind fun p l => .ok (pStars p l).1 (pStars p l).2
def pMore (m : List UInt8) (part : List Sg → PR Pth) : Nat → List Pth → List Sg → PR (List Pth)
  | 0, _, l => .bad l
  | n + 1, ps, l => match pIs m l with
    | none => .ok ps l
    | some l' => (part l').bind fun p l => pMore m part n (ps ++ [p]) l
def mkN (k : Int) (ps : List Pth) : Pth := match ps with | [p] => p | _ => .mk k [] ps
def pSome (k : Int) (m : List UInt8) (part : List Sg → PR Pth) (n : Nat) (l : List Sg) : PR Pth := (part l).bind fun p l => (pMore m part n [p] l).bind fun ps l => .ok (mkN k ps) l
def pPath : Nat → List Sg → PR Pth
  | 0, l => .bad l
  | n + 1, l => pSome 3 [124] (pSome 2 [47] (pPost (pPath n)) n) n l
def pAtom (N : Nat) (l : List Sg) : PR AtP := (pTerm l).bind fun s l => (pPath N l).bind fun p l => (pTerm l).bind fun o l => .ok ⟨s, p, o⟩ l
def pVars : List (List UInt8) → List Sg → List (List UInt8) × List Sg
  | vs, [] => (vs, [])
  | vs, x :: l => if x.k = 2 then pVars (vs ++ [x.tx]) l else (vs, x :: l)
def pAtoms (N : Nat) : Nat → List AtP → List Sg → PR (List AtP)
  | 0, _, l => .bad l
  | n + 1, az, l => (pAtom N l).bind fun a l => match pIs [46] l with
    | none => .ok (az ++ [a]) l
    | some l' => match pIs [125] l' with
      | some _ => .ok (az ++ [a]) l'
      | none => pAtoms N n (az ++ [a]) l'
def selW : List UInt8 := [115, 101, 108, 101, 99, 116]
def insW : List UInt8 := [105, 110, 115, 101, 114, 116]
def delW : List UInt8 := [100, 101, 108, 101, 116, 101]
def pQuery (N : Nat) (l : List Sg) : PR (List (List UInt8) × List AtP) := (pTake 1 [selW] l).bind fun _ l => (pTake 2 [] l).bind fun v l => (pTake 1 [[119, 104, 101, 114, 101]] (pVars [v] l).2).bind fun _ l2 => (pTake 3 [[123]] l2).bind fun _ l2 => (pAtoms N N [] l2).bind fun az l2 => (pTake 3 [[125]] l2).bind fun _ l2 => .ok ((pVars [v] l).1, az) l2
def pChg (l : List Sg) : PR Chg := (pTake 1 [insW, delW] l).bind fun h l => (pTake 1 [] l).bind fun s l => (pTake 1 [] l).bind fun p l => (pTake 1 [] l).bind fun o l => .ok ⟨h == delW, s, p, o⟩ l
def pChs : Nat → List Chg → List Sg → PR (List Chg)
  | 0, _, l => .bad l
  | n + 1, cs, l => (pChg l).bind fun c l => match pIs [46] l with
    | none => .ok (cs ++ [c]) l
    | some l' => pChs n (cs ++ [c]) l'
def isSel (l : List Sg) : Bool := match l with | [] => false | x :: _ => x.k == 1 && x.tx == selW
def pReq (N : Nat) (l : List Sg) : PR Rq := if isSel l = true then (pQuery N l).bind fun q l => if l = [] then .ok ⟨1, q.1, q.2, []⟩ [] else .bad l else (pChs N [] l).bind fun cs l => if l = [] then .ok ⟨2, [], [], cs⟩ [] else .bad l
/-! what is left is no more -/
def PR.le {α : Type} (r : PR α) (n : Nat) : Prop := match r with | .ok _ l => l.length ≤ n | .bad l => l.length ≤ n
theorem PR.le.mono {α : Type} {r : PR α} {n m : Nat} (h : r.le n) (k : n ≤ m) : r.le m := by cases r <;> exact Nat.le_trans h k
theorem PR.le.bind {α β : Type} {r : PR α} {n : Nat} (h : r.le n) {f : α → List Sg → PR β} (k : ∀ a l, l.length ≤ n → (f a l).le n) : (r.bind f).le n := by
  cases r with
  | ok a l => exact k a l h
  | bad l => exact h
/-! .. and is less, where something is read -/
end Go.Ab
