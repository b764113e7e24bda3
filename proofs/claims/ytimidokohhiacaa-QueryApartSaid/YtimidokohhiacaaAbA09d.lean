import Derived.Test.YtimidokohhiacaaAbA09c
/- sinew/query: the parser's functions: queries, changes. -/
namespace Go.Ab
open Go.Proofs Go.RowKit
set_option linter.unusedVariables false
set_option linter.unusedSimpArgs false
set_option maxRecDepth 100000
/-! what is left is an end of what there was -/
def PR.suf {α : Type} (r : PR α) (l0 : List Sg) : Prop := match r with | .ok _ l => l <:+ l0 | .bad l => l <:+ l0
theorem PR.suf.bind {α β : Type} {r : PR α} {l0 : List Sg} (h : r.suf l0) {f : α → List Sg → PR β} (k : ∀ a l, (f a l).suf l) : (r.bind f).suf l0 := by
  cases r with
  | ok a l =>
    have h1 : l <:+ l0 := h
    have h2 := k a l
    show (f a l).suf l0
    cases hf : f a l with
    | ok b l2 => rw [hf] at h2; exact List.IsSuffix.trans h2 h1
    | bad l2 => rw [hf] at h2; exact List.IsSuffix.trans h2 h1
  | bad l => exact h
/-- A mark's text stands in marks alone. -/
def MkOK (l : List Sg) : Prop := ∀ x ∈ l, x.tx = [125] → x.k = 3
theorem MkOK.suf {l l' : List Sg} (h : MkOK l) (k : l' <:+ l) : MkOK l' := fun x hx => h x (k.subset hx)
theorem MkOK.ok {α : Type} {l l' : List Sg} {r : PR α} {a : α} (h : MkOK l) (k : r.suf l) (e : r = .ok a l') : MkOK l' := by subst e; exact h.suf k
/-! the walk -/
def qC (vs : List (List UInt8)) (u : Nat) (ats : List AtP) (u2 : Nat) : List V := [.lst (strsV vs) u, .lst (ats.map atpV) u2]
def qV (q : List (List UInt8) × List AtP) : V := .agg [.lst (strsV q.1) 0, .lst (q.2.map atpV) 0]
theorem ret_kid (x : Res) : A.ret x kid = x := by
  match x with
  | none => rfl
  | some (.ret v, st) => rfl
  | some (.panic v, st) => rfl
end Go.Ab
