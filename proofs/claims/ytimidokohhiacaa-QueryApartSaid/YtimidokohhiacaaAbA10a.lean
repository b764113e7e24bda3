import Derived.Test.YtimidokohhiacaaAbA09e
import Derived.Test.YtimidokohhiacaaAbA09i
/- sinew/query: what is read is made of what the signs hold. -/
namespace Go.Ab
open Go.Proofs Go.RowKit
set_option linter.unusedVariables false
set_option linter.unusedSimpArgs false
/-- The texts of words and names. -/
def SgW (W : List UInt8 → Prop) (l : List Sg) : Prop := ∀ x ∈ l, (x.k = 1 ∨ x.k = 2) → W x.tx
theorem SgW.suf {W : List UInt8 → Prop} {l l' : List Sg} (h : SgW W l) (k : l' <:+ l) : SgW W l' := fun x hx => h x (k.subset hx)
/-- What holds of all paths that are read. -/
structure QC (W : List UInt8 → Prop) (Q : Pth → Prop) : Prop where
  word : ∀ w, W w → Q (.mk 1 w [])
  post : ∀ k p, (k = 4 ∨ k = 5 ∨ k = 6) → Q p → Q (.mk k [] [p])
  more : ∀ k ps, (k = 2 ∨ k = 3) → 2 ≤ ps.length → (∀ p ∈ ps, Q p) → Q (.mk k [] ps)
def PR.all {α : Type} (Q : α → Prop) (r : PR α) : Prop := match r with | .ok a _ => Q a | .bad _ => True
theorem PR.all.bind {α β : Type} {Q : α → Prop} {P : β → Prop} {r : PR α} {W : List UInt8 → Prop} {l : List Sg} (h : r.all Q) (hs : r.suf l) (hw : SgW W l) {f : α → List Sg → PR β} (k : ∀ a l', SgW W l' → Q a → (f a l').all P) : (r.bind f).all P := by
  cases r with
  | ok a l' => exact k a l' (hw.suf hs) h
  | bad l' => trivial
variable {W : List UInt8 → Prop} {Q : Pth → Prop}
def AtQ (W : List UInt8 → Prop) (Q : Pth → Prop) (a : AtP) : Prop := W a.s.n ∧ Q a.p ∧ W a.o.n
def ChQ (W : List UInt8 → Prop) (c : Chg) : Prop := W c.s ∧ W c.p ∧ W c.o
/-- A request that is read. -/
def RqQ (W : List UInt8 → Prop) (Q : Pth → Prop) (r : Rq) : Prop :=
  (r.kind = 1 ∧ r.ch = [] ∧ r.vars ≠ [] ∧ (∀ v ∈ r.vars, W v) ∧ r.atoms ≠ [] ∧ ∀ a ∈ r.atoms, AtQ W Q a) ∨ (r.kind = 2 ∧ r.vars = [] ∧ r.atoms = [] ∧ r.ch ≠ [] ∧ ∀ c ∈ r.ch, ChQ W c)
end Go.Ab
