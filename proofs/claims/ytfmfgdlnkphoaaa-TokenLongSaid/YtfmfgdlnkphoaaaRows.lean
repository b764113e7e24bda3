/-
  No cell of these rows narrows 'for every input' (looked for: loops, veiled, ifaces, maps, wideKeys, modest, calm, conditions, laid).
  DERIVED. THE GIVEN ROWS OF THIS SEAT. 5 by the template 'for every input the law returns true; each argument reads behind the call as it read before'; 0 by the template 'total and deterministic' (their statements: YtfmfgdlnkphoaaaTotals.lean).
  GIVEN WITH THE SEED: the statements are not yours to turn. If you find one false, say at which input.
  Laid BY PROGRAM, IN A SANDBOX (cutbox-rows.mjs): the forced cells as the released guide's own fill.sh prints them over the translation a0b9548346f44d64… (all of the seat's roots in one cut). By AI agents, Wed Nov 11 2026. No macro, syntax, notation, axiom, sorry.
-/
import Derived.Test.YtfmfgdlnkphoaaaChecked
import GoSem.Claim
import GoSem.ClaimJoined
import GoSem.ClaimMapViews
import Derived.JoinedTies
import Derived.KernelRfl
namespace Go.Proofs.Ytfmfgdlnkphoaaa
/- THE CELL 'sum', in the pinned program and in every row, IS THE sha256 OF THE DUMP (.gsa) THAT YtfmfgdlnkphoaaaProg.lean LOADS. Nothing in Lean hashes anything: it is a label: what it is worth is what the hold of that sum in a sandbox is worth. -/
noncomputable def Try.pinned : Pinned := { name := "ytfmfgdlnkphoaaa", sum := "a0b9548346f44d64255879288056cc0da585fa69f86f734b9e2f1a60033f18af", checked := Try.checked }
namespace Rows
def none {H : Type} : Left H := { results := [], args := [] }

/-- 'sinewlaw08.TokenSigns': WHATEVER THE INPUT: true; the input reads as it did. -/
def tokenSignsSpec : ChangeSpec := { name := "tokenSigns", fn := fun _ => fun
  | [d] => { results := [.lit (.bool true)], args := [d] }
  | _ => none }
def tokenSignsRow : OpenClaim := { program := "ytfmfgdlnkphoaaa", sum := "a0b9548346f44d64255879288056cc0da585fa69f86f734b9e2f1a60033f18af", func := "sinew/sinewlaw08.TokenSigns", spec := "tokenSigns", inPlace := ["internal/bytealg.IndexByteString"], apart := false }
def TokenSignsSaid : Prop := tokenSignsRow.holds Try.pinned (OpenSpec.ofChange tokenSignsSpec)

/-- ITS FALSE NEIGHBOUR: 'it returns false'. Refute it at one input. -/
def tokenSignsWrong : ChangeSpec := { name := "tokenSigns", fn := fun _ => fun
  | [d] => { results := [.lit (.bool false)], args := [d] }
  | _ => none }
def TokenSignsWrongFalsely : Prop := tokenSignsRow.holds Try.pinned (OpenSpec.ofChange tokenSignsWrong)

/-- 'sinewlaw08.TokenPlaces': WHATEVER THE INPUT: true; the input reads as it did. -/
def tokenPlacesSpec : ChangeSpec := { name := "tokenPlaces", fn := fun _ => fun
  | [d] => { results := [.lit (.bool true)], args := [d] }
  | _ => none }
def tokenPlacesRow : OpenClaim := { program := "ytfmfgdlnkphoaaa", sum := "a0b9548346f44d64255879288056cc0da585fa69f86f734b9e2f1a60033f18af", func := "sinew/sinewlaw08.TokenPlaces", spec := "tokenPlaces", inPlace := ["internal/bytealg.IndexByteString"], apart := false }
def TokenPlacesSaid : Prop := tokenPlacesRow.holds Try.pinned (OpenSpec.ofChange tokenPlacesSpec)

/-- ITS FALSE NEIGHBOUR: 'it returns false'. Refute it at one input. -/
def tokenPlacesWrong : ChangeSpec := { name := "tokenPlaces", fn := fun _ => fun
  | [d] => { results := [.lit (.bool false)], args := [d] }
  | _ => none }
def TokenPlacesWrongFalsely : Prop := tokenPlacesRow.holds Try.pinned (OpenSpec.ofChange tokenPlacesWrong)

/-- 'sinewlaw08.TokenJoins': WHATEVER THE INPUT: true; the input reads as it did. -/
def tokenJoinsSpec : ChangeSpec := { name := "tokenJoins", fn := fun _ => fun
  | [d1, d2] => { results := [.lit (.bool true)], args := [d1, d2] }
  | _ => none }
def tokenJoinsRow : OpenClaim := { program := "ytfmfgdlnkphoaaa", sum := "a0b9548346f44d64255879288056cc0da585fa69f86f734b9e2f1a60033f18af", func := "sinew/sinewlaw08.TokenJoins", spec := "tokenJoins", inPlace := ["internal/bytealg.IndexByteString"], apart := false }
def TokenJoinsSaid : Prop := tokenJoinsRow.holds Try.pinned (OpenSpec.ofChange tokenJoinsSpec)

/-- ITS FALSE NEIGHBOUR: 'it returns false'. Refute it at one input. -/
def tokenJoinsWrong : ChangeSpec := { name := "tokenJoins", fn := fun _ => fun
  | [d1, d2] => { results := [.lit (.bool false)], args := [d1, d2] }
  | _ => none }
def TokenJoinsWrongFalsely : Prop := tokenJoinsRow.holds Try.pinned (OpenSpec.ofChange tokenJoinsWrong)

/-- 'sinewlaw08.TokenLong': WHATEVER THE INPUT: true; the input reads as it did. -/
def tokenLongSpec : ChangeSpec := { name := "tokenLong", fn := fun _ => fun
  | [d] => { results := [.lit (.bool true)], args := [d] }
  | _ => none }
def tokenLongRow : OpenClaim := { program := "ytfmfgdlnkphoaaa", sum := "a0b9548346f44d64255879288056cc0da585fa69f86f734b9e2f1a60033f18af", func := "sinew/sinewlaw08.TokenLong", spec := "tokenLong", inPlace := ["internal/bytealg.IndexByteString"], apart := false }
def TokenLongSaid : Prop := tokenLongRow.holds Try.pinned (OpenSpec.ofChange tokenLongSpec)

/-- ITS FALSE NEIGHBOUR: 'it returns false'. Refute it at one input. -/
def tokenLongWrong : ChangeSpec := { name := "tokenLong", fn := fun _ => fun
  | [d] => { results := [.lit (.bool false)], args := [d] }
  | _ => none }
def TokenLongWrongFalsely : Prop := tokenLongRow.holds Try.pinned (OpenSpec.ofChange tokenLongWrong)

/-- 'sinewlaw08.TokenMarks': WHATEVER THE INPUT: true; the input reads as it did. -/
def tokenMarksSpec : ChangeSpec := { name := "tokenMarks", fn := fun _ => fun
  | [d1, d2] => { results := [.lit (.bool true)], args := [d1, d2] }
  | _ => none }
def tokenMarksRow : OpenClaim := { program := "ytfmfgdlnkphoaaa", sum := "a0b9548346f44d64255879288056cc0da585fa69f86f734b9e2f1a60033f18af", func := "sinew/sinewlaw08.TokenMarks", spec := "tokenMarks", inPlace := ["internal/bytealg.IndexByteString"], apart := false }
def TokenMarksSaid : Prop := tokenMarksRow.holds Try.pinned (OpenSpec.ofChange tokenMarksSpec)

/-- ITS FALSE NEIGHBOUR: 'it returns false'. Refute it at one input. -/
def tokenMarksWrong : ChangeSpec := { name := "tokenMarks", fn := fun _ => fun
  | [d1, d2] => { results := [.lit (.bool false)], args := [d1, d2] }
  | _ => none }
def TokenMarksWrongFalsely : Prop := tokenMarksRow.holds Try.pinned (OpenSpec.ofChange tokenMarksWrong)

/- THE SECOND FORM. 'bulk': how many values and letters a reading holds, each counted each time it is reached (what is shared counts as often as it is met; a slice's spare places count too). A statement '..UptoSaid' is the law's where the arguments, and the package variables that the reading takes, are together of bulk at most 1048576: NARROWER than '..Said'. Prove '..Said' where nothing that the law and all that it calls make is longer than what came in: it says more and counts as full. Else prove '..UptoSaid'. A law counts once. -/
mutual
def uptoBulk {H : Type} : DataW H → Nat
  | .lit (.string bytes) => bytes.length + 1
  | .lit _ => 1
  | .nil => 1
  | .ptr d => uptoBulk d + 1
  | .slice elems spare => uptoBulkAll elems + uptoBulkAll spare + 1
  | .agg parts => uptoBulkAll parts + 1
  | .iface _ d => uptoBulk d + 1
  | .map entries => uptoBulkEntries entries + 1
  | .held _ => 1
def uptoBulkAll {H : Type} : List (DataW H) → Nat
  | [] => 0
  | d :: r => uptoBulk d + uptoBulkAll r
def uptoBulkEntries {H : Type} : List (Lit × DataW H) → Nat
  | [] => 0
  | x :: r => uptoBulkEntry x + uptoBulkEntries r
def uptoBulkEntry {H : Type} : Lit × DataW H → Nat
  | (.string bytes, d) => bytes.length + uptoBulk d + 1
  | (_, d) => uptoBulk d + 1
 end
def uptoSmall : (H : Type) → List (DataW H) → Bool := fun _ ds => decide (uptoBulkAll ds ≤ 1048576)
def OpenSpec.upto (s : _root_.Go.ChangeSpec) : _root_.Go.OpenSpec := { _root_.Go.OpenSpec.ofChange s with cond := some uptoSmall }

/-- 'sinewlaw08.TokenSigns', WHERE WHAT IT READS IS OF BULK AT MOST 1048576: true; the input reads as it did. -/
def tokenSignsUptoRow : OpenClaim := { program := "ytfmfgdlnkphoaaa", sum := "a0b9548346f44d64255879288056cc0da585fa69f86f734b9e2f1a60033f18af", func := "sinew/sinewlaw08.TokenSigns", spec := "tokenSigns", inPlace := ["internal/bytealg.IndexByteString"], apart := false, narrowed := true }
def TokenSignsUptoSaid : Prop := tokenSignsUptoRow.holds Try.pinned (OpenSpec.upto tokenSignsSpec)

/-- 'sinewlaw08.TokenPlaces', WHERE WHAT IT READS IS OF BULK AT MOST 1048576: true; the input reads as it did. -/
def tokenPlacesUptoRow : OpenClaim := { program := "ytfmfgdlnkphoaaa", sum := "a0b9548346f44d64255879288056cc0da585fa69f86f734b9e2f1a60033f18af", func := "sinew/sinewlaw08.TokenPlaces", spec := "tokenPlaces", inPlace := ["internal/bytealg.IndexByteString"], apart := false, narrowed := true }
def TokenPlacesUptoSaid : Prop := tokenPlacesUptoRow.holds Try.pinned (OpenSpec.upto tokenPlacesSpec)

/-- 'sinewlaw08.TokenJoins', WHERE WHAT IT READS IS OF BULK AT MOST 1048576: true; the input reads as it did. -/
def tokenJoinsUptoRow : OpenClaim := { program := "ytfmfgdlnkphoaaa", sum := "a0b9548346f44d64255879288056cc0da585fa69f86f734b9e2f1a60033f18af", func := "sinew/sinewlaw08.TokenJoins", spec := "tokenJoins", inPlace := ["internal/bytealg.IndexByteString"], apart := false, narrowed := true }
def TokenJoinsUptoSaid : Prop := tokenJoinsUptoRow.holds Try.pinned (OpenSpec.upto tokenJoinsSpec)

/-- 'sinewlaw08.TokenLong', WHERE WHAT IT READS IS OF BULK AT MOST 1048576: true; the input reads as it did. -/
def tokenLongUptoRow : OpenClaim := { program := "ytfmfgdlnkphoaaa", sum := "a0b9548346f44d64255879288056cc0da585fa69f86f734b9e2f1a60033f18af", func := "sinew/sinewlaw08.TokenLong", spec := "tokenLong", inPlace := ["internal/bytealg.IndexByteString"], apart := false, narrowed := true }
def TokenLongUptoSaid : Prop := tokenLongUptoRow.holds Try.pinned (OpenSpec.upto tokenLongSpec)

/-- 'sinewlaw08.TokenMarks', WHERE WHAT IT READS IS OF BULK AT MOST 1048576: true; the input reads as it did. -/
def tokenMarksUptoRow : OpenClaim := { program := "ytfmfgdlnkphoaaa", sum := "a0b9548346f44d64255879288056cc0da585fa69f86f734b9e2f1a60033f18af", func := "sinew/sinewlaw08.TokenMarks", spec := "tokenMarks", inPlace := ["internal/bytealg.IndexByteString"], apart := false, narrowed := true }
def TokenMarksUptoSaid : Prop := tokenMarksUptoRow.holds Try.pinned (OpenSpec.upto tokenMarksSpec)

end Rows
end Go.Proofs.Ytfmfgdlnkphoaaa
