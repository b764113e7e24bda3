/-
  No cell of these rows narrows 'for every input' (looked for: loops, veiled, ifaces, maps, wideKeys, modest, calm, conditions, laid).
  DERIVED. THE GIVEN ROWS OF THIS SEAT. 4 by the template 'for every input the law returns true; each argument reads behind the call as it read before'; 0 by the template 'total and deterministic' (their statements: YtjmkmfolpimieaaTotals.lean).
  GIVEN WITH THE SEED: the statements are not yours to turn. If you find one false, say at which input.
  Laid BY PROGRAM, IN A SANDBOX (cutbox-rows.mjs): the forced cells as the released guide's own fill.sh prints them over the translation bdba943b7b6f4b02… (all of the seat's roots in one cut). By AI agents, Wed Nov 11 2026. No macro, syntax, notation, axiom, sorry.
-/
import Derived.Test.YtjmkmfolpimieaaChecked
import GoSem.Claim
import GoSem.ClaimJoined
import GoSem.ClaimMapViews
import Derived.JoinedTies
import Derived.KernelRfl
namespace Go.Proofs.Ytjmkmfolpimieaa
/- THE CELL 'sum', in the pinned program and in every row, IS THE sha256 OF THE DUMP (.gsa) THAT YtjmkmfolpimieaaProg.lean LOADS. Nothing in Lean hashes anything: it is a label: what it is worth is what the hold of that sum in a sandbox is worth. -/
noncomputable def Try.pinned : Pinned := { name := "ytjmkmfolpimieaa", sum := "bdba943b7b6f4b0263b273a59fe8fe5d83528ebc5455c584b680790971245314", checked := Try.checked }
namespace Rows
def none {H : Type} : Left H := { results := [], args := [] }

/-- 'sinewlaw16.FieldNumbers': WHATEVER THE INPUT: true; the input reads as it did. -/
def fieldNumbersSpec : ChangeSpec := { name := "fieldNumbers", fn := fun _ => fun
  | [d] => { results := [.lit (.bool true)], args := [d] }
  | _ => none }
def fieldNumbersRow : OpenClaim := { program := "ytjmkmfolpimieaa", sum := "bdba943b7b6f4b0263b273a59fe8fe5d83528ebc5455c584b680790971245314", func := "sinew/sinewlaw16.FieldNumbers", spec := "fieldNumbers", unfollowed := true, recurses := true, apart := false }
def FieldNumbersSaid : Prop := fieldNumbersRow.holds Try.pinned (OpenSpec.ofChange fieldNumbersSpec)

/-- ITS FALSE NEIGHBOUR: 'it returns false'. Refute it at one input. -/
def fieldNumbersWrong : ChangeSpec := { name := "fieldNumbers", fn := fun _ => fun
  | [d] => { results := [.lit (.bool false)], args := [d] }
  | _ => none }
def FieldNumbersWrongFalsely : Prop := fieldNumbersRow.holds Try.pinned (OpenSpec.ofChange fieldNumbersWrong)

/-- 'sinewlaw16.FieldPlays': WHATEVER THE INPUT: true; the input reads as it did. -/
def fieldPlaysSpec : ChangeSpec := { name := "fieldPlays", fn := fun _ => fun
  | [d1, d2] => { results := [.lit (.bool true)], args := [d1, d2] }
  | _ => none }
def fieldPlaysRow : OpenClaim := { program := "ytjmkmfolpimieaa", sum := "bdba943b7b6f4b0263b273a59fe8fe5d83528ebc5455c584b680790971245314", func := "sinew/sinewlaw16.FieldPlays", spec := "fieldPlays", unfollowed := true, recurses := true, apart := false }
def FieldPlaysSaid : Prop := fieldPlaysRow.holds Try.pinned (OpenSpec.ofChange fieldPlaysSpec)

/-- ITS FALSE NEIGHBOUR: 'it returns false'. Refute it at one input. -/
def fieldPlaysWrong : ChangeSpec := { name := "fieldPlays", fn := fun _ => fun
  | [d1, d2] => { results := [.lit (.bool false)], args := [d1, d2] }
  | _ => none }
def FieldPlaysWrongFalsely : Prop := fieldPlaysRow.holds Try.pinned (OpenSpec.ofChange fieldPlaysWrong)

/-- 'sinewlaw16.FieldNobody': WHATEVER THE INPUT: true; the input reads as it did. -/
def fieldNobodySpec : ChangeSpec := { name := "fieldNobody", fn := fun _ => fun
  | [d1, d2] => { results := [.lit (.bool true)], args := [d1, d2] }
  | _ => none }
def fieldNobodyRow : OpenClaim := { program := "ytjmkmfolpimieaa", sum := "bdba943b7b6f4b0263b273a59fe8fe5d83528ebc5455c584b680790971245314", func := "sinew/sinewlaw16.FieldNobody", spec := "fieldNobody", unfollowed := true, recurses := true, apart := false }
def FieldNobodySaid : Prop := fieldNobodyRow.holds Try.pinned (OpenSpec.ofChange fieldNobodySpec)

/-- ITS FALSE NEIGHBOUR: 'it returns false'. Refute it at one input. -/
def fieldNobodyWrong : ChangeSpec := { name := "fieldNobody", fn := fun _ => fun
  | [d1, d2] => { results := [.lit (.bool false)], args := [d1, d2] }
  | _ => none }
def FieldNobodyWrongFalsely : Prop := fieldNobodyRow.holds Try.pinned (OpenSpec.ofChange fieldNobodyWrong)

/-- 'sinewlaw16.FieldTo': WHATEVER THE INPUT: true; the input reads as it did. -/
def fieldToSpec : ChangeSpec := { name := "fieldTo", fn := fun _ => fun
  | [d] => { results := [.lit (.bool true)], args := [d] }
  | _ => none }
def fieldToRow : OpenClaim := { program := "ytjmkmfolpimieaa", sum := "bdba943b7b6f4b0263b273a59fe8fe5d83528ebc5455c584b680790971245314", func := "sinew/sinewlaw16.FieldTo", spec := "fieldTo", unfollowed := true, recurses := true, apart := false }
def FieldToSaid : Prop := fieldToRow.holds Try.pinned (OpenSpec.ofChange fieldToSpec)

/-- ITS FALSE NEIGHBOUR: 'it returns false'. Refute it at one input. -/
def fieldToWrong : ChangeSpec := { name := "fieldTo", fn := fun _ => fun
  | [d] => { results := [.lit (.bool false)], args := [d] }
  | _ => none }
def FieldToWrongFalsely : Prop := fieldToRow.holds Try.pinned (OpenSpec.ofChange fieldToWrong)

/- THE SECOND FORM. 'bulk': how many values and letters a reading holds, each counted each time it is reached (what is shared counts as often as it is met; a slice's spare places count too). A statement '..UptoSaid' is the law's where the arguments, and the package variables that the reading takes, are together of bulk at most 1048576: NARROWER than '..Said'. Prove '..Said' where nothing that the law and all that it calls make is longer than what came in: it says more and counts as full. Else prove '..UptoSaid'. A law counts once. -/
mutual
def uptoBulk {H : Type} : DataW H → Nat
  | .lit (.string bytes) => bytes.length + 1
  | .lit _ => 1
  | .nil => 1
  | .ptr d => uptoBulk d + 1
  | .slice elems spare => uptoBulkAll elems + uptoBulkAll spare + 1
  | .agg parts => uptoBulkAll parts + 1
  | .iface _ d => uptoBulk d + 1
  | .map entries => uptoBulkEntries entries + 1
  | .held _ => 1
def uptoBulkAll {H : Type} : List (DataW H) → Nat
  | [] => 0
  | d :: r => uptoBulk d + uptoBulkAll r
def uptoBulkEntries {H : Type} : List (Lit × DataW H) → Nat
  | [] => 0
  | x :: r => uptoBulkEntry x + uptoBulkEntries r
def uptoBulkEntry {H : Type} : Lit × DataW H → Nat
  | (.string bytes, d) => bytes.length + uptoBulk d + 1
  | (_, d) => uptoBulk d + 1
 end
def uptoSmall : (H : Type) → List (DataW H) → Bool := fun _ ds => decide (uptoBulkAll ds ≤ 1048576)
def OpenSpec.upto (s : _root_.Go.ChangeSpec) : _root_.Go.OpenSpec := { _root_.Go.OpenSpec.ofChange s with cond := some uptoSmall }

/-- 'sinewlaw16.FieldNumbers', WHERE WHAT IT READS IS OF BULK AT MOST 1048576: true; the input reads as it did. -/
def fieldNumbersUptoRow : OpenClaim := { program := "ytjmkmfolpimieaa", sum := "bdba943b7b6f4b0263b273a59fe8fe5d83528ebc5455c584b680790971245314", func := "sinew/sinewlaw16.FieldNumbers", spec := "fieldNumbers", unfollowed := true, recurses := true, apart := false, narrowed := true }
def FieldNumbersUptoSaid : Prop := fieldNumbersUptoRow.holds Try.pinned (OpenSpec.upto fieldNumbersSpec)

/-- 'sinewlaw16.FieldPlays', WHERE WHAT IT READS IS OF BULK AT MOST 1048576: true; the input reads as it did. -/
def fieldPlaysUptoRow : OpenClaim := { program := "ytjmkmfolpimieaa", sum := "bdba943b7b6f4b0263b273a59fe8fe5d83528ebc5455c584b680790971245314", func := "sinew/sinewlaw16.FieldPlays", spec := "fieldPlays", unfollowed := true, recurses := true, apart := false, narrowed := true }
def FieldPlaysUptoSaid : Prop := fieldPlaysUptoRow.holds Try.pinned (OpenSpec.upto fieldPlaysSpec)

/-- 'sinewlaw16.FieldNobody', WHERE WHAT IT READS IS OF BULK AT MOST 1048576: true; the input reads as it did. -/
def fieldNobodyUptoRow : OpenClaim := { program := "ytjmkmfolpimieaa", sum := "bdba943b7b6f4b0263b273a59fe8fe5d83528ebc5455c584b680790971245314", func := "sinew/sinewlaw16.FieldNobody", spec := "fieldNobody", unfollowed := true, recurses := true, apart := false, narrowed := true }
def FieldNobodyUptoSaid : Prop := fieldNobodyUptoRow.holds Try.pinned (OpenSpec.upto fieldNobodySpec)

/-- 'sinewlaw16.FieldTo', WHERE WHAT IT READS IS OF BULK AT MOST 1048576: true; the input reads as it did. -/
def fieldToUptoRow : OpenClaim := { program := "ytjmkmfolpimieaa", sum := "bdba943b7b6f4b0263b273a59fe8fe5d83528ebc5455c584b680790971245314", func := "sinew/sinewlaw16.FieldTo", spec := "fieldTo", unfollowed := true, recurses := true, apart := false, narrowed := true }
def FieldToUptoSaid : Prop := fieldToUptoRow.holds Try.pinned (OpenSpec.upto fieldToSpec)

end Rows
end Go.Proofs.Ytjmkmfolpimieaa
