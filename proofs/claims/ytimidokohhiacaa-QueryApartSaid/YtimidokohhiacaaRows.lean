/-
  NARROWER THAN 'FOR EVERY INPUT', by the rows' own cells (each row's printed sentence says how): QueryPrints: loops · QueryBack: loops · QueryNames: loops · QueryApart: loops.
  DERIVED. THE GIVEN ROWS OF THIS SEAT. 9 by the template 'for every input the law returns true; each argument reads behind the call as it read before'; 0 by the template 'total and deterministic' (their statements: YtimidokohhiacaaTotals.lean).
  GIVEN WITH THE SEED: the statements are not yours to turn. If you find one false, say at which input.
  Laid BY PROGRAM, IN A SANDBOX (cutbox-rows.mjs): the forced cells as the released guide's own fill.sh prints them over the translation 0e271d2effa13376… (all of the seat's roots in one cut). By AI agents, Wed Nov 11 2026. No macro, syntax, notation, axiom, sorry.
-/
import Derived.Test.YtimidokohhiacaaChecked
import GoSem.Claim
import GoSem.ClaimJoined
import GoSem.ClaimMapViews
import Derived.JoinedTies
import Derived.KernelRfl
namespace Go.Proofs.Ytimidokohhiacaa
/- THE CELL 'sum', in the pinned program and in every row, IS THE sha256 OF THE DUMP (.gsa) THAT YtimidokohhiacaaProg.lean LOADS. Nothing in Lean hashes anything: it is a label: what it is worth is what the hold of that sum in a sandbox is worth. -/
noncomputable def Try.pinned : Pinned := { name := "ytimidokohhiacaa", sum := "0e271d2effa1337685daea4c379d9a5da9dd6d3d0e1bf76ed4e7ade8ac996ace", checked := Try.checked }
namespace Rows
def none {H : Type} : Left H := { results := [], args := [] }

/-- 'sinewlaw09.QueryParses': WHATEVER THE INPUT: true; the input reads as it did. -/
def queryParsesSpec : ChangeSpec := { name := "queryParses", fn := fun _ => fun
  | [d] => { results := [.lit (.bool true)], args := [d] }
  | _ => none }
def queryParsesRow : OpenClaim := { program := "ytimidokohhiacaa", sum := "0e271d2effa1337685daea4c379d9a5da9dd6d3d0e1bf76ed4e7ade8ac996ace", func := "sinew/sinewlaw09.QueryParses", spec := "queryParses", inPlace := ["internal/bytealg.IndexByteString", "internal/abi.NoEscape", "internal/bytealg.MakeNoZero"], unfollowed := true, recurses := true, apart := false }
def QueryParsesSaid : Prop := queryParsesRow.holds Try.pinned (OpenSpec.ofChange queryParsesSpec)

/-- ITS FALSE NEIGHBOUR: 'it returns false'. Refute it at one input. -/
def queryParsesWrong : ChangeSpec := { name := "queryParses", fn := fun _ => fun
  | [d] => { results := [.lit (.bool false)], args := [d] }
  | _ => none }
def QueryParsesWrongFalsely : Prop := queryParsesRow.holds Try.pinned (OpenSpec.ofChange queryParsesWrong)

/-- 'sinewlaw09.QueryPrints': WHATEVER THE INPUT: true; the input reads as it did. -/
def queryPrintsSpec : ChangeSpec := { name := "queryPrints", fn := fun _ => fun
  | [d] => { results := [.lit (.bool true)], args := [d] }
  | _ => none }
def queryPrintsRow : OpenClaim := { program := "ytimidokohhiacaa", sum := "0e271d2effa1337685daea4c379d9a5da9dd6d3d0e1bf76ed4e7ade8ac996ace", func := "sinew/sinewlaw09.QueryPrints", spec := "queryPrints", inPlace := ["internal/bytealg.IndexByteString", "internal/abi.NoEscape", "internal/bytealg.MakeNoZero"], unfollowed := true, recurses := true, loops := true, apart := false }
def QueryPrintsSaid : Prop := queryPrintsRow.holds Try.pinned (OpenSpec.ofChange queryPrintsSpec)

/-- ITS FALSE NEIGHBOUR: 'it returns false'. Refute it at one input. -/
def queryPrintsWrong : ChangeSpec := { name := "queryPrints", fn := fun _ => fun
  | [d] => { results := [.lit (.bool false)], args := [d] }
  | _ => none }
def QueryPrintsWrongFalsely : Prop := queryPrintsRow.holds Try.pinned (OpenSpec.ofChange queryPrintsWrong)

/-- 'sinewlaw09.QueryBack': WHATEVER THE INPUT: true; the input reads as it did. -/
def queryBackSpec : ChangeSpec := { name := "queryBack", fn := fun _ => fun
  | [d1, d2] => { results := [.lit (.bool true)], args := [d1, d2] }
  | _ => none }
def queryBackRow : OpenClaim := { program := "ytimidokohhiacaa", sum := "0e271d2effa1337685daea4c379d9a5da9dd6d3d0e1bf76ed4e7ade8ac996ace", func := "sinew/sinewlaw09.QueryBack", spec := "queryBack", inPlace := ["internal/abi.NoEscape", "internal/bytealg.MakeNoZero", "internal/bytealg.IndexByteString"], unfollowed := true, recurses := true, loops := true, apart := false }
def QueryBackSaid : Prop := queryBackRow.holds Try.pinned (OpenSpec.ofChange queryBackSpec)

/-- ITS FALSE NEIGHBOUR: 'it returns false'. Refute it at one input. -/
def queryBackWrong : ChangeSpec := { name := "queryBack", fn := fun _ => fun
  | [d1, d2] => { results := [.lit (.bool false)], args := [d1, d2] }
  | _ => none }
def QueryBackWrongFalsely : Prop := queryBackRow.holds Try.pinned (OpenSpec.ofChange queryBackWrong)

/-- 'sinewlaw09.QueryNames': WHATEVER THE INPUT: true; the input reads as it did. -/
def queryNamesSpec : ChangeSpec := { name := "queryNames", fn := fun _ => fun
  | [d] => { results := [.lit (.bool true)], args := [d] }
  | _ => none }
def queryNamesRow : OpenClaim := { program := "ytimidokohhiacaa", sum := "0e271d2effa1337685daea4c379d9a5da9dd6d3d0e1bf76ed4e7ade8ac996ace", func := "sinew/sinewlaw09.QueryNames", spec := "queryNames", inPlace := ["internal/bytealg.IndexByteString", "internal/abi.NoEscape", "internal/bytealg.MakeNoZero"], unfollowed := true, recurses := true, loops := true, apart := false }
def QueryNamesSaid : Prop := queryNamesRow.holds Try.pinned (OpenSpec.ofChange queryNamesSpec)

/-- ITS FALSE NEIGHBOUR: 'it returns false'. Refute it at one input. -/
def queryNamesWrong : ChangeSpec := { name := "queryNames", fn := fun _ => fun
  | [d] => { results := [.lit (.bool false)], args := [d] }
  | _ => none }
def QueryNamesWrongFalsely : Prop := queryNamesRow.holds Try.pinned (OpenSpec.ofChange queryNamesWrong)

/-- 'sinewlaw09.QueryPlaces': WHATEVER THE INPUT: true; the input reads as it did. -/
def queryPlacesSpec : ChangeSpec := { name := "queryPlaces", fn := fun _ => fun
  | [d] => { results := [.lit (.bool true)], args := [d] }
  | _ => none }
def queryPlacesRow : OpenClaim := { program := "ytimidokohhiacaa", sum := "0e271d2effa1337685daea4c379d9a5da9dd6d3d0e1bf76ed4e7ade8ac996ace", func := "sinew/sinewlaw09.QueryPlaces", spec := "queryPlaces", inPlace := ["internal/bytealg.IndexByteString", "internal/abi.NoEscape", "internal/bytealg.MakeNoZero"], unfollowed := true, recurses := true, apart := false }
def QueryPlacesSaid : Prop := queryPlacesRow.holds Try.pinned (OpenSpec.ofChange queryPlacesSpec)

/-- ITS FALSE NEIGHBOUR: 'it returns false'. Refute it at one input. -/
def queryPlacesWrong : ChangeSpec := { name := "queryPlaces", fn := fun _ => fun
  | [d] => { results := [.lit (.bool false)], args := [d] }
  | _ => none }
def QueryPlacesWrongFalsely : Prop := queryPlacesRow.holds Try.pinned (OpenSpec.ofChange queryPlacesWrong)

/-- 'sinewlaw09.QueryBatch': WHATEVER THE INPUT: true; the input reads as it did. -/
def queryBatchSpec : ChangeSpec := { name := "queryBatch", fn := fun _ => fun
  | [d] => { results := [.lit (.bool true)], args := [d] }
  | _ => none }
def queryBatchRow : OpenClaim := { program := "ytimidokohhiacaa", sum := "0e271d2effa1337685daea4c379d9a5da9dd6d3d0e1bf76ed4e7ade8ac996ace", func := "sinew/sinewlaw09.QueryBatch", spec := "queryBatch", inPlace := ["internal/bytealg.IndexByteString", "internal/abi.NoEscape", "internal/bytealg.MakeNoZero"], unfollowed := true, recurses := true, apart := false }
def QueryBatchSaid : Prop := queryBatchRow.holds Try.pinned (OpenSpec.ofChange queryBatchSpec)

/-- ITS FALSE NEIGHBOUR: 'it returns false'. Refute it at one input. -/
def queryBatchWrong : ChangeSpec := { name := "queryBatch", fn := fun _ => fun
  | [d] => { results := [.lit (.bool false)], args := [d] }
  | _ => none }
def QueryBatchWrongFalsely : Prop := queryBatchRow.holds Try.pinned (OpenSpec.ofChange queryBatchWrong)

/-- 'sinewlaw09.QueryLimits': WHATEVER THE INPUT: true; the input reads as it did. -/
def queryLimitsSpec : ChangeSpec := { name := "queryLimits", fn := fun _ => fun
  | [d1, d2] => { results := [.lit (.bool true)], args := [d1, d2] }
  | _ => none }
def queryLimitsRow : OpenClaim := { program := "ytimidokohhiacaa", sum := "0e271d2effa1337685daea4c379d9a5da9dd6d3d0e1bf76ed4e7ade8ac996ace", func := "sinew/sinewlaw09.QueryLimits", spec := "queryLimits", inPlace := ["internal/bytealg.IndexByteString", "internal/abi.NoEscape", "internal/bytealg.MakeNoZero"], unfollowed := true, recurses := true, apart := false }
def QueryLimitsSaid : Prop := queryLimitsRow.holds Try.pinned (OpenSpec.ofChange queryLimitsSpec)

/-- ITS FALSE NEIGHBOUR: 'it returns false'. Refute it at one input. -/
def queryLimitsWrong : ChangeSpec := { name := "queryLimits", fn := fun _ => fun
  | [d1, d2] => { results := [.lit (.bool false)], args := [d1, d2] }
  | _ => none }
def QueryLimitsWrongFalsely : Prop := queryLimitsRow.holds Try.pinned (OpenSpec.ofChange queryLimitsWrong)

/-- 'sinewlaw09.QueryBlanks': WHATEVER THE INPUT: true; the input reads as it did. -/
def queryBlanksSpec : ChangeSpec := { name := "queryBlanks", fn := fun _ => fun
  | [d1, d2] => { results := [.lit (.bool true)], args := [d1, d2] }
  | _ => none }
def queryBlanksRow : OpenClaim := { program := "ytimidokohhiacaa", sum := "0e271d2effa1337685daea4c379d9a5da9dd6d3d0e1bf76ed4e7ade8ac996ace", func := "sinew/sinewlaw09.QueryBlanks", spec := "queryBlanks", inPlace := ["internal/bytealg.IndexByteString", "internal/abi.NoEscape", "internal/bytealg.MakeNoZero"], unfollowed := true, recurses := true, apart := false }
def QueryBlanksSaid : Prop := queryBlanksRow.holds Try.pinned (OpenSpec.ofChange queryBlanksSpec)

/-- ITS FALSE NEIGHBOUR: 'it returns false'. Refute it at one input. -/
def queryBlanksWrong : ChangeSpec := { name := "queryBlanks", fn := fun _ => fun
  | [d1, d2] => { results := [.lit (.bool false)], args := [d1, d2] }
  | _ => none }
def QueryBlanksWrongFalsely : Prop := queryBlanksRow.holds Try.pinned (OpenSpec.ofChange queryBlanksWrong)

/-- 'sinewlaw09.QueryApart': WHATEVER THE INPUT: true; the input reads as it did. -/
def queryApartSpec : ChangeSpec := { name := "queryApart", fn := fun _ => fun
  | [d1, d2] => { results := [.lit (.bool true)], args := [d1, d2] }
  | _ => none }
def queryApartRow : OpenClaim := { program := "ytimidokohhiacaa", sum := "0e271d2effa1337685daea4c379d9a5da9dd6d3d0e1bf76ed4e7ade8ac996ace", func := "sinew/sinewlaw09.QueryApart", spec := "queryApart", inPlace := ["internal/bytealg.IndexByteString", "internal/abi.NoEscape", "internal/bytealg.MakeNoZero"], unfollowed := true, recurses := true, loops := true, apart := false }
def QueryApartSaid : Prop := queryApartRow.holds Try.pinned (OpenSpec.ofChange queryApartSpec)

/-- ITS FALSE NEIGHBOUR: 'it returns false'. Refute it at one input. -/
def queryApartWrong : ChangeSpec := { name := "queryApart", fn := fun _ => fun
  | [d1, d2] => { results := [.lit (.bool false)], args := [d1, d2] }
  | _ => none }
def QueryApartWrongFalsely : Prop := queryApartRow.holds Try.pinned (OpenSpec.ofChange queryApartWrong)

/- THE SECOND FORM. 'bulk': how many values and letters a reading holds, each counted each time it is reached (what is shared counts as often as it is met; a slice's spare places count too). A statement '..UptoSaid' is the law's where the arguments, and the package variables that the reading takes, are together of bulk at most 1048576: NARROWER than '..Said'. Prove '..Said' where nothing that the law and all that it calls make is longer than what came in: it says more and counts as full. Else prove '..UptoSaid'. A law counts once. -/
mutual
def uptoBulk {H : Type} : DataW H → Nat
  | .lit (.string bytes) => bytes.length + 1
  | .lit _ => 1
  | .nil => 1
  | .ptr d => uptoBulk d + 1
  | .slice elems spare => uptoBulkAll elems + uptoBulkAll spare + 1
  | .agg parts => uptoBulkAll parts + 1
  | .iface _ d => uptoBulk d + 1
  | .map entries => uptoBulkEntries entries + 1
  | .held _ => 1
def uptoBulkAll {H : Type} : List (DataW H) → Nat
  | [] => 0
  | d :: r => uptoBulk d + uptoBulkAll r
def uptoBulkEntries {H : Type} : List (Lit × DataW H) → Nat
  | [] => 0
  | x :: r => uptoBulkEntry x + uptoBulkEntries r
def uptoBulkEntry {H : Type} : Lit × DataW H → Nat
  | (.string bytes, d) => bytes.length + uptoBulk d + 1
  | (_, d) => uptoBulk d + 1
 end
def uptoSmall : (H : Type) → List (DataW H) → Bool := fun _ ds => decide (uptoBulkAll ds ≤ 1048576)
def OpenSpec.upto (s : _root_.Go.ChangeSpec) : _root_.Go.OpenSpec := { _root_.Go.OpenSpec.ofChange s with cond := some uptoSmall }

/-- 'sinewlaw09.QueryParses', WHERE WHAT IT READS IS OF BULK AT MOST 1048576: true; the input reads as it did. -/
def queryParsesUptoRow : OpenClaim := { program := "ytimidokohhiacaa", sum := "0e271d2effa1337685daea4c379d9a5da9dd6d3d0e1bf76ed4e7ade8ac996ace", func := "sinew/sinewlaw09.QueryParses", spec := "queryParses", inPlace := ["internal/bytealg.IndexByteString", "internal/abi.NoEscape", "internal/bytealg.MakeNoZero"], unfollowed := true, recurses := true, apart := false, narrowed := true }
def QueryParsesUptoSaid : Prop := queryParsesUptoRow.holds Try.pinned (OpenSpec.upto queryParsesSpec)

/-- 'sinewlaw09.QueryPrints', WHERE WHAT IT READS IS OF BULK AT MOST 1048576: true; the input reads as it did. -/
def queryPrintsUptoRow : OpenClaim := { program := "ytimidokohhiacaa", sum := "0e271d2effa1337685daea4c379d9a5da9dd6d3d0e1bf76ed4e7ade8ac996ace", func := "sinew/sinewlaw09.QueryPrints", spec := "queryPrints", inPlace := ["internal/bytealg.IndexByteString", "internal/abi.NoEscape", "internal/bytealg.MakeNoZero"], unfollowed := true, recurses := true, loops := true, apart := false, narrowed := true }
def QueryPrintsUptoSaid : Prop := queryPrintsUptoRow.holds Try.pinned (OpenSpec.upto queryPrintsSpec)

/-- 'sinewlaw09.QueryBack', WHERE WHAT IT READS IS OF BULK AT MOST 1048576: true; the input reads as it did. -/
def queryBackUptoRow : OpenClaim := { program := "ytimidokohhiacaa", sum := "0e271d2effa1337685daea4c379d9a5da9dd6d3d0e1bf76ed4e7ade8ac996ace", func := "sinew/sinewlaw09.QueryBack", spec := "queryBack", inPlace := ["internal/abi.NoEscape", "internal/bytealg.MakeNoZero", "internal/bytealg.IndexByteString"], unfollowed := true, recurses := true, loops := true, apart := false, narrowed := true }
def QueryBackUptoSaid : Prop := queryBackUptoRow.holds Try.pinned (OpenSpec.upto queryBackSpec)

/-- 'sinewlaw09.QueryNames', WHERE WHAT IT READS IS OF BULK AT MOST 1048576: true; the input reads as it did. -/
def queryNamesUptoRow : OpenClaim := { program := "ytimidokohhiacaa", sum := "0e271d2effa1337685daea4c379d9a5da9dd6d3d0e1bf76ed4e7ade8ac996ace", func := "sinew/sinewlaw09.QueryNames", spec := "queryNames", inPlace := ["internal/bytealg.IndexByteString", "internal/abi.NoEscape", "internal/bytealg.MakeNoZero"], unfollowed := true, recurses := true, loops := true, apart := false, narrowed := true }
def QueryNamesUptoSaid : Prop := queryNamesUptoRow.holds Try.pinned (OpenSpec.upto queryNamesSpec)

/-- 'sinewlaw09.QueryPlaces', WHERE WHAT IT READS IS OF BULK AT MOST 1048576: true; the input reads as it did. -/
def queryPlacesUptoRow : OpenClaim := { program := "ytimidokohhiacaa", sum := "0e271d2effa1337685daea4c379d9a5da9dd6d3d0e1bf76ed4e7ade8ac996ace", func := "sinew/sinewlaw09.QueryPlaces", spec := "queryPlaces", inPlace := ["internal/bytealg.IndexByteString", "internal/abi.NoEscape", "internal/bytealg.MakeNoZero"], unfollowed := true, recurses := true, apart := false, narrowed := true }
def QueryPlacesUptoSaid : Prop := queryPlacesUptoRow.holds Try.pinned (OpenSpec.upto queryPlacesSpec)

/-- 'sinewlaw09.QueryBatch', WHERE WHAT IT READS IS OF BULK AT MOST 1048576: true; the input reads as it did. -/
def queryBatchUptoRow : OpenClaim := { program := "ytimidokohhiacaa", sum := "0e271d2effa1337685daea4c379d9a5da9dd6d3d0e1bf76ed4e7ade8ac996ace", func := "sinew/sinewlaw09.QueryBatch", spec := "queryBatch", inPlace := ["internal/bytealg.IndexByteString", "internal/abi.NoEscape", "internal/bytealg.MakeNoZero"], unfollowed := true, recurses := true, apart := false, narrowed := true }
def QueryBatchUptoSaid : Prop := queryBatchUptoRow.holds Try.pinned (OpenSpec.upto queryBatchSpec)

/-- 'sinewlaw09.QueryLimits', WHERE WHAT IT READS IS OF BULK AT MOST 1048576: true; the input reads as it did. -/
def queryLimitsUptoRow : OpenClaim := { program := "ytimidokohhiacaa", sum := "0e271d2effa1337685daea4c379d9a5da9dd6d3d0e1bf76ed4e7ade8ac996ace", func := "sinew/sinewlaw09.QueryLimits", spec := "queryLimits", inPlace := ["internal/bytealg.IndexByteString", "internal/abi.NoEscape", "internal/bytealg.MakeNoZero"], unfollowed := true, recurses := true, apart := false, narrowed := true }
def QueryLimitsUptoSaid : Prop := queryLimitsUptoRow.holds Try.pinned (OpenSpec.upto queryLimitsSpec)

/-- 'sinewlaw09.QueryBlanks', WHERE WHAT IT READS IS OF BULK AT MOST 1048576: true; the input reads as it did. -/
def queryBlanksUptoRow : OpenClaim := { program := "ytimidokohhiacaa", sum := "0e271d2effa1337685daea4c379d9a5da9dd6d3d0e1bf76ed4e7ade8ac996ace", func := "sinew/sinewlaw09.QueryBlanks", spec := "queryBlanks", inPlace := ["internal/bytealg.IndexByteString", "internal/abi.NoEscape", "internal/bytealg.MakeNoZero"], unfollowed := true, recurses := true, apart := false, narrowed := true }
def QueryBlanksUptoSaid : Prop := queryBlanksUptoRow.holds Try.pinned (OpenSpec.upto queryBlanksSpec)

/-- 'sinewlaw09.QueryApart', WHERE WHAT IT READS IS OF BULK AT MOST 1048576: true; the input reads as it did. -/
def queryApartUptoRow : OpenClaim := { program := "ytimidokohhiacaa", sum := "0e271d2effa1337685daea4c379d9a5da9dd6d3d0e1bf76ed4e7ade8ac996ace", func := "sinew/sinewlaw09.QueryApart", spec := "queryApart", inPlace := ["internal/bytealg.IndexByteString", "internal/abi.NoEscape", "internal/bytealg.MakeNoZero"], unfollowed := true, recurses := true, loops := true, apart := false, narrowed := true }
def QueryApartUptoSaid : Prop := queryApartUptoRow.holds Try.pinned (OpenSpec.upto queryApartSpec)

end Rows
end Go.Proofs.Ytimidokohhiacaa
