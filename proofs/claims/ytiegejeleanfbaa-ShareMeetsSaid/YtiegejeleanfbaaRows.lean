/-
  No cell of these rows narrows 'for every input' (looked for: loops, veiled, ifaces, maps, wideKeys, modest, calm, conditions, laid).
  DERIVED. THE GIVEN ROWS OF THIS SEAT. 7 by the template 'for every input the law returns true; each argument reads behind the call as it read before'; 0 by the template 'total and deterministic' (their statements: YtiegejeleanfbaaTotals.lean).
  GIVEN WITH THE SEED: the statements are not yours to turn. If you find one false, say at which input.
  Laid BY PROGRAM, IN A SANDBOX (cutbox-rows.mjs): the forced cells as the released guide's own fill.sh prints them over the translation 0f0bbec4de41e0fa… (all of the seat's roots in one cut). By AI agents, Wed Nov 11 2026. No macro, syntax, notation, axiom, sorry.
-/
import Derived.Test.YtiegejeleanfbaaChecked
import GoSem.Claim
import GoSem.ClaimJoined
import GoSem.ClaimMapViews
import Derived.JoinedTies
import Derived.KernelRfl
namespace Go.Proofs.Ytiegejeleanfbaa
/- THE CELL 'sum', in the pinned program and in every row, IS THE sha256 OF THE DUMP (.gsa) THAT YtiegejeleanfbaaProg.lean LOADS. Nothing in Lean hashes anything: it is a label: what it is worth is what the hold of that sum in a sandbox is worth. -/
noncomputable def Try.pinned : Pinned := { name := "ytiegejeleanfbaa", sum := "0f0bbec4de41e0fa619b9a0ffc7f263ad5c30c2599c257a4728fb65c952ba0e6", checked := Try.checked }
namespace Rows
def none {H : Type} : Left H := { results := [], args := [] }

/-- 'sinewlaw13.ShareShares': WHATEVER THE INPUT: true; the input reads as it did. -/
def shareSharesSpec : ChangeSpec := { name := "shareShares", fn := fun _ => fun
  | [d1, d2, d3] => { results := [.lit (.bool true)], args := [d1, d2, d3] }
  | _ => none }
def shareSharesRow : OpenClaim := { program := "ytiegejeleanfbaa", sum := "0f0bbec4de41e0fa619b9a0ffc7f263ad5c30c2599c257a4728fb65c952ba0e6", func := "sinew/sinewlaw13.ShareShares", spec := "shareShares", unfollowed := true, recurses := true, apart := false }
def ShareSharesSaid : Prop := shareSharesRow.holds Try.pinned (OpenSpec.ofChange shareSharesSpec)

/-- ITS FALSE NEIGHBOUR: 'it returns false'. Refute it at one input. -/
def shareSharesWrong : ChangeSpec := { name := "shareShares", fn := fun _ => fun
  | [d1, d2, d3] => { results := [.lit (.bool false)], args := [d1, d2, d3] }
  | _ => none }
def ShareSharesWrongFalsely : Prop := shareSharesRow.holds Try.pinned (OpenSpec.ofChange shareSharesWrong)

/-- 'sinewlaw13.ShareLeast': WHATEVER THE INPUT: true; the input reads as it did. -/
def shareLeastSpec : ChangeSpec := { name := "shareLeast", fn := fun _ => fun
  | [d1, d2, d3] => { results := [.lit (.bool true)], args := [d1, d2, d3] }
  | _ => none }
def shareLeastRow : OpenClaim := { program := "ytiegejeleanfbaa", sum := "0f0bbec4de41e0fa619b9a0ffc7f263ad5c30c2599c257a4728fb65c952ba0e6", func := "sinew/sinewlaw13.ShareLeast", spec := "shareLeast", unfollowed := true, recurses := true, apart := false }
def ShareLeastSaid : Prop := shareLeastRow.holds Try.pinned (OpenSpec.ofChange shareLeastSpec)

/-- ITS FALSE NEIGHBOUR: 'it returns false'. Refute it at one input. -/
def shareLeastWrong : ChangeSpec := { name := "shareLeast", fn := fun _ => fun
  | [d1, d2, d3] => { results := [.lit (.bool false)], args := [d1, d2, d3] }
  | _ => none }
def ShareLeastWrongFalsely : Prop := shareLeastRow.holds Try.pinned (OpenSpec.ofChange shareLeastWrong)

/-- 'sinewlaw13.ShareRoutes': WHATEVER THE INPUT: true; the input reads as it did. -/
def shareRoutesSpec : ChangeSpec := { name := "shareRoutes", fn := fun _ => fun
  | [d1, d2, d3] => { results := [.lit (.bool true)], args := [d1, d2, d3] }
  | _ => none }
def shareRoutesRow : OpenClaim := { program := "ytiegejeleanfbaa", sum := "0f0bbec4de41e0fa619b9a0ffc7f263ad5c30c2599c257a4728fb65c952ba0e6", func := "sinew/sinewlaw13.ShareRoutes", spec := "shareRoutes", unfollowed := true, recurses := true, apart := false }
def ShareRoutesSaid : Prop := shareRoutesRow.holds Try.pinned (OpenSpec.ofChange shareRoutesSpec)

/-- ITS FALSE NEIGHBOUR: 'it returns false'. Refute it at one input. -/
def shareRoutesWrong : ChangeSpec := { name := "shareRoutes", fn := fun _ => fun
  | [d1, d2, d3] => { results := [.lit (.bool false)], args := [d1, d2, d3] }
  | _ => none }
def ShareRoutesWrongFalsely : Prop := shareRoutesRow.holds Try.pinned (OpenSpec.ofChange shareRoutesWrong)

/-- 'sinewlaw13.ShareMeets': WHATEVER THE INPUT: true; the input reads as it did. -/
def shareMeetsSpec : ChangeSpec := { name := "shareMeets", fn := fun _ => fun
  | [d1, d2, d3] => { results := [.lit (.bool true)], args := [d1, d2, d3] }
  | _ => none }
def shareMeetsRow : OpenClaim := { program := "ytiegejeleanfbaa", sum := "0f0bbec4de41e0fa619b9a0ffc7f263ad5c30c2599c257a4728fb65c952ba0e6", func := "sinew/sinewlaw13.ShareMeets", spec := "shareMeets", unfollowed := true, recurses := true, apart := false }
def ShareMeetsSaid : Prop := shareMeetsRow.holds Try.pinned (OpenSpec.ofChange shareMeetsSpec)

/-- ITS FALSE NEIGHBOUR: 'it returns false'. Refute it at one input. -/
def shareMeetsWrong : ChangeSpec := { name := "shareMeets", fn := fun _ => fun
  | [d1, d2, d3] => { results := [.lit (.bool false)], args := [d1, d2, d3] }
  | _ => none }
def ShareMeetsWrongFalsely : Prop := shareMeetsRow.holds Try.pinned (OpenSpec.ofChange shareMeetsWrong)

/-- 'sinewlaw13.SharePart': WHATEVER THE INPUT: true; the input reads as it did. -/
def sharePartSpec : ChangeSpec := { name := "sharePart", fn := fun _ => fun
  | [d1, d2] => { results := [.lit (.bool true)], args := [d1, d2] }
  | _ => none }
def sharePartRow : OpenClaim := { program := "ytiegejeleanfbaa", sum := "0f0bbec4de41e0fa619b9a0ffc7f263ad5c30c2599c257a4728fb65c952ba0e6", func := "sinew/sinewlaw13.SharePart", spec := "sharePart", unfollowed := true, recurses := true, apart := false }
def SharePartSaid : Prop := sharePartRow.holds Try.pinned (OpenSpec.ofChange sharePartSpec)

/-- ITS FALSE NEIGHBOUR: 'it returns false'. Refute it at one input. -/
def sharePartWrong : ChangeSpec := { name := "sharePart", fn := fun _ => fun
  | [d1, d2] => { results := [.lit (.bool false)], args := [d1, d2] }
  | _ => none }
def SharePartWrongFalsely : Prop := sharePartRow.holds Try.pinned (OpenSpec.ofChange sharePartWrong)

/-- 'sinewlaw13.ShareCell': WHATEVER THE INPUT: true; the input reads as it did. -/
def shareCellSpec : ChangeSpec := { name := "shareCell", fn := fun _ => fun
  | [d1, d2] => { results := [.lit (.bool true)], args := [d1, d2] }
  | _ => none }
def shareCellRow : OpenClaim := { program := "ytiegejeleanfbaa", sum := "0f0bbec4de41e0fa619b9a0ffc7f263ad5c30c2599c257a4728fb65c952ba0e6", func := "sinew/sinewlaw13.ShareCell", spec := "shareCell", unfollowed := true, recurses := true, apart := false }
def ShareCellSaid : Prop := shareCellRow.holds Try.pinned (OpenSpec.ofChange shareCellSpec)

/-- ITS FALSE NEIGHBOUR: 'it returns false'. Refute it at one input. -/
def shareCellWrong : ChangeSpec := { name := "shareCell", fn := fun _ => fun
  | [d1, d2] => { results := [.lit (.bool false)], args := [d1, d2] }
  | _ => none }
def ShareCellWrongFalsely : Prop := shareCellRow.holds Try.pinned (OpenSpec.ofChange shareCellWrong)

/-- 'sinewlaw13.ShareMore': WHATEVER THE INPUT: true; the input reads as it did. -/
def shareMoreSpec : ChangeSpec := { name := "shareMore", fn := fun _ => fun
  | [d1, d2, d3] => { results := [.lit (.bool true)], args := [d1, d2, d3] }
  | _ => none }
def shareMoreRow : OpenClaim := { program := "ytiegejeleanfbaa", sum := "0f0bbec4de41e0fa619b9a0ffc7f263ad5c30c2599c257a4728fb65c952ba0e6", func := "sinew/sinewlaw13.ShareMore", spec := "shareMore", unfollowed := true, recurses := true, apart := false }
def ShareMoreSaid : Prop := shareMoreRow.holds Try.pinned (OpenSpec.ofChange shareMoreSpec)

/-- ITS FALSE NEIGHBOUR: 'it returns false'. Refute it at one input. -/
def shareMoreWrong : ChangeSpec := { name := "shareMore", fn := fun _ => fun
  | [d1, d2, d3] => { results := [.lit (.bool false)], args := [d1, d2, d3] }
  | _ => none }
def ShareMoreWrongFalsely : Prop := shareMoreRow.holds Try.pinned (OpenSpec.ofChange shareMoreWrong)

/- THE SECOND FORM. 'bulk': how many values and letters a reading holds, each counted each time it is reached (what is shared counts as often as it is met; a slice's spare places count too). A statement '..UptoSaid' is the law's where the arguments, and the package variables that the reading takes, are together of bulk at most 1048576: NARROWER than '..Said'. Prove '..Said' where nothing that the law and all that it calls make is longer than what came in: it says more and counts as full. Else prove '..UptoSaid'. A law counts once. -/
mutual
def uptoBulk {H : Type} : DataW H → Nat
  | .lit (.string bytes) => bytes.length + 1
  | .lit _ => 1
  | .nil => 1
  | .ptr d => uptoBulk d + 1
  | .slice elems spare => uptoBulkAll elems + uptoBulkAll spare + 1
  | .agg parts => uptoBulkAll parts + 1
  | .iface _ d => uptoBulk d + 1
  | .map entries => uptoBulkEntries entries + 1
  | .held _ => 1
def uptoBulkAll {H : Type} : List (DataW H) → Nat
  | [] => 0
  | d :: r => uptoBulk d + uptoBulkAll r
def uptoBulkEntries {H : Type} : List (Lit × DataW H) → Nat
  | [] => 0
  | x :: r => uptoBulkEntry x + uptoBulkEntries r
def uptoBulkEntry {H : Type} : Lit × DataW H → Nat
  | (.string bytes, d) => bytes.length + uptoBulk d + 1
  | (_, d) => uptoBulk d + 1
 end
def uptoSmall : (H : Type) → List (DataW H) → Bool := fun _ ds => decide (uptoBulkAll ds ≤ 1048576)
def OpenSpec.upto (s : _root_.Go.ChangeSpec) : _root_.Go.OpenSpec := { _root_.Go.OpenSpec.ofChange s with cond := some uptoSmall }

/-- 'sinewlaw13.ShareShares', WHERE WHAT IT READS IS OF BULK AT MOST 1048576: true; the input reads as it did. -/
def shareSharesUptoRow : OpenClaim := { program := "ytiegejeleanfbaa", sum := "0f0bbec4de41e0fa619b9a0ffc7f263ad5c30c2599c257a4728fb65c952ba0e6", func := "sinew/sinewlaw13.ShareShares", spec := "shareShares", unfollowed := true, recurses := true, apart := false, narrowed := true }
def ShareSharesUptoSaid : Prop := shareSharesUptoRow.holds Try.pinned (OpenSpec.upto shareSharesSpec)

/-- 'sinewlaw13.ShareLeast', WHERE WHAT IT READS IS OF BULK AT MOST 1048576: true; the input reads as it did. -/
def shareLeastUptoRow : OpenClaim := { program := "ytiegejeleanfbaa", sum := "0f0bbec4de41e0fa619b9a0ffc7f263ad5c30c2599c257a4728fb65c952ba0e6", func := "sinew/sinewlaw13.ShareLeast", spec := "shareLeast", unfollowed := true, recurses := true, apart := false, narrowed := true }
def ShareLeastUptoSaid : Prop := shareLeastUptoRow.holds Try.pinned (OpenSpec.upto shareLeastSpec)

/-- 'sinewlaw13.ShareRoutes', WHERE WHAT IT READS IS OF BULK AT MOST 1048576: true; the input reads as it did. -/
def shareRoutesUptoRow : OpenClaim := { program := "ytiegejeleanfbaa", sum := "0f0bbec4de41e0fa619b9a0ffc7f263ad5c30c2599c257a4728fb65c952ba0e6", func := "sinew/sinewlaw13.ShareRoutes", spec := "shareRoutes", unfollowed := true, recurses := true, apart := false, narrowed := true }
def ShareRoutesUptoSaid : Prop := shareRoutesUptoRow.holds Try.pinned (OpenSpec.upto shareRoutesSpec)

/-- 'sinewlaw13.ShareMeets', WHERE WHAT IT READS IS OF BULK AT MOST 1048576: true; the input reads as it did. -/
def shareMeetsUptoRow : OpenClaim := { program := "ytiegejeleanfbaa", sum := "0f0bbec4de41e0fa619b9a0ffc7f263ad5c30c2599c257a4728fb65c952ba0e6", func := "sinew/sinewlaw13.ShareMeets", spec := "shareMeets", unfollowed := true, recurses := true, apart := false, narrowed := true }
def ShareMeetsUptoSaid : Prop := shareMeetsUptoRow.holds Try.pinned (OpenSpec.upto shareMeetsSpec)

/-- 'sinewlaw13.SharePart', WHERE WHAT IT READS IS OF BULK AT MOST 1048576: true; the input reads as it did. -/
def sharePartUptoRow : OpenClaim := { program := "ytiegejeleanfbaa", sum := "0f0bbec4de41e0fa619b9a0ffc7f263ad5c30c2599c257a4728fb65c952ba0e6", func := "sinew/sinewlaw13.SharePart", spec := "sharePart", unfollowed := true, recurses := true, apart := false, narrowed := true }
def SharePartUptoSaid : Prop := sharePartUptoRow.holds Try.pinned (OpenSpec.upto sharePartSpec)

/-- 'sinewlaw13.ShareCell', WHERE WHAT IT READS IS OF BULK AT MOST 1048576: true; the input reads as it did. -/
def shareCellUptoRow : OpenClaim := { program := "ytiegejeleanfbaa", sum := "0f0bbec4de41e0fa619b9a0ffc7f263ad5c30c2599c257a4728fb65c952ba0e6", func := "sinew/sinewlaw13.ShareCell", spec := "shareCell", unfollowed := true, recurses := true, apart := false, narrowed := true }
def ShareCellUptoSaid : Prop := shareCellUptoRow.holds Try.pinned (OpenSpec.upto shareCellSpec)

/-- 'sinewlaw13.ShareMore', WHERE WHAT IT READS IS OF BULK AT MOST 1048576: true; the input reads as it did. -/
def shareMoreUptoRow : OpenClaim := { program := "ytiegejeleanfbaa", sum := "0f0bbec4de41e0fa619b9a0ffc7f263ad5c30c2599c257a4728fb65c952ba0e6", func := "sinew/sinewlaw13.ShareMore", spec := "shareMore", unfollowed := true, recurses := true, apart := false, narrowed := true }
def ShareMoreUptoSaid : Prop := shareMoreUptoRow.holds Try.pinned (OpenSpec.upto shareMoreSpec)

end Rows
end Go.Proofs.Ytiegejeleanfbaa
