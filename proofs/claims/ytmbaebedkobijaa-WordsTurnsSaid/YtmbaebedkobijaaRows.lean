/-
  No cell of these rows narrows 'for every input' (looked for: loops, veiled, ifaces, maps, wideKeys, modest, calm, conditions, laid).
  DERIVED. THE GIVEN ROWS OF THIS SEAT. 6 by the template 'for every input the law returns true; each argument reads behind the call as it read before'; 0 by the template 'total and deterministic' (their statements: YtmbaebedkobijaaTotals.lean).
  GIVEN WITH THE SEED: the statements are not yours to turn. If you find one false, say at which input.
  Laid BY PROGRAM, IN A SANDBOX (cutbox-rows.mjs): the forced cells as the released guide's own fill.sh prints them over the translation 5e3cc078e6278b9a… (all of the seat's roots in one cut). By AI agents, Wed Nov 11 2026. No macro, syntax, notation, axiom, sorry.
-/
import Derived.Test.YtmbaebedkobijaaChecked
import GoSem.Claim
import GoSem.ClaimJoined
import GoSem.ClaimMapViews
import Derived.JoinedTies
import Derived.KernelRfl
namespace Go.Proofs.Ytmbaebedkobijaa
/- THE CELL 'sum', in the pinned program and in every row, IS THE sha256 OF THE DUMP (.gsa) THAT YtmbaebedkobijaaProg.lean LOADS. Nothing in Lean hashes anything: it is a label: what it is worth is what the hold of that sum in a sandbox is worth. -/
noncomputable def Try.pinned : Pinned := { name := "ytmbaebedkobijaa", sum := "5e3cc078e6278b9a2b0ea77c62d4c0186ad97beeae4d56fbd1b4e70bc491e614", checked := Try.checked }
namespace Rows
def none {H : Type} : Left H := { results := [], args := [] }

/-- 'sinewlaw05.WordsAre': WHATEVER THE INPUT: true; the input reads as it did. -/
def wordsAreSpec : ChangeSpec := { name := "wordsAre", fn := fun _ => fun
  | [d] => { results := [.lit (.bool true)], args := [d] }
  | _ => none }
def wordsAreRow : OpenClaim := { program := "ytmbaebedkobijaa", sum := "5e3cc078e6278b9a2b0ea77c62d4c0186ad97beeae4d56fbd1b4e70bc491e614", func := "sinew/sinewlaw05.WordsAre", spec := "wordsAre", unfollowed := true, recurses := true, apart := false }
def WordsAreSaid : Prop := wordsAreRow.holds Try.pinned (OpenSpec.ofChange wordsAreSpec)

/-- ITS FALSE NEIGHBOUR: 'it returns false'. Refute it at one input. -/
def wordsAreWrong : ChangeSpec := { name := "wordsAre", fn := fun _ => fun
  | [d] => { results := [.lit (.bool false)], args := [d] }
  | _ => none }
def WordsAreWrongFalsely : Prop := wordsAreRow.holds Try.pinned (OpenSpec.ofChange wordsAreWrong)

/-- 'sinewlaw05.WordsSort': WHATEVER THE INPUT: true; the input reads as it did. -/
def wordsSortSpec : ChangeSpec := { name := "wordsSort", fn := fun _ => fun
  | [d] => { results := [.lit (.bool true)], args := [d] }
  | _ => none }
def wordsSortRow : OpenClaim := { program := "ytmbaebedkobijaa", sum := "5e3cc078e6278b9a2b0ea77c62d4c0186ad97beeae4d56fbd1b4e70bc491e614", func := "sinew/sinewlaw05.WordsSort", spec := "wordsSort", unfollowed := true, recurses := true, apart := false }
def WordsSortSaid : Prop := wordsSortRow.holds Try.pinned (OpenSpec.ofChange wordsSortSpec)

/-- ITS FALSE NEIGHBOUR: 'it returns false'. Refute it at one input. -/
def wordsSortWrong : ChangeSpec := { name := "wordsSort", fn := fun _ => fun
  | [d] => { results := [.lit (.bool false)], args := [d] }
  | _ => none }
def WordsSortWrongFalsely : Prop := wordsSortRow.holds Try.pinned (OpenSpec.ofChange wordsSortWrong)

/-- 'sinewlaw05.WordsTurns': WHATEVER THE INPUT: true; the input reads as it did. -/
def wordsTurnsSpec : ChangeSpec := { name := "wordsTurns", fn := fun _ => fun
  | [d1, d2] => { results := [.lit (.bool true)], args := [d1, d2] }
  | _ => none }
def wordsTurnsRow : OpenClaim := { program := "ytmbaebedkobijaa", sum := "5e3cc078e6278b9a2b0ea77c62d4c0186ad97beeae4d56fbd1b4e70bc491e614", func := "sinew/sinewlaw05.WordsTurns", spec := "wordsTurns", unfollowed := true, recurses := true, apart := false }
def WordsTurnsSaid : Prop := wordsTurnsRow.holds Try.pinned (OpenSpec.ofChange wordsTurnsSpec)

/-- ITS FALSE NEIGHBOUR: 'it returns false'. Refute it at one input. -/
def wordsTurnsWrong : ChangeSpec := { name := "wordsTurns", fn := fun _ => fun
  | [d1, d2] => { results := [.lit (.bool false)], args := [d1, d2] }
  | _ => none }
def WordsTurnsWrongFalsely : Prop := wordsTurnsRow.holds Try.pinned (OpenSpec.ofChange wordsTurnsWrong)

/-- 'sinewlaw05.WordsPlays': WHATEVER THE INPUT: true; the input reads as it did. -/
def wordsPlaysSpec : ChangeSpec := { name := "wordsPlays", fn := fun _ => fun
  | [d1, d2] => { results := [.lit (.bool true)], args := [d1, d2] }
  | _ => none }
def wordsPlaysRow : OpenClaim := { program := "ytmbaebedkobijaa", sum := "5e3cc078e6278b9a2b0ea77c62d4c0186ad97beeae4d56fbd1b4e70bc491e614", func := "sinew/sinewlaw05.WordsPlays", spec := "wordsPlays", unfollowed := true, recurses := true, apart := false }
def WordsPlaysSaid : Prop := wordsPlaysRow.holds Try.pinned (OpenSpec.ofChange wordsPlaysSpec)

/-- ITS FALSE NEIGHBOUR: 'it returns false'. Refute it at one input. -/
def wordsPlaysWrong : ChangeSpec := { name := "wordsPlays", fn := fun _ => fun
  | [d1, d2] => { results := [.lit (.bool false)], args := [d1, d2] }
  | _ => none }
def WordsPlaysWrongFalsely : Prop := wordsPlaysRow.holds Try.pinned (OpenSpec.ofChange wordsPlaysWrong)

/-- 'sinewlaw05.WordsKeep': WHATEVER THE INPUT: true; the input reads as it did. -/
def wordsKeepSpec : ChangeSpec := { name := "wordsKeep", fn := fun _ => fun
  | [d] => { results := [.lit (.bool true)], args := [d] }
  | _ => none }
def wordsKeepRow : OpenClaim := { program := "ytmbaebedkobijaa", sum := "5e3cc078e6278b9a2b0ea77c62d4c0186ad97beeae4d56fbd1b4e70bc491e614", func := "sinew/sinewlaw05.WordsKeep", spec := "wordsKeep", unfollowed := true, recurses := true, apart := false }
def WordsKeepSaid : Prop := wordsKeepRow.holds Try.pinned (OpenSpec.ofChange wordsKeepSpec)

/-- ITS FALSE NEIGHBOUR: 'it returns false'. Refute it at one input. -/
def wordsKeepWrong : ChangeSpec := { name := "wordsKeep", fn := fun _ => fun
  | [d] => { results := [.lit (.bool false)], args := [d] }
  | _ => none }
def WordsKeepWrongFalsely : Prop := wordsKeepRow.holds Try.pinned (OpenSpec.ofChange wordsKeepWrong)

/-- 'sinewlaw05.WordsNobody': WHATEVER THE INPUT: true; the input reads as it did. -/
def wordsNobodySpec : ChangeSpec := { name := "wordsNobody", fn := fun _ => fun
  | [d1, d2] => { results := [.lit (.bool true)], args := [d1, d2] }
  | _ => none }
def wordsNobodyRow : OpenClaim := { program := "ytmbaebedkobijaa", sum := "5e3cc078e6278b9a2b0ea77c62d4c0186ad97beeae4d56fbd1b4e70bc491e614", func := "sinew/sinewlaw05.WordsNobody", spec := "wordsNobody", unfollowed := true, recurses := true, apart := false }
def WordsNobodySaid : Prop := wordsNobodyRow.holds Try.pinned (OpenSpec.ofChange wordsNobodySpec)

/-- ITS FALSE NEIGHBOUR: 'it returns false'. Refute it at one input. -/
def wordsNobodyWrong : ChangeSpec := { name := "wordsNobody", fn := fun _ => fun
  | [d1, d2] => { results := [.lit (.bool false)], args := [d1, d2] }
  | _ => none }
def WordsNobodyWrongFalsely : Prop := wordsNobodyRow.holds Try.pinned (OpenSpec.ofChange wordsNobodyWrong)

/- THE SECOND FORM. 'bulk': how many values and letters a reading holds, each counted each time it is reached (what is shared counts as often as it is met; a slice's spare places count too). A statement '..UptoSaid' is the law's where the arguments, and the package variables that the reading takes, are together of bulk at most 1048576: NARROWER than '..Said'. Prove '..Said' where nothing that the law and all that it calls make is longer than what came in: it says more and counts as full. Else prove '..UptoSaid'. A law counts once. -/
mutual
def uptoBulk {H : Type} : DataW H → Nat
  | .lit (.string bytes) => bytes.length + 1
  | .lit _ => 1
  | .nil => 1
  | .ptr d => uptoBulk d + 1
  | .slice elems spare => uptoBulkAll elems + uptoBulkAll spare + 1
  | .agg parts => uptoBulkAll parts + 1
  | .iface _ d => uptoBulk d + 1
  | .map entries => uptoBulkEntries entries + 1
  | .held _ => 1
def uptoBulkAll {H : Type} : List (DataW H) → Nat
  | [] => 0
  | d :: r => uptoBulk d + uptoBulkAll r
def uptoBulkEntries {H : Type} : List (Lit × DataW H) → Nat
  | [] => 0
  | x :: r => uptoBulkEntry x + uptoBulkEntries r
def uptoBulkEntry {H : Type} : Lit × DataW H → Nat
  | (.string bytes, d) => bytes.length + uptoBulk d + 1
  | (_, d) => uptoBulk d + 1
 end
def uptoSmall : (H : Type) → List (DataW H) → Bool := fun _ ds => decide (uptoBulkAll ds ≤ 1048576)
def OpenSpec.upto (s : _root_.Go.ChangeSpec) : _root_.Go.OpenSpec := { _root_.Go.OpenSpec.ofChange s with cond := some uptoSmall }

/-- 'sinewlaw05.WordsAre', WHERE WHAT IT READS IS OF BULK AT MOST 1048576: true; the input reads as it did. -/
def wordsAreUptoRow : OpenClaim := { program := "ytmbaebedkobijaa", sum := "5e3cc078e6278b9a2b0ea77c62d4c0186ad97beeae4d56fbd1b4e70bc491e614", func := "sinew/sinewlaw05.WordsAre", spec := "wordsAre", unfollowed := true, recurses := true, apart := false, narrowed := true }
def WordsAreUptoSaid : Prop := wordsAreUptoRow.holds Try.pinned (OpenSpec.upto wordsAreSpec)

/-- 'sinewlaw05.WordsSort', WHERE WHAT IT READS IS OF BULK AT MOST 1048576: true; the input reads as it did. -/
def wordsSortUptoRow : OpenClaim := { program := "ytmbaebedkobijaa", sum := "5e3cc078e6278b9a2b0ea77c62d4c0186ad97beeae4d56fbd1b4e70bc491e614", func := "sinew/sinewlaw05.WordsSort", spec := "wordsSort", unfollowed := true, recurses := true, apart := false, narrowed := true }
def WordsSortUptoSaid : Prop := wordsSortUptoRow.holds Try.pinned (OpenSpec.upto wordsSortSpec)

/-- 'sinewlaw05.WordsTurns', WHERE WHAT IT READS IS OF BULK AT MOST 1048576: true; the input reads as it did. -/
def wordsTurnsUptoRow : OpenClaim := { program := "ytmbaebedkobijaa", sum := "5e3cc078e6278b9a2b0ea77c62d4c0186ad97beeae4d56fbd1b4e70bc491e614", func := "sinew/sinewlaw05.WordsTurns", spec := "wordsTurns", unfollowed := true, recurses := true, apart := false, narrowed := true }
def WordsTurnsUptoSaid : Prop := wordsTurnsUptoRow.holds Try.pinned (OpenSpec.upto wordsTurnsSpec)

/-- 'sinewlaw05.WordsPlays', WHERE WHAT IT READS IS OF BULK AT MOST 1048576: true; the input reads as it did. -/
def wordsPlaysUptoRow : OpenClaim := { program := "ytmbaebedkobijaa", sum := "5e3cc078e6278b9a2b0ea77c62d4c0186ad97beeae4d56fbd1b4e70bc491e614", func := "sinew/sinewlaw05.WordsPlays", spec := "wordsPlays", unfollowed := true, recurses := true, apart := false, narrowed := true }
def WordsPlaysUptoSaid : Prop := wordsPlaysUptoRow.holds Try.pinned (OpenSpec.upto wordsPlaysSpec)

/-- 'sinewlaw05.WordsKeep', WHERE WHAT IT READS IS OF BULK AT MOST 1048576: true; the input reads as it did. -/
def wordsKeepUptoRow : OpenClaim := { program := "ytmbaebedkobijaa", sum := "5e3cc078e6278b9a2b0ea77c62d4c0186ad97beeae4d56fbd1b4e70bc491e614", func := "sinew/sinewlaw05.WordsKeep", spec := "wordsKeep", unfollowed := true, recurses := true, apart := false, narrowed := true }
def WordsKeepUptoSaid : Prop := wordsKeepUptoRow.holds Try.pinned (OpenSpec.upto wordsKeepSpec)

/-- 'sinewlaw05.WordsNobody', WHERE WHAT IT READS IS OF BULK AT MOST 1048576: true; the input reads as it did. -/
def wordsNobodyUptoRow : OpenClaim := { program := "ytmbaebedkobijaa", sum := "5e3cc078e6278b9a2b0ea77c62d4c0186ad97beeae4d56fbd1b4e70bc491e614", func := "sinew/sinewlaw05.WordsNobody", spec := "wordsNobody", unfollowed := true, recurses := true, apart := false, narrowed := true }
def WordsNobodyUptoSaid : Prop := wordsNobodyUptoRow.holds Try.pinned (OpenSpec.upto wordsNobodySpec)

end Rows
end Go.Proofs.Ytmbaebedkobijaa
