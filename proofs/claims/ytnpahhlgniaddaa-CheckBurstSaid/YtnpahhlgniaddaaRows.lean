/-
  No cell of these rows narrows 'for every input' (looked for: loops, veiled, ifaces, maps, wideKeys, modest, calm, conditions, laid).
  DERIVED. THE GIVEN ROWS OF THIS SEAT. 5 by the template 'for every input the law returns true; each argument reads behind the call as it read before'; 0 by the template 'total and deterministic' (their statements: YtnpahhlgniaddaaTotals.lean).
  GIVEN WITH THE SEED: the statements are not yours to turn. If you find one false, say at which input.
  Laid BY PROGRAM, IN A SANDBOX (cutbox-rows.mjs): the forced cells as the released guide's own fill.sh prints them over the translation 28943231e823d1bc… (all of the seat's roots in one cut). By AI agents, Wed Nov 11 2026. No macro, syntax, notation, axiom, sorry.
-/
import Derived.Test.YtnpahhlgniaddaaChecked
import GoSem.Claim
import GoSem.ClaimJoined
import GoSem.ClaimMapViews
import Derived.JoinedTies
import Derived.KernelRfl
namespace Go.Proofs.Ytnpahhlgniaddaa
/- THE CELL 'sum', in the pinned program and in every row, IS THE sha256 OF THE DUMP (.gsa) THAT YtnpahhlgniaddaaProg.lean LOADS. Nothing in Lean hashes anything: it is a label: what it is worth is what the hold of that sum in a sandbox is worth. -/
noncomputable def Try.pinned : Pinned := { name := "ytnpahhlgniaddaa", sum := "28943231e823d1bc4839b72d5d8113c48d0d183e4c1096ed603ccc015e6377a9", checked := Try.checked }
namespace Rows
def none {H : Type} : Left H := { results := [], args := [] }

/-- 'sinewlaw02.CheckSums': WHATEVER THE INPUT: true; the input reads as it did. -/
def checkSumsSpec : ChangeSpec := { name := "checkSums", fn := fun _ => fun
  | [d] => { results := [.lit (.bool true)], args := [d] }
  | _ => none }
def checkSumsRow : OpenClaim := { program := "ytnpahhlgniaddaa", sum := "28943231e823d1bc4839b72d5d8113c48d0d183e4c1096ed603ccc015e6377a9", func := "sinew/sinewlaw02.CheckSums", spec := "checkSums", apart := false }
def CheckSumsSaid : Prop := checkSumsRow.holds Try.pinned (OpenSpec.ofChange checkSumsSpec)

/-- ITS FALSE NEIGHBOUR: 'it returns false'. Refute it at one input. -/
def checkSumsWrong : ChangeSpec := { name := "checkSums", fn := fun _ => fun
  | [d] => { results := [.lit (.bool false)], args := [d] }
  | _ => none }
def CheckSumsWrongFalsely : Prop := checkSumsRow.holds Try.pinned (OpenSpec.ofChange checkSumsWrong)

/-- 'sinewlaw02.CheckBurst': WHATEVER THE INPUT: true; the input reads as it did. -/
def checkBurstSpec : ChangeSpec := { name := "checkBurst", fn := fun _ => fun
  | [d1, d2, d3] => { results := [.lit (.bool true)], args := [d1, d2, d3] }
  | _ => none }
def checkBurstRow : OpenClaim := { program := "ytnpahhlgniaddaa", sum := "28943231e823d1bc4839b72d5d8113c48d0d183e4c1096ed603ccc015e6377a9", func := "sinew/sinewlaw02.CheckBurst", spec := "checkBurst", apart := false }
def CheckBurstSaid : Prop := checkBurstRow.holds Try.pinned (OpenSpec.ofChange checkBurstSpec)

/-- ITS FALSE NEIGHBOUR: 'it returns false'. Refute it at one input. -/
def checkBurstWrong : ChangeSpec := { name := "checkBurst", fn := fun _ => fun
  | [d1, d2, d3] => { results := [.lit (.bool false)], args := [d1, d2, d3] }
  | _ => none }
def CheckBurstWrongFalsely : Prop := checkBurstRow.holds Try.pinned (OpenSpec.ofChange checkBurstWrong)

/-- 'sinewlaw02.CheckAdds': WHATEVER THE INPUT: true; the input reads as it did. -/
def checkAddsSpec : ChangeSpec := { name := "checkAdds", fn := fun _ => fun
  | [d1, d2, d3] => { results := [.lit (.bool true)], args := [d1, d2, d3] }
  | _ => none }
def checkAddsRow : OpenClaim := { program := "ytnpahhlgniaddaa", sum := "28943231e823d1bc4839b72d5d8113c48d0d183e4c1096ed603ccc015e6377a9", func := "sinew/sinewlaw02.CheckAdds", spec := "checkAdds", apart := false }
def CheckAddsSaid : Prop := checkAddsRow.holds Try.pinned (OpenSpec.ofChange checkAddsSpec)

/-- ITS FALSE NEIGHBOUR: 'it returns false'. Refute it at one input. -/
def checkAddsWrong : ChangeSpec := { name := "checkAdds", fn := fun _ => fun
  | [d1, d2, d3] => { results := [.lit (.bool false)], args := [d1, d2, d3] }
  | _ => none }
def CheckAddsWrongFalsely : Prop := checkAddsRow.holds Try.pinned (OpenSpec.ofChange checkAddsWrong)

/-- 'sinewlaw02.CheckHomes': WHATEVER THE INPUT: true; the input reads as it did. -/
def checkHomesSpec : ChangeSpec := { name := "checkHomes", fn := fun _ => fun
  | [d1, d2] => { results := [.lit (.bool true)], args := [d1, d2] }
  | _ => none }
def checkHomesRow : OpenClaim := { program := "ytnpahhlgniaddaa", sum := "28943231e823d1bc4839b72d5d8113c48d0d183e4c1096ed603ccc015e6377a9", func := "sinew/sinewlaw02.CheckHomes", spec := "checkHomes", apart := false }
def CheckHomesSaid : Prop := checkHomesRow.holds Try.pinned (OpenSpec.ofChange checkHomesSpec)

/-- ITS FALSE NEIGHBOUR: 'it returns false'. Refute it at one input. -/
def checkHomesWrong : ChangeSpec := { name := "checkHomes", fn := fun _ => fun
  | [d1, d2] => { results := [.lit (.bool false)], args := [d1, d2] }
  | _ => none }
def CheckHomesWrongFalsely : Prop := checkHomesRow.holds Try.pinned (OpenSpec.ofChange checkHomesWrong)

/-- 'sinewlaw02.CheckHalves': WHATEVER THE INPUT: true; the input reads as it did. -/
def checkHalvesSpec : ChangeSpec := { name := "checkHalves", fn := fun _ => fun
  | [d1, d2] => { results := [.lit (.bool true)], args := [d1, d2] }
  | _ => none }
def checkHalvesRow : OpenClaim := { program := "ytnpahhlgniaddaa", sum := "28943231e823d1bc4839b72d5d8113c48d0d183e4c1096ed603ccc015e6377a9", func := "sinew/sinewlaw02.CheckHalves", spec := "checkHalves", apart := false }
def CheckHalvesSaid : Prop := checkHalvesRow.holds Try.pinned (OpenSpec.ofChange checkHalvesSpec)

/-- ITS FALSE NEIGHBOUR: 'it returns false'. Refute it at one input. -/
def checkHalvesWrong : ChangeSpec := { name := "checkHalves", fn := fun _ => fun
  | [d1, d2] => { results := [.lit (.bool false)], args := [d1, d2] }
  | _ => none }
def CheckHalvesWrongFalsely : Prop := checkHalvesRow.holds Try.pinned (OpenSpec.ofChange checkHalvesWrong)

/- THE SECOND FORM. 'bulk': how many values and letters a reading holds, each counted each time it is reached (what is shared counts as often as it is met; a slice's spare places count too). A statement '..UptoSaid' is the law's where the arguments, and the package variables that the reading takes, are together of bulk at most 1048576: NARROWER than '..Said'. Prove '..Said' where nothing that the law and all that it calls make is longer than what came in: it says more and counts as full. Else prove '..UptoSaid'. A law counts once. -/
mutual
def uptoBulk {H : Type} : DataW H → Nat
  | .lit (.string bytes) => bytes.length + 1
  | .lit _ => 1
  | .nil => 1
  | .ptr d => uptoBulk d + 1
  | .slice elems spare => uptoBulkAll elems + uptoBulkAll spare + 1
  | .agg parts => uptoBulkAll parts + 1
  | .iface _ d => uptoBulk d + 1
  | .map entries => uptoBulkEntries entries + 1
  | .held _ => 1
def uptoBulkAll {H : Type} : List (DataW H) → Nat
  | [] => 0
  | d :: r => uptoBulk d + uptoBulkAll r
def uptoBulkEntries {H : Type} : List (Lit × DataW H) → Nat
  | [] => 0
  | x :: r => uptoBulkEntry x + uptoBulkEntries r
def uptoBulkEntry {H : Type} : Lit × DataW H → Nat
  | (.string bytes, d) => bytes.length + uptoBulk d + 1
  | (_, d) => uptoBulk d + 1
 end
def uptoSmall : (H : Type) → List (DataW H) → Bool := fun _ ds => decide (uptoBulkAll ds ≤ 1048576)
def OpenSpec.upto (s : _root_.Go.ChangeSpec) : _root_.Go.OpenSpec := { _root_.Go.OpenSpec.ofChange s with cond := some uptoSmall }

/-- 'sinewlaw02.CheckSums', WHERE WHAT IT READS IS OF BULK AT MOST 1048576: true; the input reads as it did. -/
def checkSumsUptoRow : OpenClaim := { program := "ytnpahhlgniaddaa", sum := "28943231e823d1bc4839b72d5d8113c48d0d183e4c1096ed603ccc015e6377a9", func := "sinew/sinewlaw02.CheckSums", spec := "checkSums", apart := false, narrowed := true }
def CheckSumsUptoSaid : Prop := checkSumsUptoRow.holds Try.pinned (OpenSpec.upto checkSumsSpec)

/-- 'sinewlaw02.CheckBurst', WHERE WHAT IT READS IS OF BULK AT MOST 1048576: true; the input reads as it did. -/
def checkBurstUptoRow : OpenClaim := { program := "ytnpahhlgniaddaa", sum := "28943231e823d1bc4839b72d5d8113c48d0d183e4c1096ed603ccc015e6377a9", func := "sinew/sinewlaw02.CheckBurst", spec := "checkBurst", apart := false, narrowed := true }
def CheckBurstUptoSaid : Prop := checkBurstUptoRow.holds Try.pinned (OpenSpec.upto checkBurstSpec)

/-- 'sinewlaw02.CheckAdds', WHERE WHAT IT READS IS OF BULK AT MOST 1048576: true; the input reads as it did. -/
def checkAddsUptoRow : OpenClaim := { program := "ytnpahhlgniaddaa", sum := "28943231e823d1bc4839b72d5d8113c48d0d183e4c1096ed603ccc015e6377a9", func := "sinew/sinewlaw02.CheckAdds", spec := "checkAdds", apart := false, narrowed := true }
def CheckAddsUptoSaid : Prop := checkAddsUptoRow.holds Try.pinned (OpenSpec.upto checkAddsSpec)

/-- 'sinewlaw02.CheckHomes', WHERE WHAT IT READS IS OF BULK AT MOST 1048576: true; the input reads as it did. -/
def checkHomesUptoRow : OpenClaim := { program := "ytnpahhlgniaddaa", sum := "28943231e823d1bc4839b72d5d8113c48d0d183e4c1096ed603ccc015e6377a9", func := "sinew/sinewlaw02.CheckHomes", spec := "checkHomes", apart := false, narrowed := true }
def CheckHomesUptoSaid : Prop := checkHomesUptoRow.holds Try.pinned (OpenSpec.upto checkHomesSpec)

/-- 'sinewlaw02.CheckHalves', WHERE WHAT IT READS IS OF BULK AT MOST 1048576: true; the input reads as it did. -/
def checkHalvesUptoRow : OpenClaim := { program := "ytnpahhlgniaddaa", sum := "28943231e823d1bc4839b72d5d8113c48d0d183e4c1096ed603ccc015e6377a9", func := "sinew/sinewlaw02.CheckHalves", spec := "checkHalves", apart := false, narrowed := true }
def CheckHalvesUptoSaid : Prop := checkHalvesUptoRow.holds Try.pinned (OpenSpec.upto checkHalvesSpec)

end Rows
end Go.Proofs.Ytnpahhlgniaddaa
