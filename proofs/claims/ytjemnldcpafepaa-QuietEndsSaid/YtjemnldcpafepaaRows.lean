/-
  No cell of these rows narrows 'for every input' (looked for: loops, veiled, ifaces, maps, wideKeys, modest, calm, conditions, laid).
  DERIVED. THE GIVEN ROWS OF THIS SEAT. 4 by the template 'for every input the law returns true; each argument reads behind the call as it read before'; 0 by the template 'total and deterministic' (their statements: YtjemnldcpafepaaTotals.lean).
  GIVEN WITH THE SEED: the statements are not yours to turn. If you find one false, say at which input.
  Laid BY PROGRAM, IN A SANDBOX (cutbox-rows.mjs): the forced cells as the released guide's own fill.sh prints them over the translation 9f43d6a66ef20a32… (all of the seat's roots in one cut). By AI agents, Wed Nov 11 2026. No macro, syntax, notation, axiom, sorry.
-/
import Derived.Test.YtjemnldcpafepaaChecked
import GoSem.Claim
import GoSem.ClaimJoined
import GoSem.ClaimMapViews
import Derived.JoinedTies
import Derived.KernelRfl
namespace Go.Proofs.Ytjemnldcpafepaa
/- THE CELL 'sum', in the pinned program and in every row, IS THE sha256 OF THE DUMP (.gsa) THAT YtjemnldcpafepaaProg.lean LOADS. Nothing in Lean hashes anything: it is a label: what it is worth is what the hold of that sum in a sandbox is worth. -/
noncomputable def Try.pinned : Pinned := { name := "ytjemnldcpafepaa", sum := "9f43d6a66ef20a322ba681fad4c3ea70a48f9a49e3600a2ef9a128998fd6eaab", checked := Try.checked }
namespace Rows
def none {H : Type} : Left H := { results := [], args := [] }

/-- 'sinewlaw14.QuietDone': WHATEVER THE INPUT: true; the input reads as it did. -/
def quietDoneSpec : ChangeSpec := { name := "quietDone", fn := fun _ => fun
  | [d1, d2] => { results := [.lit (.bool true)], args := [d1, d2] }
  | _ => none }
def quietDoneRow : OpenClaim := { program := "ytjemnldcpafepaa", sum := "9f43d6a66ef20a322ba681fad4c3ea70a48f9a49e3600a2ef9a128998fd6eaab", func := "sinew/sinewlaw14.QuietDone", spec := "quietDone", apart := false }
def QuietDoneSaid : Prop := quietDoneRow.holds Try.pinned (OpenSpec.ofChange quietDoneSpec)

/-- ITS FALSE NEIGHBOUR: 'it returns false'. Refute it at one input. -/
def quietDoneWrong : ChangeSpec := { name := "quietDone", fn := fun _ => fun
  | [d1, d2] => { results := [.lit (.bool false)], args := [d1, d2] }
  | _ => none }
def QuietDoneWrongFalsely : Prop := quietDoneRow.holds Try.pinned (OpenSpec.ofChange quietDoneWrong)

/-- 'sinewlaw14.QuietEnds': WHATEVER THE INPUT: true; the input reads as it did. -/
def quietEndsSpec : ChangeSpec := { name := "quietEnds", fn := fun _ => fun
  | [d1, d2, d3] => { results := [.lit (.bool true)], args := [d1, d2, d3] }
  | _ => none }
def quietEndsRow : OpenClaim := { program := "ytjemnldcpafepaa", sum := "9f43d6a66ef20a322ba681fad4c3ea70a48f9a49e3600a2ef9a128998fd6eaab", func := "sinew/sinewlaw14.QuietEnds", spec := "quietEnds", apart := false }
def QuietEndsSaid : Prop := quietEndsRow.holds Try.pinned (OpenSpec.ofChange quietEndsSpec)

/-- ITS FALSE NEIGHBOUR: 'it returns false'. Refute it at one input. -/
def quietEndsWrong : ChangeSpec := { name := "quietEnds", fn := fun _ => fun
  | [d1, d2, d3] => { results := [.lit (.bool false)], args := [d1, d2, d3] }
  | _ => none }
def QuietEndsWrongFalsely : Prop := quietEndsRow.holds Try.pinned (OpenSpec.ofChange quietEndsWrong)

/-- 'sinewlaw14.QuietNobody': WHATEVER THE INPUT: true; the input reads as it did. -/
def quietNobodySpec : ChangeSpec := { name := "quietNobody", fn := fun _ => fun
  | [d] => { results := [.lit (.bool true)], args := [d] }
  | _ => none }
def quietNobodyRow : OpenClaim := { program := "ytjemnldcpafepaa", sum := "9f43d6a66ef20a322ba681fad4c3ea70a48f9a49e3600a2ef9a128998fd6eaab", func := "sinew/sinewlaw14.QuietNobody", spec := "quietNobody", apart := false }
def QuietNobodySaid : Prop := quietNobodyRow.holds Try.pinned (OpenSpec.ofChange quietNobodySpec)

/-- ITS FALSE NEIGHBOUR: 'it returns false'. Refute it at one input. -/
def quietNobodyWrong : ChangeSpec := { name := "quietNobody", fn := fun _ => fun
  | [d] => { results := [.lit (.bool false)], args := [d] }
  | _ => none }
def QuietNobodyWrongFalsely : Prop := quietNobodyRow.holds Try.pinned (OpenSpec.ofChange quietNobodyWrong)

/-- 'sinewlaw14.QuietOwes': WHATEVER THE INPUT: true; the input reads as it did. -/
def quietOwesSpec : ChangeSpec := { name := "quietOwes", fn := fun _ => fun
  | [d1, d2] => { results := [.lit (.bool true)], args := [d1, d2] }
  | _ => none }
def quietOwesRow : OpenClaim := { program := "ytjemnldcpafepaa", sum := "9f43d6a66ef20a322ba681fad4c3ea70a48f9a49e3600a2ef9a128998fd6eaab", func := "sinew/sinewlaw14.QuietOwes", spec := "quietOwes", apart := false }
def QuietOwesSaid : Prop := quietOwesRow.holds Try.pinned (OpenSpec.ofChange quietOwesSpec)

/-- ITS FALSE NEIGHBOUR: 'it returns false'. Refute it at one input. -/
def quietOwesWrong : ChangeSpec := { name := "quietOwes", fn := fun _ => fun
  | [d1, d2] => { results := [.lit (.bool false)], args := [d1, d2] }
  | _ => none }
def QuietOwesWrongFalsely : Prop := quietOwesRow.holds Try.pinned (OpenSpec.ofChange quietOwesWrong)

/- THE SECOND FORM. 'bulk': how many values and letters a reading holds, each counted each time it is reached (what is shared counts as often as it is met; a slice's spare places count too). A statement '..UptoSaid' is the law's where the arguments, and the package variables that the reading takes, are together of bulk at most 1048576: NARROWER than '..Said'. Prove '..Said' where nothing that the law and all that it calls make is longer than what came in: it says more and counts as full. Else prove '..UptoSaid'. A law counts once. -/
mutual
def uptoBulk {H : Type} : DataW H → Nat
  | .lit (.string bytes) => bytes.length + 1
  | .lit _ => 1
  | .nil => 1
  | .ptr d => uptoBulk d + 1
  | .slice elems spare => uptoBulkAll elems + uptoBulkAll spare + 1
  | .agg parts => uptoBulkAll parts + 1
  | .iface _ d => uptoBulk d + 1
  | .map entries => uptoBulkEntries entries + 1
  | .held _ => 1
def uptoBulkAll {H : Type} : List (DataW H) → Nat
  | [] => 0
  | d :: r => uptoBulk d + uptoBulkAll r
def uptoBulkEntries {H : Type} : List (Lit × DataW H) → Nat
  | [] => 0
  | x :: r => uptoBulkEntry x + uptoBulkEntries r
def uptoBulkEntry {H : Type} : Lit × DataW H → Nat
  | (.string bytes, d) => bytes.length + uptoBulk d + 1
  | (_, d) => uptoBulk d + 1
 end
def uptoSmall : (H : Type) → List (DataW H) → Bool := fun _ ds => decide (uptoBulkAll ds ≤ 1048576)
def OpenSpec.upto (s : _root_.Go.ChangeSpec) : _root_.Go.OpenSpec := { _root_.Go.OpenSpec.ofChange s with cond := some uptoSmall }

/-- 'sinewlaw14.QuietDone', WHERE WHAT IT READS IS OF BULK AT MOST 1048576: true; the input reads as it did. -/
def quietDoneUptoRow : OpenClaim := { program := "ytjemnldcpafepaa", sum := "9f43d6a66ef20a322ba681fad4c3ea70a48f9a49e3600a2ef9a128998fd6eaab", func := "sinew/sinewlaw14.QuietDone", spec := "quietDone", apart := false, narrowed := true }
def QuietDoneUptoSaid : Prop := quietDoneUptoRow.holds Try.pinned (OpenSpec.upto quietDoneSpec)

/-- 'sinewlaw14.QuietEnds', WHERE WHAT IT READS IS OF BULK AT MOST 1048576: true; the input reads as it did. -/
def quietEndsUptoRow : OpenClaim := { program := "ytjemnldcpafepaa", sum := "9f43d6a66ef20a322ba681fad4c3ea70a48f9a49e3600a2ef9a128998fd6eaab", func := "sinew/sinewlaw14.QuietEnds", spec := "quietEnds", apart := false, narrowed := true }
def QuietEndsUptoSaid : Prop := quietEndsUptoRow.holds Try.pinned (OpenSpec.upto quietEndsSpec)

/-- 'sinewlaw14.QuietNobody', WHERE WHAT IT READS IS OF BULK AT MOST 1048576: true; the input reads as it did. -/
def quietNobodyUptoRow : OpenClaim := { program := "ytjemnldcpafepaa", sum := "9f43d6a66ef20a322ba681fad4c3ea70a48f9a49e3600a2ef9a128998fd6eaab", func := "sinew/sinewlaw14.QuietNobody", spec := "quietNobody", apart := false, narrowed := true }
def QuietNobodyUptoSaid : Prop := quietNobodyUptoRow.holds Try.pinned (OpenSpec.upto quietNobodySpec)

/-- 'sinewlaw14.QuietOwes', WHERE WHAT IT READS IS OF BULK AT MOST 1048576: true; the input reads as it did. -/
def quietOwesUptoRow : OpenClaim := { program := "ytjemnldcpafepaa", sum := "9f43d6a66ef20a322ba681fad4c3ea70a48f9a49e3600a2ef9a128998fd6eaab", func := "sinew/sinewlaw14.QuietOwes", spec := "quietOwes", apart := false, narrowed := true }
def QuietOwesUptoSaid : Prop := quietOwesUptoRow.holds Try.pinned (OpenSpec.upto quietOwesSpec)

end Rows
end Go.Proofs.Ytjemnldcpafepaa
