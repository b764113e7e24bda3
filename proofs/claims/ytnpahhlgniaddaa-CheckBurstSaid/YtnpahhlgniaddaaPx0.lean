-- PRINTED by print.py (a twelfth state) out of the translation. Not trusted: Lean checks it.
import Derived.Test.YtnpahhlgniaddaaProg
import Derived.Below
import Derived.Deep.Draws
import Derived.Deep.AppendLies
import Derived.Maps.AppendAt
import Derived.OwnWalk
import Derived.Laws.BytesArg
import Derived.Laws.MakeOwn
import Derived.Laws.OwnMore
import Derived.Deep.OwnRows
import Derived.Tactics
import Derived.Lib.ConvBytes
import Derived.Laws.Slices
import Derived.WalkKit
import Derived.KernelRfl
import Derived.RowKit3
import Derived.Deep.LoopGhost
import Derived.Deep.QuietTactic
import Derived.BigQuiet
import Derived.WideLaws
import Derived.Deep.DeepCutAuto
import Derived.Deep.CutBlock
import Derived.Deep.RegionHeld3
import Derived.Laws.Rows
import Derived.Lib.AppendStr
import Derived.ArgAppend
import Derived.Laws.IdiomCopy
import Derived.OrdersHeld
import Derived.Laws.BitsLemmas
import Derived.RowKit
import Derived.Test.YtnpahhlgniaddaaHsum
import Derived.Test.YtnpahhlgniaddaaWWords
import Derived.Test.YtnpahhlgniaddaaWLast
import Derived.Test.YtnpahhlgniaddaaWTab
import Derived.Test.YtnpahhlgniaddaaWFour
import Derived.Test.YtnpahhlgniaddaaWQPut
import Derived.Test.YtnpahhlgniaddaaWApart
import Derived.Test.YtnpahhlgniaddaaWArr
import Derived.Test.YtnpahhlgniaddaaWZeros
import Derived.Test.YtnpahhlgniaddaaWFoot
import Derived.Test.YtnpahhlgniaddaaWKept
import Derived.Test.YtnpahhlgniaddaaWShare
import Derived.Test.YtnpahhlgniaddaaWN
import Derived.Test.YtnpahhlgniaddaaWFootNe
import Derived.Test.YtnpahhlgniaddaaWAt
import Derived.Test.YtnpahhlgniaddaaWEqStruct
import Derived.Test.YtnpahhlgniaddaaWRepsOne
import Derived.Test.YtnpahhlgniaddaaWInv
import Derived.Test.YtnpahhlgniaddaaWInvWords
import Derived.Test.YtnpahhlgniaddaaWGuard
import Derived.Test.YtnpahhlgniaddaaWNEv
import Derived.Test.YtnpahhlgniaddaaWMore
namespace Go.Proofs.Ytnpahhlgniaddaa.Px
open Go.Proofs.Ytnpahhlgniaddaa.Hand
open Go.RowKit Go.Proofs.YtnpahhlgniaddaaW.PrintWords Go.Proofs.YtnpahhlgniaddaaW.PrintLast Go.Proofs.YtnpahhlgniaddaaW.PrintMore
attribute [local go_sem] max2_int min2_int max_two min_two max_three min_three max_four min_four   -- for this text's walks alone
set_option linter.unusedVariables false
set_option linter.unusedSimpArgs false



def errW : Option Int → Value
  | none => .nilIface
  | some c => .iface 0 (.int .i64 c)
theorem errW_none : errW none = .nilIface := rfl
theorem errW_some (c : Int) : errW (some c) = .iface 0 (.int .i64 c) := rfl

theorem info5 : (Try.prog.info? 5).map (fun i => (i.zero, i.size, i.bytes)) = some (some (.int .u8 0), 1, 1) := by kernel_rfl
-- the values' own types

end Go.Proofs.Ytnpahhlgniaddaa.Px
