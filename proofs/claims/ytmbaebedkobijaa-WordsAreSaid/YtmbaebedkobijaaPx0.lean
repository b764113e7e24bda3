-- PRINTED by print.py (a twelfth state) out of the translation. Not trusted: Lean checks it.
import Derived.Test.YtmbaebedkobijaaProg
import Derived.Below
import Derived.Deep.Draws
import Derived.Deep.AppendLies
import Derived.Maps.AppendAt
import Derived.OwnWalk
import Derived.Laws.BytesArg
import Derived.Laws.MakeOwn
import Derived.Laws.OwnMore
import Derived.Deep.OwnRows
import Derived.Tactics
import Derived.Lib.ConvBytes
import Derived.Laws.Slices
import Derived.WalkKit
import Derived.KernelRfl
import Derived.RowKit3
import Derived.Deep.LoopGhost
import Derived.Deep.QuietTactic
import Derived.BigQuiet
import Derived.WideLaws
import Derived.Deep.DeepCutAuto
import Derived.Deep.CutBlock
import Derived.Deep.RegionHeld3
import Derived.Laws.Rows
import Derived.Lib.AppendStr
import Derived.ArgAppend
import Derived.Laws.IdiomCopy
import Derived.OrdersHeld
import Derived.Laws.BitsLemmas
import Derived.RowKit
import Derived.Test.YtmbaebedkobijaaHis
import Derived.Test.YtmbaebedkobijaaWWords
import Derived.Test.YtmbaebedkobijaaWLast
import Derived.Test.YtmbaebedkobijaaWTab
import Derived.Test.YtmbaebedkobijaaWFour
import Derived.Test.YtmbaebedkobijaaWQPut
import Derived.Test.YtmbaebedkobijaaWApart
import Derived.Test.YtmbaebedkobijaaWArr
import Derived.Test.YtmbaebedkobijaaWZeros
import Derived.Test.YtmbaebedkobijaaWFoot
import Derived.Test.YtmbaebedkobijaaWKept
import Derived.Test.YtmbaebedkobijaaWShare
import Derived.Test.YtmbaebedkobijaaWN
import Derived.Test.YtmbaebedkobijaaWFootNe
import Derived.Test.YtmbaebedkobijaaWAt
import Derived.Test.YtmbaebedkobijaaWEqStruct
import Derived.Test.YtmbaebedkobijaaWRepsOne
import Derived.Test.YtmbaebedkobijaaWInv
import Derived.Test.YtmbaebedkobijaaWInvWords
import Derived.Test.YtmbaebedkobijaaWGuard
import Derived.Test.YtmbaebedkobijaaWNEv
import Derived.Test.YtmbaebedkobijaaWMore
namespace Go.Proofs.Ytmbaebedkobijaa.Px
open Go.Proofs.Ytmbaebedkobijaa.Hand
open Go.RowKit Go.Proofs.YtmbaebedkobijaaW.PrintWords Go.Proofs.YtmbaebedkobijaaW.PrintLast Go.Proofs.YtmbaebedkobijaaW.PrintMore
attribute [local go_sem] max2_int min2_int max_two min_two max_three min_three max_four min_four   -- for this text's walks alone
set_option linter.unusedVariables false
set_option linter.unusedSimpArgs false



def errW : Option Int → Value
  | none => .nilIface
  | some c => .iface 0 (.int .i64 c)
theorem errW_none : errW none = .nilIface := rfl
theorem errW_some (c : Int) : errW (some c) = .iface 0 (.int .i64 c) := rfl

-- the values' own types

end Go.Proofs.Ytmbaebedkobijaa.Px
