-- PRINTED by print.py (a twelfth state) out of the translation. Not trusted: Lean checks it.
import Derived.Test.YtjeoenpkhfmafaaProg
import Derived.Below
import Derived.Deep.Draws
import Derived.Deep.AppendLies
import Derived.Maps.AppendAt
import Derived.OwnWalk
import Derived.Laws.BytesArg
import Derived.Laws.MakeOwn
import Derived.Laws.OwnMore
import Derived.Deep.OwnRows
import Derived.Tactics
import Derived.Lib.ConvBytes
import Derived.Laws.Slices
import Derived.WalkKit
import Derived.KernelRfl
import Derived.RowKit3
import Derived.Deep.LoopGhost
import Derived.Deep.QuietTactic
import Derived.BigQuiet
import Derived.WideLaws
import Derived.Deep.DeepCutAuto
import Derived.Deep.CutBlock
import Derived.Deep.RegionHeld3
import Derived.Laws.Rows
import Derived.Lib.AppendStr
import Derived.ArgAppend
import Derived.Laws.IdiomCopy
import Derived.OrdersHeld
import Derived.Laws.BitsLemmas
import Derived.RowKit
import Derived.Test.YtjeoenpkhfmafaaWWords
import Derived.Test.YtjeoenpkhfmafaaWLast
import Derived.Test.YtjeoenpkhfmafaaWTab
import Derived.Test.YtjeoenpkhfmafaaWFour
import Derived.Test.YtjeoenpkhfmafaaWQPut
import Derived.Test.YtjeoenpkhfmafaaWApart
import Derived.Test.YtjeoenpkhfmafaaWArr
import Derived.Test.YtjeoenpkhfmafaaWZeros
import Derived.Test.YtjeoenpkhfmafaaWFoot
import Derived.Test.YtjeoenpkhfmafaaWKept
import Derived.Test.YtjeoenpkhfmafaaWShare
import Derived.Test.YtjeoenpkhfmafaaWN
import Derived.Test.YtjeoenpkhfmafaaWFootNe
import Derived.Test.YtjeoenpkhfmafaaWAt
import Derived.Test.YtjeoenpkhfmafaaWEqStruct
import Derived.Test.YtjeoenpkhfmafaaWRepsOne
import Derived.Test.YtjeoenpkhfmafaaWInv
import Derived.Test.YtjeoenpkhfmafaaWInvWords
import Derived.Test.YtjeoenpkhfmafaaWGuard
import Derived.Test.YtjeoenpkhfmafaaWNEv
import Derived.Test.YtjeoenpkhfmafaaWMore
namespace Go.Proofs.Ytjeoenpkhfmafaa.Pa
open Go.RowKit Go.Proofs.YtjeoenpkhfmafaaW.PrintWords Go.Proofs.YtjeoenpkhfmafaaW.PrintLast Go.Proofs.YtjeoenpkhfmafaaW.PrintMore
attribute [local go_sem] max2_int min2_int max_two min_two max_three min_three max_four min_four   -- for this text's walks alone
set_option linter.unusedVariables false
set_option linter.unusedSimpArgs false



def errW : Option Int → Value
  | none => .nilIface
  | some c => .iface 0 (.int .i64 c)
theorem errW_none : errW none = .nilIface := rfl
theorem errW_some (c : Int) : errW (some c) = .iface 0 (.int .i64 c) := rfl

theorem info5 : (Try.prog.info? 5).map (fun i => (i.zero, i.size, i.bytes)) = some (some (.int .u8 0), 1, 1) := by kernel_rfl
-- the values' own types

end Go.Proofs.Ytjeoenpkhfmafaa.Pa
