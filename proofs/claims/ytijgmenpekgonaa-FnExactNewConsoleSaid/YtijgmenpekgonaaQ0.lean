-- written by p2.py (ours) out of the translation
import Derived.Test.YtijgmenpekgonaaProg
import Derived.Test.YtijgmenpekgonaaFvWords
import Derived.Below
import Derived.Deep.Draws
import Derived.Deep.AppendLies
import Derived.Maps.AppendAt
import Derived.OwnWalk
import Derived.Laws.BytesArg
import Derived.Laws.MakeOwn
import Derived.Laws.OwnMore
import Derived.Deep.OwnRows
import Derived.Tactics
import Derived.Lib.ConvBytes
import Derived.Laws.Slices
import Derived.WalkKit
import Derived.KernelRfl
import Derived.RowKit3
import Derived.Deep.LoopGhost
import Derived.Deep.QuietTactic
import Derived.BigQuiet
import Derived.WideLaws
import Derived.Deep.DeepCutAuto
import Derived.Deep.CutBlock
import Derived.Deep.RegionHeld3
import Derived.Laws.Rows
import Derived.Lib.AppendStr
import Derived.ArgAppend
import Derived.Laws.IdiomCopy
import Derived.OrdersHeld
import Derived.Laws.BitsLemmas
import Derived.RowKit
import Derived.Test.YtijgmenpekgonaaWWords
import Derived.Test.YtijgmenpekgonaaWLast
import Derived.Test.YtijgmenpekgonaaWTab
import Derived.Test.YtijgmenpekgonaaWFour
import Derived.Test.YtijgmenpekgonaaWQPut
import Derived.Test.YtijgmenpekgonaaWApart
import Derived.Test.YtijgmenpekgonaaWArr
import Derived.Test.YtijgmenpekgonaaWZeros
import Derived.Test.YtijgmenpekgonaaWFoot
import Derived.Test.YtijgmenpekgonaaWKept
import Derived.Test.YtijgmenpekgonaaWShare
import Derived.Test.YtijgmenpekgonaaWN
import Derived.Test.YtijgmenpekgonaaWFootNe
import Derived.Test.YtijgmenpekgonaaWAt
import Derived.Test.YtijgmenpekgonaaWEqStruct
import Derived.Test.YtijgmenpekgonaaWRepsOne
import Derived.Test.YtijgmenpekgonaaWInv
import Derived.Test.YtijgmenpekgonaaWInvWords
import Derived.Test.YtijgmenpekgonaaWGuard
import Derived.Test.YtijgmenpekgonaaWNEv
import Derived.Test.YtijgmenpekgonaaWMore
namespace Go.Proofs.Ytijgmenpekgonaa.Q
open Go.RowKit Go.Proofs.YtijgmenpekgonaaW.PrintWords Go.Proofs.YtijgmenpekgonaaW.PrintLast Go.Proofs.YtijgmenpekgonaaW.PrintMore
attribute [local go_sem] max2_int min2_int max_two min_two max_three min_three max_four min_four   -- for this text's walks alone
set_option linter.unusedVariables false
set_option linter.unusedSimpArgs false



def errW : Option Int → Value
  | none => .nilIface
  | some c => .iface 0 (.int .i64 c)
theorem errW_none : errW none = .nilIface := rfl
theorem errW_some (c : Int) : errW (some c) = .iface 0 (.int .i64 c) := rfl

theorem info3 : (Try.prog.info? 3).map (fun i => (i.zero, i.size, i.bytes)) = some (some (.int .i64 0), 1, 8) := by kernel_rfl
-- the values' own types

end Go.Proofs.Ytijgmenpekgonaa.Q
