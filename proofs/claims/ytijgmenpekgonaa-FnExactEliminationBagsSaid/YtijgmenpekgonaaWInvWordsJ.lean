/- Words for the walks: those of the printed ones that this claim uses. -/
import Derived.Test.YtijgmenpekgonaaWInvJ
import Derived.Test.YtijgmenpekgonaaWFootNeJ
namespace Go.Proofs.YtijgmenpekgonaaW.PrintWords
open Go.RowKit
end Go.Proofs.YtijgmenpekgonaaW.PrintWords
namespace Go.Proofs.YtijgmenpekgonaaW.PrintLast
section
variable {ops : Array Oper} {a : Act} {o og : Oper} {g : Nat} {t : Tmp} {u : Bool}
end
end Go.Proofs.YtijgmenpekgonaaW.PrintLast
