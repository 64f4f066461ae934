/- Words for the walks: those of the printed ones that this claim uses. -/
import Derived.Test.YtakgeblhdckccaaWInvJ
import Derived.Test.YtakgeblhdckccaaWFootNeJ
namespace Go.Proofs.YtakgeblhdckccaaW.PrintWords
open Go.RowKit
end Go.Proofs.YtakgeblhdckccaaW.PrintWords
namespace Go.Proofs.YtakgeblhdckccaaW.PrintLast
section
variable {ops : Array Oper} {a : Act} {o og : Oper} {g : Nat} {t : Tmp} {u : Bool}
end
end Go.Proofs.YtakgeblhdckccaaW.PrintLast
