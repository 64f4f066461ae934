/- Words for the walks: those of the printed ones that this claim uses. -/
import Derived.Test.YtakgeblhdckccaaWWordsJ
import Derived.Laws.StructEq
namespace Go.Proofs.YtakgeblhdckccaaW.PrintWords
open Go.RowKit
section
variable {P : Program} {d : Nat} {xs ys : Array Value} {f : Field} {fs : List Field} {a b : Value} {r s : Bool} {w : World}
end
end Go.Proofs.YtakgeblhdckccaaW.PrintWords
