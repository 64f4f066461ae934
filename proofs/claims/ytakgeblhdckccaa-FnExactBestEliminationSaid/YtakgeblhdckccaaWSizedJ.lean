/- Words for the walks: those of the printed ones that this claim uses. -/
import Derived.SizedLaws
import Derived.ChangeSlices
namespace Go.Proofs.YtakgeblhdckccaaW.PrintWords
open Go.ChangeShapes Go.WideShapes
end Go.Proofs.YtakgeblhdckccaaW.PrintWords
