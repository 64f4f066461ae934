/- Words for the walks: those of the printed ones that this claim uses. -/
import Derived.Test.YtakgeblhdckccaaWNJ
namespace Go.Proofs.YtakgeblhdckccaaW.PrintWords
open Go.RowKit
namespace Kd
section
variable {α : Type} {d : Kd α} {W : World} {g n : Nat} {S ok : Nat → Prop} {A : Option Addr} {ad : Addr} {xs : List α}
end
end Kd
end Go.Proofs.YtakgeblhdckccaaW.PrintWords
