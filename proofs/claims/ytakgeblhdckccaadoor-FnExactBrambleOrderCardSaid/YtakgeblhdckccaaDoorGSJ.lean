/- Which numbers are sets. -/
import Derived.Test.YtakgeblhdckccaaDoorG1J
import Derived.Test.YtakgeblhdckccaaDoorQj1
namespace Go.Proofs.YtakgeblhdckccaaDoor.P
open Go.RowKit Go.Proofs.YtakgeblhdckccaaDoorW.PrintWords Go.Proofs.YtakgeblhdckccaaDoorW.PrintLast Go.Proofs.YtakgeblhdckccaaDoorW.PrintMore Go.Proofs.YtakgeblhdckccaaDoor.Q
set_option linter.unusedVariables false
theorem impl_isSet_f {S : Nat} : impl_isSet.f (S : Int) = some (decide (S ≤ 255)) := by
  unfold impl_isSet.f
  rw [impl_in_f, Option.bind_some]
  congr 1
  rw [decide_eq_decide]
  omega

end Go.Proofs.YtakgeblhdckccaaDoor.P
