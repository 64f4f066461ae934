/- Which numbers are sets. -/
import Derived.Test.YtakgeblhdckccaaG1J
import Derived.Test.YtakgeblhdckccaaQj0
namespace Go.Proofs.Ytakgeblhdckccaa.P
open Go.RowKit Go.Proofs.YtakgeblhdckccaaW.PrintWords Go.Proofs.YtakgeblhdckccaaW.PrintLast Go.Proofs.YtakgeblhdckccaaW.PrintMore Go.Proofs.Ytakgeblhdckccaa.Q
set_option linter.unusedVariables false
theorem impl_isSet_f {S : Nat} : impl_isSet.f (S : Int) = some (decide (S ≤ 255)) := by
  unfold impl_isSet.f
  rw [impl_in_f, Option.bind_some]
  congr 1
  rw [decide_eq_decide]
  omega

end Go.Proofs.Ytakgeblhdckccaa.P
