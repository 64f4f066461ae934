/- Which numbers are sets. -/
import Derived.Test.YtlfjmklhifjalaaDoorG1J
import Derived.Test.YtlfjmklhifjalaaDoorQj0
namespace Go.Proofs.YtlfjmklhifjalaaDoor.P
open Go.RowKit Go.Proofs.YtlfjmklhifjalaaDoorW.PrintWords Go.Proofs.YtlfjmklhifjalaaDoorW.PrintLast Go.Proofs.YtlfjmklhifjalaaDoorW.PrintMore Go.Proofs.YtlfjmklhifjalaaDoor.Q
set_option linter.unusedVariables false
theorem impl_isSet_f {S : Nat} : impl_isSet.f (S : Int) = some (decide (S ≤ 255)) := by
  unfold impl_isSet.f
  rw [impl_in_f, Option.bind_some]
  congr 1
  rw [decide_eq_decide]
  omega

end Go.Proofs.YtlfjmklhifjalaaDoor.P
