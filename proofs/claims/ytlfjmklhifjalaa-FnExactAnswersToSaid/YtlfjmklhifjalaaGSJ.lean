/- Which numbers are sets. -/
import Derived.Test.YtlfjmklhifjalaaG1J
import Derived.Test.YtlfjmklhifjalaaQj1
namespace Go.Proofs.Ytlfjmklhifjalaa.P
open Go.RowKit Go.Proofs.YtlfjmklhifjalaaW.PrintWords Go.Proofs.YtlfjmklhifjalaaW.PrintLast Go.Proofs.YtlfjmklhifjalaaW.PrintMore Go.Proofs.Ytlfjmklhifjalaa.Q
set_option linter.unusedVariables false
theorem impl_isSet_f {S : Nat} : impl_isSet.f (S : Int) = some (decide (S ≤ 255)) := by
  unfold impl_isSet.f
  rw [impl_in_f, Option.bind_some]
  congr 1
  rw [decide_eq_decide]
  omega

end Go.Proofs.Ytlfjmklhifjalaa.P
