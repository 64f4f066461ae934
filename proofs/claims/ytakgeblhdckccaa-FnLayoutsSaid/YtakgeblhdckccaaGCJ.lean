/- How many members a set has: the program and the reference answer alike. -/
import Derived.Test.YtakgeblhdckccaaGNJ
import Derived.Test.YtakgeblhdckccaaGSJ
import Derived.Test.YtakgeblhdckccaaQj0
import Derived.Test.YtakgeblhdckccaaQj5
namespace Go.Proofs.Ytakgeblhdckccaa.P
open Go.RowKit Go.Proofs.YtakgeblhdckccaaW.PrintWords Go.Proofs.YtakgeblhdckccaaW.PrintLast Go.Proofs.YtakgeblhdckccaaW.PrintMore Go.Proofs.Ytakgeblhdckccaa.Q
set_option linter.unusedVariables false

set_option maxRecDepth 100000 in
theorem ones_all : ∀ S, S < 256 → bits_OnesCount64.f ((S : Nat) : Int) = some ((cnt S : Nat) : Int) := by decide +kernel
theorem count_impl {S : Nat} (hS : S < 256) : impl_CountSet.f (S : Int) = some ((cnt S : Nat) : Int) := by
  unfold impl_CountSet.f
  rw [impl_isSet_f, Option.bind_some, decide_eq_true (by omega), if_pos rfl]
  have e : IntKind.u64.wrap (S : Int) = (S : Int) := by rw [IntKind.wrap_u64]; omega
  unfold bits_OnesCount.f
  rw [e, ones_all S hS]
  rfl
theorem count_spec_ev {S : Nat} (hS : S < 2 ^ 62) : Ev (fun k => spec_l02Count.f k (S : Int)) ((cnt S : Nat) : Int) := by
  obtain ⟨K, h⟩ := list_spec_ev hS
  refine ⟨K, fun k hk => ?_⟩
  have e := h k hk
  simp only at e ⊢
  unfold spec_l02Count.f
  rw [e, Option.bind_some, ints_len]
  rfl
end Go.Proofs.Ytakgeblhdckccaa.P
