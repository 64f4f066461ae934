/- The call returns true: the law takes no input, so the kernel runs what it computes. -/
import Derived.Test.YtijgmenpekgonaaQLawsFnExactNewConsole
namespace Go.Proofs.Ytijgmenpekgonaa.Pure
open Go.RowKit Go.Proofs.Ytijgmenpekgonaa.Q
theorem FnExactNewConsole : laws_FnExactNewConsole.Pure := ⟨60, by decide +kernel⟩
end Go.Proofs.Ytijgmenpekgonaa.Pure
