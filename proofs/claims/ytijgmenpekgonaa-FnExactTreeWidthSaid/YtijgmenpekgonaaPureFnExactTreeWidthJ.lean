/- The plain law of FnExactTreeWidth: what its walk computes is true, for every graph. -/
import Derived.Test.YtijgmenpekgonaaG7J
import Derived.Test.YtijgmenpekgonaaG2J
import Derived.Test.YtijgmenpekgonaaQj3
namespace Go.Proofs.Ytijgmenpekgonaa.Pure
open Go.RowKit Go.Proofs.YtijgmenpekgonaaW.PrintWords Go.Proofs.YtijgmenpekgonaaW.PrintLast Go.Proofs.YtijgmenpekgonaaW.PrintMore Go.Proofs.Ytijgmenpekgonaa.Q Go.Proofs.Ytijgmenpekgonaa.P
theorem FnExactTreeWidth : laws_FnExactTreeWidth.Pure := by
  intro s l _ _ y1 _
  rcases szG_ev (s := s) (l := l) (a := 1000000) (by omega) (by omega) (by omega) with h | ⟨h, hle⟩
  · refine ⟨0, ?_⟩
    unfold laws_FnExactTreeWidth.f
    rw [h, Option.bind_some, if_pos (by decide)]
  · have hl : l.length ≤ 1000000 := by omega
    obtain ⟨K1, e1⟩ := toGraph_ev (s := s) false hl
    obtain ⟨K2, e2⟩ := toGraph_ev (s := s) true hl
    obtain ⟨r, ⟨K5, e5⟩, ⟨K6, e6⟩⟩ := width_both s l
    obtain ⟨K7, e7⟩ := intactGraph_ev (s := s) hl
    refine ⟨K1 + K2 + K5 + K6 + K7, ?_⟩
    generalize hk : K1 + K2 + K5 + K6 + K7 = k
    have e1 := e1 k (by omega)
    have e2 := e2 k (by omega)
    have e5 := e5 k (by omega)
    have e6 := e6 k (by omega)
    have e7 := e7 k (by omega)
    simp only at e1 e2 e5 e6 e7
    unfold laws_FnExactTreeWidth.f
    rw [h, Option.bind_some, if_neg (by omega)]
    simp only [e1, e2, e5, e6, e7, Option.bind_some, if_true]
end Go.Proofs.Ytijgmenpekgonaa.Pure
