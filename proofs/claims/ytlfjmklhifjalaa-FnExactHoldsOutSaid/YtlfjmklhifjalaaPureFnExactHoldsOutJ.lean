/- The plain law of FnExactHoldsOut: what its walk computes is true, for every graph and every row of attacks. -/
import Derived.Test.YtlfjmklhifjalaaG2J
import Derived.Test.YtlfjmklhifjalaaG42J
import Derived.Test.YtlfjmklhifjalaaQj2
namespace Go.Proofs.Ytlfjmklhifjalaa.Pure
open Go.RowKit Go.Proofs.YtlfjmklhifjalaaW.PrintWords Go.Proofs.YtlfjmklhifjalaaW.PrintLast Go.Proofs.YtlfjmklhifjalaaW.PrintMore Go.Proofs.Ytlfjmklhifjalaa.Q Go.Proofs.Ytlfjmklhifjalaa.P
theorem FnExactHoldsOut : laws_FnExactHoldsOut.Pure := by
  intro s l a p _ _ y1 _ _ _ y2 _
  have hw : wrap64 (1000000 - (p.length : Int)) = 1000000 - (p.length : Int) := P.wrap_small (by omega) (by omega)
  rcases szG_ev (s := s) (l := l) (a := 1000000 - (p.length : Int)) (by omega) (by omega) (by omega) with h | ⟨h, hle⟩
  · refine ⟨0, ?_⟩
    unfold laws_FnExactHoldsOut.f
    rw [hw, h, Option.bind_some, if_pos (by decide)]
  · have hl : l.length ≤ 1000000 := by omega
    have hp : p.length ≤ 1000000 := by omega
    obtain ⟨K1, e1⟩ := toGraph_ev (s := s) false hl
    obtain ⟨K2, e2⟩ := toGraph_ev (s := s) true hl
    obtain ⟨K3, e3⟩ := toIntS_ev false hp
    obtain ⟨K4, e4⟩ := toIntS_ev true hp
    obtain ⟨r, ⟨K5, e5⟩, ⟨K6, e6⟩⟩ := holdsOut_both s l a p (by omega)
    obtain ⟨K7, e7⟩ := intactGraph_ev (s := s) hl
    obtain ⟨K8, e8⟩ := intactIntS_ev hp
    refine ⟨K1 + K2 + K3 + K4 + K5 + K6 + K7 + K8, ?_⟩
    generalize hk : K1 + K2 + K3 + K4 + K5 + K6 + K7 + K8 = k
    have e1 := e1 k (by omega)
    have e2 := e2 k (by omega)
    have e3 := e3 k (by omega)
    have e4 := e4 k (by omega)
    have e5 := e5 k (by omega)
    have e6 := e6 k (by omega)
    have e7 := e7 k (by omega)
    have e8 := e8 k (by omega)
    simp only at e1 e2 e3 e4 e5 e6 e7 e8
    unfold laws_FnExactHoldsOut.f
    rw [hw, h, Option.bind_some, if_neg (by omega)]
    simp only [e1, e2, e3, e4, e5, e6, e7, e8, Option.bind_some, if_true]
end Go.Proofs.Ytlfjmklhifjalaa.Pure
