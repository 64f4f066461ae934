/- The plain law of FnExactFireDistances: what its walk computes is true, for every graph and every vertex. -/
import Derived.Test.YtijgmenpekgonaaG14J
import Derived.Test.YtijgmenpekgonaaGDJ
import Derived.Test.YtijgmenpekgonaaQj2
namespace Go.Proofs.Ytijgmenpekgonaa.Pure
open Go.RowKit Go.Proofs.YtijgmenpekgonaaW.PrintWords Go.Proofs.YtijgmenpekgonaaW.PrintLast Go.Proofs.YtijgmenpekgonaaW.PrintMore Go.Proofs.Ytijgmenpekgonaa.Q Go.Proofs.Ytijgmenpekgonaa.P
theorem FnExactFireDistances : laws_FnExactFireDistances.Pure := by
  intro s l a _ _ y1 _ _
  rcases szG_ev (s := s) (l := l) (a := 1000000) (by omega) (by omega) (by omega) with h | ⟨h, hle⟩
  · refine ⟨0, ?_⟩
    unfold laws_FnExactFireDistances.f
    rw [h, Option.bind_some, if_pos (by decide)]
  · have hl : l.length ≤ 1000000 := by omega
    obtain ⟨K1, e1⟩ := toGraph_ev (s := s) false hl
    obtain ⟨K2, e2⟩ := toGraph_ev (s := s) true hl
    obtain ⟨r, hr, ⟨K3, e3⟩, ⟨K4, e4⟩⟩ := fireDistances_both s l a
    obtain ⟨K5, e5⟩ := intactGraph_ev (s := s) hl
    obtain ⟨K6, e6⟩ := eq_self_ev r (by omega)
    obtain ⟨K7, e7⟩ := markGraph_ev s l 101 (by omega) (by omega) (by omega)
    obtain ⟨K8, e8⟩ := mark_ev r 101 (by omega) (by omega) (by omega)
    obtain ⟨K9, e9⟩ := held_ev r.length 101 (by omega) (by omega) (by omega)
    refine ⟨K1 + K2 + K3 + K4 + K5 + K6 + K7 + K8 + K9, ?_⟩
    generalize hk : K1 + K2 + K3 + K4 + K5 + K6 + K7 + K8 + K9 = k
    have e1 := e1 k (by omega)
    have e2 := e2 k (by omega)
    have e3 := e3 k (by omega)
    have e4 := e4 k (by omega)
    have e5 := e5 k (by omega)
    have e6 := e6 k (by omega)
    have e7 := e7 k (by omega)
    have e8 := e8 k (by omega)
    have e9 := e9 k (by omega)
    simp only at e1 e2 e3 e4 e5 e6 e7 e8 e9
    have n1 : ¬ (101 + (l.length : Int) < 0) := by omega
    have n2 : ¬ (101 + (r.length : Int) < 0) := by omega
    unfold laws_FnExactFireDistances.f
    rw [h, Option.bind_some, if_neg (by omega)]
    simp only [e1, e2, e3, e4, e5, e6, e7, e8, e9, n1, n2, Option.bind_some, if_true, if_false]
end Go.Proofs.Ytijgmenpekgonaa.Pure
