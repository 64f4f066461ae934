/- The plain law of FnExactEliminationBags: what its walk computes is true, for every graph and every order. -/
import Derived.Test.YtijgmenpekgonaaG14J
import Derived.Test.YtijgmenpekgonaaG17J
import Derived.Test.YtijgmenpekgonaaQj3
namespace Go.Proofs.Ytijgmenpekgonaa.Pure
open Go.RowKit Go.Proofs.YtijgmenpekgonaaW.PrintWords Go.Proofs.YtijgmenpekgonaaW.PrintLast Go.Proofs.YtijgmenpekgonaaW.PrintMore Go.Proofs.Ytijgmenpekgonaa.Q Go.Proofs.Ytijgmenpekgonaa.P
theorem FnExactEliminationBags : laws_FnExactEliminationBags.Pure := by
  intro s l p _ _ y1 _ _ y2 _
  have hw : wrap64 (1000000 - (p.length : Int)) = 1000000 - (p.length : Int) := P.wrap_small (by omega) (by omega)
  rcases szG_ev (s := s) (l := l) (a := 1000000 - (p.length : Int)) (by omega) (by omega) (by omega) with h | ⟨h, hle⟩
  · refine ⟨0, ?_⟩
    unfold laws_FnExactEliminationBags.f
    rw [hw, h, Option.bind_some, if_pos (by decide)]
  · have hl : l.length ≤ 1000000 := by omega
    have hp : p.length ≤ 1000000 := by omega
    obtain ⟨K1, e1⟩ := toGraph_ev (s := s) false hl
    obtain ⟨K2, e2⟩ := toGraph_ev (s := s) true hl
    obtain ⟨K3, e3⟩ := toIntS_ev false hp
    obtain ⟨K4, e4⟩ := toIntS_ev true hp
    obtain ⟨r, hr, ⟨K5, e5⟩, ⟨K6, e6⟩⟩ := elim_both s l p (by omega)
    obtain ⟨K7, e7⟩ := intactGraph_ev (s := s) hl
    obtain ⟨K8, e8⟩ := intactIntS_ev hp
    obtain ⟨K9, e9⟩ := eq_self_ev r (by omega)
    obtain ⟨K10, e10⟩ := markGraph_ev s l 101 (by omega) (by omega) (by omega)
    obtain ⟨K11, e11⟩ := mark_ev p (101 + (l.length : Int)) (by omega) (by omega) (by omega)
    obtain ⟨K12, e12⟩ := mark_ev r 101 (by omega) (by omega) (by omega)
    obtain ⟨K13, e13⟩ := held_ev r.length 101 (by omega) (by omega) (by omega)
    refine ⟨K1 + K2 + K3 + K4 + K5 + K6 + K7 + K8 + K9 + K10 + K11 + K12 + K13, ?_⟩
    generalize hk : K1 + K2 + K3 + K4 + K5 + K6 + K7 + K8 + K9 + K10 + K11 + K12 + K13 = k
    have e1 := e1 k (by omega)
    have e2 := e2 k (by omega)
    have e3 := e3 k (by omega)
    have e4 := e4 k (by omega)
    have e5 := e5 k (by omega)
    have e6 := e6 k (by omega)
    have e7 := e7 k (by omega)
    have e8 := e8 k (by omega)
    have e9 := e9 k (by omega)
    have e10 := e10 k (by omega)
    have e11 := e11 k (by omega)
    have e12 := e12 k (by omega)
    have e13 := e13 k (by omega)
    simp only at e1 e2 e3 e4 e5 e6 e7 e8 e9 e10 e11 e12 e13
    have n1 : ¬ (101 + (l.length : Int) + (p.length : Int) < 0) := by omega
    have n2 : ¬ (101 + (r.length : Int) < 0) := by omega
    unfold laws_FnExactEliminationBags.f
    rw [hw, h, Option.bind_some, if_neg (by omega)]
    simp only [e1, e2, e3, e4, e5, e6, e7, e8, e9, e10, e11, e12, e13, n1, n2, Option.bind_some, if_true, if_false]
end Go.Proofs.Ytijgmenpekgonaa.Pure
