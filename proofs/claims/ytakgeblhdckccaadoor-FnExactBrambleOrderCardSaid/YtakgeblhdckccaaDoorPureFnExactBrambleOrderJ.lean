/- The plain law of FnExactBrambleOrder: what its walk computes is true, for every graph and every list of sets. -/
import Derived.Test.YtakgeblhdckccaaDoorG21J
import Derived.Test.YtakgeblhdckccaaDoorG2J
import Derived.Test.YtakgeblhdckccaaDoorQj2
namespace Go.Proofs.YtakgeblhdckccaaDoor.Pure
open Go.RowKit Go.Proofs.YtakgeblhdckccaaDoorW.PrintWords Go.Proofs.YtakgeblhdckccaaDoorW.PrintLast Go.Proofs.YtakgeblhdckccaaDoorW.PrintMore Go.Proofs.YtakgeblhdckccaaDoor.Q Go.Proofs.YtakgeblhdckccaaDoor.P
theorem FnExactBrambleOrder : laws_FnExactBrambleOrder.Pure := by
  intro s l p _ _ y1 _ _ y2 _
  have hw : wrap64 (1000000 - (p.length : Int)) = 1000000 - (p.length : Int) := P.wrap_small (by omega) (by omega)
  rcases szG_ev (s := s) (l := l) (a := 1000000 - (p.length : Int)) (by omega) (by omega) (by omega) with h | ⟨h, hle⟩
  · refine ⟨0, ?_⟩
    unfold laws_FnExactBrambleOrder.f
    rw [hw, h, Option.bind_some, if_pos (by decide)]
  · have hl : l.length ≤ 1000000 := by omega
    have hp : p.length ≤ 1000000 := by omega
    obtain ⟨K1, e1⟩ := toGraph_ev (s := s) false hl
    obtain ⟨K2, e2⟩ := toGraph_ev (s := s) true hl
    obtain ⟨K3, e3⟩ := toIntS_ev false hp
    obtain ⟨K4, e4⟩ := toIntS_ev true hp
    obtain ⟨r, ⟨K5, e5⟩, ⟨K6, e6⟩⟩ := brambleOrder_both s l p
    obtain ⟨K7, e7⟩ := intactGraph_ev (s := s) hl
    obtain ⟨K8, e8⟩ := intactIntS_ev hp
    refine ⟨K1 + K2 + K3 + K4 + K5 + K6 + K7 + K8, ?_⟩
    generalize hk : K1 + K2 + K3 + K4 + K5 + K6 + K7 + K8 = k
    have e1 := e1 k (by omega)
    have e2 := e2 k (by omega)
    have e3 := e3 k (by omega)
    have e4 := e4 k (by omega)
    have e5 := e5 k (by omega)
    have e6 := e6 k (by omega)
    have e7 := e7 k (by omega)
    have e8 := e8 k (by omega)
    simp only at e1 e2 e3 e4 e5 e6 e7 e8
    unfold laws_FnExactBrambleOrder.f
    rw [hw, h, Option.bind_some, if_neg (by omega)]
    simp only [e1, e2, e3, e4, e5, e6, e7, e8, Option.bind_some, if_true]
end Go.Proofs.YtakgeblhdckccaaDoor.Pure
