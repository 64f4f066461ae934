/- The plain law of FnExactDecompositionFor: what its walk computes is true, for every graph and every order. -/
import Derived.Test.YtakgeblhdckccaaG14J
import Derived.Test.YtakgeblhdckccaaG18J
import Derived.Test.YtakgeblhdckccaaQj4
namespace Go.Proofs.Ytakgeblhdckccaa.Pure
open Go.RowKit Go.Proofs.YtakgeblhdckccaaW.PrintWords Go.Proofs.YtakgeblhdckccaaW.PrintLast Go.Proofs.YtakgeblhdckccaaW.PrintMore Go.Proofs.Ytakgeblhdckccaa.Q Go.Proofs.Ytakgeblhdckccaa.P
theorem FnExactDecompositionFor : laws_FnExactDecompositionFor.Pure := by
  intro s l p _ _ y1 _ _ y2 _
  have hw : wrap64 (1000000 - (p.length : Int)) = 1000000 - (p.length : Int) := P.wrap_small (by omega) (by omega)
  rcases szG_ev (s := s) (l := l) (a := 1000000 - (p.length : Int)) (by omega) (by omega) (by omega) with h | ⟨h, hle⟩
  · refine ⟨0, ?_⟩
    unfold laws_FnExactDecompositionFor.f
    rw [hw, h, Option.bind_some, if_pos (by decide)]
  · have hl : l.length ≤ 1000000 := by omega
    have hp : p.length ≤ 1000000 := by omega
    obtain ⟨K1, e1⟩ := toGraph_ev (s := s) false hl
    obtain ⟨K2, e2⟩ := toGraph_ev (s := s) true hl
    obtain ⟨K3, e3⟩ := toIntS_ev false hp
    obtain ⟨K4, e4⟩ := toIntS_ev true hp
    obtain ⟨⟨r, q, b⟩, hr, hq, ⟨K5, e5⟩, ⟨K6, e6⟩⟩ := decomp_both s l p (by omega)
    simp only at hr hq
    obtain ⟨K7, e7⟩ := intactGraph_ev (s := s) hl
    obtain ⟨K8, e8⟩ := intactIntS_ev hp
    obtain ⟨K9, e9⟩ := eq_self_ev r (by omega)
    obtain ⟨K10, e10⟩ := markGraph_ev s l 101 (by omega) (by omega) (by omega)
    obtain ⟨K11, e11⟩ := mark_ev p (101 + (l.length : Int)) (by omega) (by omega) (by omega)
    obtain ⟨K12, e12⟩ := mark_ev r 101 (by omega) (by omega) (by omega)
    obtain ⟨K13, e13⟩ := held_ev r.length 101 (by omega) (by omega) (by omega)
    obtain ⟨K14, e14⟩ := eq_self_ev q (by omega)
    obtain ⟨K15, e15⟩ := mark_ev q (101 + (r.length : Int)) (by omega) (by omega) (by omega)
    obtain ⟨K16, e16⟩ := held_ev q.length (101 + (r.length : Int)) (by omega) (by omega) (by omega)
    refine ⟨K1 + K2 + K3 + K4 + K5 + K6 + K7 + K8 + K9 + K10 + K11 + K12 + K13 + K14 + K15 + K16, ?_⟩
    generalize hk : K1 + K2 + K3 + K4 + K5 + K6 + K7 + K8 + K9 + K10 + K11 + K12 + K13 + K14 + K15 + K16 = k
    have e1 := e1 k (by omega)
    have e2 := e2 k (by omega)
    have e3 := e3 k (by omega)
    have e4 := e4 k (by omega)
    have e5 := e5 k (by omega)
    have e6 := e6 k (by omega)
    have e7 := e7 k (by omega)
    have e8 := e8 k (by omega)
    have e9 := e9 k (by omega)
    have e10 := e10 k (by omega)
    have e11 := e11 k (by omega)
    have e12 := e12 k (by omega)
    have e13 := e13 k (by omega)
    have e14 := e14 k (by omega)
    have e15 := e15 k (by omega)
    have e16 := e16 k (by omega)
    simp only at e1 e2 e3 e4 e5 e6 e7 e8 e9 e10 e11 e12 e13 e14 e15 e16
    have n1 : ¬ (101 + (l.length : Int) + (p.length : Int) < 0) := by omega
    have n2 : ¬ (101 + (r.length : Int) < 0) := by omega
    have n4 : ¬ (101 + (r.length : Int) + (q.length : Int) < 0) := by omega
    have n3 : (b != b) = false := by cases b <;> rfl
    have d1 : laws_eqDecomposition.f k r q r q = some true := by
      unfold laws_eqDecomposition.f
      simp only [e9, e14, Option.bind_some, if_true]
    have d2 : laws_markDecomposition.f k r q 101 = some (101 + (r.length : Int) + (q.length : Int), marked 101 r.length, marked (101 + (r.length : Int)) q.length) := by
      unfold laws_markDecomposition.f
      simp only [e12, e15, Option.bind_some]
    have d3 : laws_heldDecomposition.f k (marked 101 r.length) (marked (101 + (r.length : Int)) q.length) 101 = some (101 + (r.length : Int) + (q.length : Int)) := by
      unfold laws_heldDecomposition.f
      simp only [e13, e16, n2, n4, Option.bind_some, if_false]
    unfold laws_FnExactDecompositionFor.f
    rw [hw, h, Option.bind_some, if_neg (by omega)]
    simp only [e1, e2, e3, e4, e5, e6, e7, e8, e10, e11, d1, d2, d3, n1, n3, n4, Bool.false_eq_true, Option.bind_some, if_true, if_false]
end Go.Proofs.Ytakgeblhdckccaa.Pure
