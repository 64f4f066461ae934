/- Vertices of a graph: what the program asks. -/
import Derived.Test.YtakgeblhdckccaaDoorGXJ
import Derived.Test.YtakgeblhdckccaaDoorQj1
namespace Go.Proofs.YtakgeblhdckccaaDoor.P
open Go.RowKit Go.Proofs.YtakgeblhdckccaaDoorW.PrintWords Go.Proofs.YtakgeblhdckccaaDoorW.PrintLast Go.Proofs.YtakgeblhdckccaaDoorW.PrintMore Go.Proofs.YtakgeblhdckccaaDoor.Q
set_option linter.unusedVariables false

/-- Is v a vertex of a graph of s? -/
def vx (s v : Int) : Bool := decide (0 ≤ v ∧ v < s)
theorem isVertex_k {s : Int} (h1 : 1 ≤ s) (h8 : s ≤ 8) (l m : List Int) (hm : m.length ≤ 4000000) {k : Nat} (hk : m.length < k) : impl_Graph_isVertex.f k s l m = some (m.all (vx s)) := by
  unfold impl_Graph_isVertex.f
  rw [contains_k (q := fun v => !vx s v) hm ?_ hk, Option.bind_some]
  · congr 1
    rw [List.all_eq_not_any_not]
  · intro x _
    unfold impl_Graph_isVertex.p
    rw [impl_in_f, Option.bind_some, wrap_small (by omega) (by omega)]
    congr 2
    unfold vx
    rw [decide_eq_decide]
    omega
theorem hold_ev (s : Int) (l m : List Int) (hm : m.length ≤ 4000000) : Ev (fun k => impl_Graph_hold.f k s l m) (gB s l && m.all (vx s)) := by
  obtain ⟨K, h⟩ := impl_GraphOk_ev s l
  refine ⟨K + m.length + 1, fun k hk => ?_⟩
  have e := h k (by omega)
  simp only at e
  show impl_Graph_hold.f k s l m = _
  unfold impl_Graph_hold.f
  rw [e, Option.bind_some]
  rcases gB_cases s l with ⟨hb, _⟩ | ⟨n, R, hV, rfl, rfl, hb⟩
  · rw [hb]; rfl
  · have := hV.pos
    have := hV.le
    rw [hb, if_pos rfl, isVertex_k (by omega) (by omega) _ _ hm (by omega)]
    rfl
end Go.Proofs.YtakgeblhdckccaaDoor.P
