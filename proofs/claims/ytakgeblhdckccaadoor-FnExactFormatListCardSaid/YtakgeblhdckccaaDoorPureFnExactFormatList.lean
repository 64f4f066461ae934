/- The plain law of FnExactFormatList: what its walk computes is true, for every list. -/
import Derived.Test.YtakgeblhdckccaaDoorGF
import Derived.Test.YtakgeblhdckccaaDoorG2
import Derived.Test.YtakgeblhdckccaaDoorQLawsFnExactFormatList
namespace Go.Proofs.YtakgeblhdckccaaDoor.Pure
open Go.RowKit Go.Proofs.YtakgeblhdckccaaDoorW.PrintWords Go.Proofs.YtakgeblhdckccaaDoorW.PrintLast Go.Proofs.YtakgeblhdckccaaDoorW.PrintMore Go.Proofs.YtakgeblhdckccaaDoor.Q Go.Proofs.YtakgeblhdckccaaDoor.P
theorem FnExactFormatList : laws_FnExactFormatList.Pure := by
  intro l _ _ hw
  by_cases hlen : (l.length : Int) > 1000000
  · refine ⟨0, ?_⟩
    unfold laws_FnExactFormatList.f
    rw [if_pos hlen]
  · have hl : l.length ≤ 1000000 := by omega
    obtain ⟨r, ⟨K1, e1⟩, ⟨K2, e2⟩⟩ := formatList_both l hl (fun x hx => by
      have := hw x hx
      simp [Lit.wf] at this
      have h1 : IntKind.i64.min = -9223372036854775808 := rfl
      have h2 : IntKind.i64.max = 9223372036854775807 := rfl
      omega)
    obtain ⟨K3, e3⟩ := toIntS_ev false hl
    obtain ⟨K4, e4⟩ := toIntS_ev true hl
    obtain ⟨K5, e5⟩ := intactIntS_ev hl
    refine ⟨K1 + K2 + K3 + K4 + K5, ?_⟩
    generalize hk : K1 + K2 + K3 + K4 + K5 = k
    have e1 := e1 k (by omega)
    have e2 := e2 k (by omega)
    have e3 := e3 k (by omega)
    have e4 := e4 k (by omega)
    have e5 := e5 k (by omega)
    simp only at e1 e2 e3 e4 e5
    unfold laws_FnExactFormatList.f
    rw [if_neg hlen]
    simp only [e1, e2, e3, e4, e5, Option.bind_some, if_true]
end Go.Proofs.YtakgeblhdckccaaDoor.Pure
