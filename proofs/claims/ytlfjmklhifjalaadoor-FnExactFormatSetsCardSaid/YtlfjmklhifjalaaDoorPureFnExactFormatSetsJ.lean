/- The plain law of FnExactFormatSets: what its walk computes is true, for every list. -/
import Derived.Test.YtlfjmklhifjalaaDoorGYJ
import Derived.Test.YtlfjmklhifjalaaDoorG2J
import Derived.Test.YtlfjmklhifjalaaDoorQj1
namespace Go.Proofs.YtlfjmklhifjalaaDoor.Pure
open Go.RowKit Go.Proofs.YtlfjmklhifjalaaDoorW.PrintWords Go.Proofs.YtlfjmklhifjalaaDoorW.PrintLast Go.Proofs.YtlfjmklhifjalaaDoorW.PrintMore Go.Proofs.YtlfjmklhifjalaaDoor.Q Go.Proofs.YtlfjmklhifjalaaDoor.P
theorem FnExactFormatSets : laws_FnExactFormatSets.Pure := by
  intro l _ _ hw
  by_cases hlen : (l.length : Int) > 1000000
  · refine ⟨0, ?_⟩
    unfold laws_FnExactFormatSets.f
    rw [if_pos hlen]
  · have hl : l.length ≤ 1000000 := by omega
    obtain ⟨r, ⟨K1, e1⟩, ⟨K2, e2⟩⟩ := formatSets_both l hl
    obtain ⟨K3, e3⟩ := toIntS_ev false hl
    obtain ⟨K4, e4⟩ := toIntS_ev true hl
    obtain ⟨K5, e5⟩ := intactIntS_ev hl
    refine ⟨K1 + K2 + K3 + K4 + K5, ?_⟩
    generalize hk : K1 + K2 + K3 + K4 + K5 = k
    have e1 := e1 k (by omega)
    have e2 := e2 k (by omega)
    have e3 := e3 k (by omega)
    have e4 := e4 k (by omega)
    have e5 := e5 k (by omega)
    simp only at e1 e2 e3 e4 e5
    unfold laws_FnExactFormatSets.f
    rw [if_neg hlen]
    simp only [e1, e2, e3, e4, e5, Option.bind_some, if_true]
end Go.Proofs.YtlfjmklhifjalaaDoor.Pure
