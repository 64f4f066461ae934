/- The plain law of FnExactFormatRecord: what its walk computes is true, for every record. -/
import Derived.Test.YtakgeblhdckccaaDoorGRJ
import Derived.Test.YtakgeblhdckccaaDoorG2J
import Derived.Test.YtakgeblhdckccaaDoorQj1
namespace Go.Proofs.YtakgeblhdckccaaDoor.Pure
open Go.RowKit Go.Proofs.YtakgeblhdckccaaDoorW.PrintWords Go.Proofs.YtakgeblhdckccaaDoorW.PrintLast Go.Proofs.YtakgeblhdckccaaDoorW.PrintMore Go.Proofs.YtakgeblhdckccaaDoor.Q Go.Proofs.YtakgeblhdckccaaDoor.P
theorem FnExactFormatRecord : laws_FnExactFormatRecord.Pure := by
  intro l m _ y1 hw _ y2 hv
  have wf : ∀ x : Int, (Lit.int .i64 x).wf = true → -9223372036854775808 ≤ x ∧ x ≤ 9223372036854775807 := by
    intro x this
    simp [Lit.wf] at this
    have h1 : IntKind.i64.min = -9223372036854775808 := rfl
    have h2 : IntKind.i64.max = 9223372036854775807 := rfl
    omega
  have hs : laws_szRecord.f l m 1000000 = some (-1) ∨ (laws_szRecord.f l m 1000000 = some (1000000 - (l.length : Int) - (m.length : Int)) ∧ (l.length : Int) + (m.length : Int) ≤ 1000000) := by
    unfold laws_szRecord.f
    rcases sz_ev (l := l) (a := 1000000) (by omega) (by omega) (by omega) with h | ⟨h, h2⟩
    · rw [h]; exact .inl rfl
    · rw [h, Option.bind_some, if_neg (by omega)]
      rcases sz_ev (l := m) (a := 1000000 - (l.length : Int)) (by omega) (by omega) (by omega) with h3 | ⟨h3, h4⟩
      · rw [h3]; exact .inl rfl
      · rw [h3]; exact .inr ⟨by rw [Option.bind_some, if_neg (by omega)], by omega⟩
  rcases hs with h | ⟨h, hle⟩
  · refine ⟨0, ?_⟩
    unfold laws_FnExactFormatRecord.f
    rw [h, Option.bind_some, if_pos (by decide)]
  · have hl : l.length ≤ 1000000 := by omega
    have hm : m.length ≤ 1000000 := by omega
    obtain ⟨r, ⟨K1, e1⟩, ⟨K2, e2⟩⟩ := formatRecord_both l m hl (fun x hx => wf x (hw x hx)) (fun x hx => wf x (hv x hx))
    obtain ⟨K3, e3⟩ := toIntS_ev false hl
    obtain ⟨K4, e4⟩ := toIntS_ev true hl
    obtain ⟨K5, e5⟩ := intactIntS_ev hl
    obtain ⟨K6, e6⟩ := toIntS_ev false hm
    obtain ⟨K7, e7⟩ := toIntS_ev true hm
    obtain ⟨K8, e8⟩ := intactIntS_ev hm
    refine ⟨K1 + K2 + K3 + K4 + K5 + K6 + K7 + K8, ?_⟩
    generalize hk : K1 + K2 + K3 + K4 + K5 + K6 + K7 + K8 = k
    have e1 := e1 k (by omega)
    have e2 := e2 k (by omega)
    have e3 := e3 k (by omega)
    have e4 := e4 k (by omega)
    have e5 := e5 k (by omega)
    have e6 := e6 k (by omega)
    have e7 := e7 k (by omega)
    have e8 := e8 k (by omega)
    simp only at e1 e2 e3 e4 e5 e6 e7 e8
    unfold laws_FnExactFormatRecord.f
    rw [h, Option.bind_some, if_neg (by omega)]
    unfold laws_toRecord.f laws_intactRecord.f
    simp only [e1, e2, e3, e4, e5, e6, e7, e8, Option.bind_some, if_true]
end Go.Proofs.YtakgeblhdckccaaDoor.Pure
