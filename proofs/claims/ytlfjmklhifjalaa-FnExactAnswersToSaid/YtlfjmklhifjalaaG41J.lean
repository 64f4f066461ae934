/- The answers to an attack, and how long guards hold out: the program and the reference answer alike. -/
import Derived.Test.YtlfjmklhifjalaaG40J
import Derived.Test.YtlfjmklhifjalaaQj1
namespace Go.Proofs.Ytlfjmklhifjalaa.P
open Go.RowKit Go.Proofs.YtlfjmklhifjalaaW.PrintWords Go.Proofs.YtlfjmklhifjalaaW.PrintLast Go.Proofs.YtlfjmklhifjalaaW.PrintMore Go.Proofs.Ytlfjmklhifjalaa.Q
set_option linter.unusedVariables false

theorem answersTo_both (s : Int) (l : List Int) (a v : Int) : ∃ r : List Int, r.length ≤ 8 ∧ Ev (fun k => impl_AnswersTo.f k s l a v) r ∧ Ev (fun k => spec_AnswersTo.f k s l a v) r := by
  obtain ⟨K, h⟩ := setOk_ev s l a
  obtain ⟨K1, h1⟩ := setOk_spec_ev s l a
  cases hb : setB s l a with
  | false =>
    rw [hb] at h h1
    refine ⟨[], by simp, ⟨K, fun k hk => ?_⟩, ⟨K1, fun k hk => ?_⟩⟩
    · have e := h k hk
      simp only at e ⊢
      unfold impl_AnswersTo.f
      rw [e, Option.bind_some, if_neg (by decide)]
    · have e := h1 k hk
      simp only at e ⊢
      unfold spec_AnswersTo.f
      rw [e, Option.bind_some, if_neg (by decide)]
  | true =>
    obtain ⟨n, R, S, hV, rfl, rfl, rfl, hS⟩ := setB_cases hb
    rw [hb] at h h1
    have hn := hV.le
    have hpos := hV.pos
    have hiv : ∀ k, 2 ≤ k → impl_Graph_isVertex.f k (n : Int) (rows n R) [v] = some (vx (n : Int) v) := by
      intro k hk
      rw [isVertex_k (by omega) (by omega) _ _ (by simp) (by simp only [List.length_singleton]; omega)]
      simp
    cases hx : vx (n : Int) v with
    | false =>
      refine ⟨[], by simp, ⟨K + 2, fun k hk => ?_⟩, ⟨K1, fun k hk => ?_⟩⟩
      · have e := h k (by omega)
        simp only at e ⊢
        unfold impl_AnswersTo.f
        rw [e, Option.bind_some, if_pos rfl, hiv k (by omega), hx, Option.bind_some, if_neg (by decide)]
      · have e := h1 k hk
        simp only at e ⊢
        unfold spec_AnswersTo.f
        rw [e, Option.bind_some, if_pos rfl, vertex_spec, hx, Option.bind_some, if_neg (by decide)]
    | true =>
      obtain ⟨u, rfl⟩ : ∃ u : Nat, v = (u : Int) := ⟨v.toNat, by unfold vx at hx; have := of_decide_eq_true hx; omega⟩
      have hu : u < n := by unfold vx at hx; have := of_decide_eq_true hx; omega
      obtain ⟨K2, h2⟩ := answers_ev hV (n : Int) hS hu
      obtain ⟨K3, h3⟩ := answers_spec_ev hV hS hu
      refine ⟨ints (ansL n R S u), by rw [ints_len]; exact ansL_len hV, ⟨K + K2 + 2, fun k hk => ?_⟩, ⟨K1 + K3, fun k hk => ?_⟩⟩
      · have e := h k (by omega)
        have e2 := h2 k (by omega)
        simp only at e e2 ⊢
        unfold impl_AnswersTo.f
        rw [e, Option.bind_some, if_pos rfl, hiv k (by omega), hx, Option.bind_some, if_pos rfl, e2, Option.bind_some]
      · have e := h1 k (by omega)
        have e2 := h3 k (by omega)
        simp only at e e2 ⊢
        unfold spec_AnswersTo.f
        rw [e, Option.bind_some, if_pos rfl, vertex_spec, hx, Option.bind_some, if_pos rfl, e2, Option.bind_some]
end Go.Proofs.Ytlfjmklhifjalaa.P
