/- The plain law of FnExactSavedBy: what its walk computes is true, for every graph and every row of saved vertices. -/
import Derived.Test.YtakgeblhdckccaaG4J
import Derived.Test.YtakgeblhdckccaaG6J
import Derived.Test.YtakgeblhdckccaaQj2
namespace Go.Proofs.Ytakgeblhdckccaa.Pure
open Go.RowKit Go.Proofs.YtakgeblhdckccaaW.PrintWords Go.Proofs.YtakgeblhdckccaaW.PrintLast Go.Proofs.YtakgeblhdckccaaW.PrintMore Go.Proofs.Ytakgeblhdckccaa.Q Go.Proofs.Ytakgeblhdckccaa.P
theorem saved_fire (s : Int) (l : List Int) (a : Int) (p : List Int) (hf : fireB s l a p = true) : ∃ (S : Nat) (m : Int), S < 256 ∧ Ev (fun k => impl_Graph_burned.f k s l a p) ((S : Int), m) ∧ Ev (fun k => spec_l12Burn.f k s l a p) ((S : Int), m) := by
  rcases fire_cases s l a p with h | ⟨n, R, v, hV, rfl, rfl, rfl, hv, hp8, hp, _⟩
  · rw [h] at hf; cases hf
  · obtain ⟨m, hm8, hm, hmin⟩ := burn_ends hV hv hp
    exact ⟨_, _, lt_256 hV.le (burn_st hV hv hp m).b, burned_impl hV hv hp hm8 hm hmin _, burned_spec hV hv hp8 hp hm8 hm hmin _⟩
theorem SavedBy_both (s : Int) (l : List Int) (a : Int) (p : List Int) : ∃ r, Ev (fun k => impl_SavedBy.f k s l a p) r ∧ Ev (fun k => spec_SavedBy.f k s l a p) r := by
  obtain ⟨K, h⟩ := fire_impl s l a p
  obtain ⟨K1, h1⟩ := fire_spec s l a p
  cases hf : fireB s l a p with
  | false =>
    rw [hf] at h h1
    refine ⟨-1, ⟨K, fun k hk => ?_⟩, ⟨K1, fun k hk => ?_⟩⟩
    · have e := h k hk
      simp only at e ⊢
      unfold impl_SavedBy.f
      rw [e, Option.bind_some, if_neg (by decide)]
    · have e := h1 k hk
      simp only at e ⊢
      unfold spec_SavedBy.f
      rw [e, Option.bind_some, if_neg (by decide)]
  | true =>
    rw [hf] at h h1
    obtain ⟨S, m, hS, ⟨K2, h2⟩, ⟨K3, h3⟩⟩ := saved_fire s l a p hf
    obtain ⟨K4, h4⟩ := count_spec_ev (S := S) (by omega)
    refine ⟨wrap64 (s - ((cnt S : Nat) : Int)), ⟨K + K2, fun k hk => ?_⟩, ⟨K1 + K3 + K4, fun k hk => ?_⟩⟩
    · have e := h k (by omega)
      have e2 := h2 k (by omega)
      simp only at e e2 ⊢
      unfold impl_SavedBy.f
      rw [e, Option.bind_some, if_pos rfl, e2, Option.bind_some, count_impl hS, Option.bind_some]
    · have e := h1 k (by omega)
      have e2 := h3 k (by omega)
      have e4 := h4 k (by omega)
      simp only at e e2 e4 ⊢
      have e5 : spec_BurnedAfter.f k s l a p = some (S : Int) := by
        unfold spec_BurnedAfter.f
        rw [e, Option.bind_some, if_pos rfl, e2, Option.bind_some]
      unfold spec_SavedBy.f
      rw [e, Option.bind_some, if_pos rfl, e5, Option.bind_some, e4, Option.bind_some]
theorem FnExactSavedBy : laws_FnExactSavedBy.Pure := by
  intro s l a p _ _ y1 _ _ _ y2 _
  have hw : wrap64 (1000000 - (p.length : Int)) = 1000000 - (p.length : Int) := P.wrap_small (by omega) (by omega)
  rcases szG_ev (s := s) (l := l) (a := 1000000 - (p.length : Int)) (by omega) (by omega) (by omega) with h | ⟨h, hle⟩
  · refine ⟨0, ?_⟩
    unfold laws_FnExactSavedBy.f
    rw [hw, h, Option.bind_some, if_pos (by decide)]
  · have hl : l.length ≤ 1000000 := by omega
    have hp : p.length ≤ 1000000 := by omega
    obtain ⟨K1, e1⟩ := toGraph_ev (s := s) false hl
    obtain ⟨K2, e2⟩ := toGraph_ev (s := s) true hl
    obtain ⟨K3, e3⟩ := toIntS_ev false hp
    obtain ⟨K4, e4⟩ := toIntS_ev true hp
    obtain ⟨r, ⟨K5, e5⟩, ⟨K6, e6⟩⟩ := SavedBy_both s l a p
    obtain ⟨K7, e7⟩ := intactGraph_ev (s := s) hl
    obtain ⟨K8, e8⟩ := intactIntS_ev hp
    refine ⟨K1 + K2 + K3 + K4 + K5 + K6 + K7 + K8, ?_⟩
    generalize hk : K1 + K2 + K3 + K4 + K5 + K6 + K7 + K8 = k
    have e1 := e1 k (by omega)
    have e2 := e2 k (by omega)
    have e3 := e3 k (by omega)
    have e4 := e4 k (by omega)
    have e5 := e5 k (by omega)
    have e6 := e6 k (by omega)
    have e7 := e7 k (by omega)
    have e8 := e8 k (by omega)
    simp only at e1 e2 e3 e4 e5 e6 e7 e8
    unfold laws_FnExactSavedBy.f
    rw [hw, h, Option.bind_some, if_neg (by omega)]
    simp only [e1, e2, e3, e4, e5, e6, e7, e8, Option.bind_some, if_true]
end Go.Proofs.Ytakgeblhdckccaa.Pure
