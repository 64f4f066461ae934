/- The plain law of FnExactRoundsOf: what its walk computes is true, for every graph and every row of saved vertices. -/
import Derived.Test.YtijgmenpekgonaaG4J
import Derived.Test.YtijgmenpekgonaaQj2
namespace Go.Proofs.Ytijgmenpekgonaa.Pure
open Go.RowKit Go.Proofs.YtijgmenpekgonaaW.PrintWords Go.Proofs.YtijgmenpekgonaaW.PrintLast Go.Proofs.YtijgmenpekgonaaW.PrintMore Go.Proofs.Ytijgmenpekgonaa.Q Go.Proofs.Ytijgmenpekgonaa.P
theorem RoundsOf_both (s : Int) (l : List Int) (a : Int) (p : List Int) : ∃ r, Ev (fun k => impl_RoundsOf.f k s l a p) r ∧ Ev (fun k => spec_RoundsOf.f k s l a p) r := by
  obtain ⟨K, h⟩ := fire_impl s l a p
  obtain ⟨K1, h1⟩ := fire_spec s l a p
  cases hf : fireB s l a p with
  | false =>
    rw [hf] at h h1
    refine ⟨-1, ⟨K, fun k hk => ?_⟩, ⟨K1, fun k hk => ?_⟩⟩
    · have e := h k hk
      simp only at e ⊢
      unfold impl_RoundsOf.f
      rw [e, Option.bind_some, if_neg (by decide)]
    · have e := h1 k hk
      simp only at e ⊢
      unfold spec_RoundsOf.f
      rw [e, Option.bind_some, if_neg (by decide)]
  | true =>
    rw [hf] at h h1
    obtain ⟨r, ⟨K2, h2⟩, ⟨K3, h3⟩⟩ := fire_both s l a p hf
    refine ⟨r.2, ⟨K + K2, fun k hk => ?_⟩, ⟨K1 + K3, fun k hk => ?_⟩⟩
    · have e := h k (by omega)
      have e2 := h2 k (by omega)
      simp only at e e2 ⊢
      unfold impl_RoundsOf.f
      rw [e, Option.bind_some, if_pos rfl, e2, Option.bind_some]
    · have e := h1 k (by omega)
      have e2 := h3 k (by omega)
      simp only at e e2 ⊢
      unfold spec_RoundsOf.f
      rw [e, Option.bind_some, if_pos rfl, e2, Option.bind_some]
theorem FnExactRoundsOf : laws_FnExactRoundsOf.Pure := by
  intro s l a p _ _ y1 _ _ _ y2 _
  have hw : wrap64 (1000000 - (p.length : Int)) = 1000000 - (p.length : Int) := P.wrap_small (by omega) (by omega)
  rcases szG_ev (s := s) (l := l) (a := 1000000 - (p.length : Int)) (by omega) (by omega) (by omega) with h | ⟨h, hle⟩
  · refine ⟨0, ?_⟩
    unfold laws_FnExactRoundsOf.f
    rw [hw, h, Option.bind_some, if_pos (by decide)]
  · have hl : l.length ≤ 1000000 := by omega
    have hp : p.length ≤ 1000000 := by omega
    obtain ⟨K1, e1⟩ := toGraph_ev (s := s) false hl
    obtain ⟨K2, e2⟩ := toGraph_ev (s := s) true hl
    obtain ⟨K3, e3⟩ := toIntS_ev false hp
    obtain ⟨K4, e4⟩ := toIntS_ev true hp
    obtain ⟨r, ⟨K5, e5⟩, ⟨K6, e6⟩⟩ := RoundsOf_both s l a p
    obtain ⟨K7, e7⟩ := intactGraph_ev (s := s) hl
    obtain ⟨K8, e8⟩ := intactIntS_ev hp
    refine ⟨K1 + K2 + K3 + K4 + K5 + K6 + K7 + K8, ?_⟩
    generalize hk : K1 + K2 + K3 + K4 + K5 + K6 + K7 + K8 = k
    have e1 := e1 k (by omega)
    have e2 := e2 k (by omega)
    have e3 := e3 k (by omega)
    have e4 := e4 k (by omega)
    have e5 := e5 k (by omega)
    have e6 := e6 k (by omega)
    have e7 := e7 k (by omega)
    have e8 := e8 k (by omega)
    simp only at e1 e2 e3 e4 e5 e6 e7 e8
    unfold laws_FnExactRoundsOf.f
    rw [hw, h, Option.bind_some, if_neg (by omega)]
    simp only [e1, e2, e3, e4, e5, e6, e7, e8, Option.bind_some, if_true]
end Go.Proofs.Ytijgmenpekgonaa.Pure
