/- The plain law of FnExactIsDecomposition: what its walk computes is true, for every graph and every decomposition. -/
import Derived.Test.YtijgmenpekgonaaG9J
import Derived.Test.YtijgmenpekgonaaG2J
import Derived.Test.YtijgmenpekgonaaQj3
namespace Go.Proofs.Ytijgmenpekgonaa.Pure
open Go.RowKit Go.Proofs.YtijgmenpekgonaaW.PrintWords Go.Proofs.YtijgmenpekgonaaW.PrintLast Go.Proofs.YtijgmenpekgonaaW.PrintMore Go.Proofs.Ytijgmenpekgonaa.Q Go.Proofs.Ytijgmenpekgonaa.P
theorem szD_ev {bs ps : List Int} {a : Int} (h1 : bs.length ≤ 2 ^ 45) (h2 : ps.length ≤ 2 ^ 45) (h0 : -(2 ^ 62) ≤ a) (ha : a ≤ 1000000) :
    (laws_szDecomposition.f bs ps a = some (-1)) ∨ (laws_szDecomposition.f bs ps a = some (a - (bs.length : Int) - (ps.length : Int)) ∧ (bs.length : Int) + (ps.length : Int) ≤ a) := by
  unfold laws_szDecomposition.f
  rcases sz_ev h1 h0 ha with h | ⟨h, h3⟩
  · rw [h]; exact .inl rfl
  · rw [h, Option.bind_some, if_neg (by omega)]
    rcases sz_ev (l := ps) (a := a - (bs.length : Int)) h2 (by omega) (by omega) with h | ⟨h, h4⟩
    · rw [h]; exact .inl rfl
    · rw [h]; exact .inr ⟨by rw [Option.bind_some, if_neg (by omega)], by omega⟩
theorem toD_ev {bs ps : List Int} (b : Bool) (h1 : bs.length ≤ 1000000) (h2 : ps.length ≤ 1000000) : Ev (fun k => laws_toDecomposition.f k bs ps b) (bs, ps) := by
  obtain ⟨K1, e1⟩ := toIntS_ev b h1
  obtain ⟨K2, e2⟩ := toIntS_ev b h2
  refine ⟨K1 + K2, fun k hk => ?_⟩
  have e1 := e1 k (by omega)
  have e2 := e2 k (by omega)
  simp only at e1 e2 ⊢
  unfold laws_toDecomposition.f
  rw [e1, Option.bind_some, e2, Option.bind_some]
theorem intactD_ev {bs ps : List Int} (h1 : bs.length ≤ 1000000) (h2 : ps.length ≤ 1000000) : Ev (fun k => laws_intactDecomposition.f k bs ps bs ps) true := by
  obtain ⟨K1, e1⟩ := intactIntS_ev h1
  obtain ⟨K2, e2⟩ := intactIntS_ev h2
  refine ⟨K1 + K2, fun k hk => ?_⟩
  have e1 := e1 k (by omega)
  have e2 := e2 k (by omega)
  simp only at e1 e2 ⊢
  unfold laws_intactDecomposition.f
  rw [e1, Option.bind_some, if_pos rfl, e2, Option.bind_some, if_pos rfl]
theorem FnExactIsDecomposition : laws_FnExactIsDecomposition.Pure := by
  intro s l bs ps _ _ y1 _ _ y2 _ _ y3 _
  rcases szG_ev (s := s) (l := l) (a := 1000000) (by omega) (by omega) (by omega) with h | ⟨h, hle⟩
  · refine ⟨0, ?_⟩
    unfold laws_FnExactIsDecomposition.f
    rw [h, Option.bind_some, if_pos (by decide)]
  · rcases szD_ev (bs := bs) (ps := ps) (a := 1000000 - (l.length : Int)) (by omega) (by omega) (by omega) (by omega) with h' | ⟨h', hle'⟩
    · refine ⟨0, ?_⟩
      unfold laws_FnExactIsDecomposition.f
      rw [h, Option.bind_some, if_neg (by omega), h', Option.bind_some, if_pos (by decide)]
    · have hl : l.length ≤ 1000000 := by omega
      have hb : bs.length ≤ 1000000 := by omega
      have hp : ps.length ≤ 1000000 := by omega
      obtain ⟨K1, e1⟩ := toGraph_ev (s := s) false hl
      obtain ⟨K2, e2⟩ := toGraph_ev (s := s) true hl
      obtain ⟨K3, e3⟩ := toD_ev false hb hp
      obtain ⟨K4, e4⟩ := toD_ev true hb hp
      obtain ⟨r, ⟨K5, e5⟩, ⟨K6, e6⟩⟩ := isDec_both s l bs ps
      obtain ⟨K7, e7⟩ := intactGraph_ev (s := s) hl
      obtain ⟨K8, e8⟩ := intactD_ev hb hp
      refine ⟨K1 + K2 + K3 + K4 + K5 + K6 + K7 + K8, ?_⟩
      generalize hk : K1 + K2 + K3 + K4 + K5 + K6 + K7 + K8 = k
      have e1 := e1 k (by omega)
      have e2 := e2 k (by omega)
      have e3 := e3 k (by omega)
      have e4 := e4 k (by omega)
      have e5 := e5 k (by omega)
      have e6 := e6 k (by omega)
      have e7 := e7 k (by omega)
      have e8 := e8 k (by omega)
      simp only at e1 e2 e3 e4 e5 e6 e7 e8
      unfold laws_FnExactIsDecomposition.f
      rw [h, Option.bind_some, if_neg (by omega), h', Option.bind_some, if_neg (by omega)]
      simp only [e1, e2, e3, e4, e5, e6, e7, e8, Option.bind_some, bne_self_eq_false, if_true, Bool.false_eq_true, if_false]
end Go.Proofs.Ytijgmenpekgonaa.Pure
