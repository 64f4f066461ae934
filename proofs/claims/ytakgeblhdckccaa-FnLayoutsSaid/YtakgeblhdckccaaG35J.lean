/- Layouts: their searchers, the best of them, and what the law asks of each place. -/
import Derived.Test.YtakgeblhdckccaaG34J
import Derived.Test.YtakgeblhdckccaaG11J
import Derived.Test.YtakgeblhdckccaaQj1
import Derived.Test.YtakgeblhdckccaaQj2
import Derived.Test.YtakgeblhdckccaaQj3
namespace Go.Proofs.Ytakgeblhdckccaa.P
open Go.RowKit Go.Proofs.YtakgeblhdckccaaW.PrintWords Go.Proofs.YtakgeblhdckccaaW.PrintLast Go.Proofs.YtakgeblhdckccaaW.PrintMore Go.Proofs.Ytakgeblhdckccaa.Q
set_option linter.unusedVariables false

section
variable {n : Nat} {R : Nat → Nat} {t : List Nat}
theorem layB_mk (hV : V n R) (hl : t.length = n) (ht : ∀ v ∈ t, v < n) (hf : fresh 0 t = true) : layB (n : Int) (rows n R) (ints t) = true := by
  have e : (ints t).map Int.toNat = t := by
    unfold ints
    rw [List.map_map]
    conv => rhs; rw [← List.map_id t]
    apply List.map_congr_left
    intro x _
    simp
  have h2 : (ints t).all (vx (n : Int)) = true := by
    rw [List.all_eq_true]
    intro x hx
    obtain ⟨v, hv, rfl⟩ := List.mem_map.1 hx
    have := ht v hv
    unfold vx
    exact decide_eq_true (by omega)
  unfold layB
  rw [gB_rows hV, ints_len, decide_eq_true (by omega), h2, e, hf]
  rfl
theorem layout_true (hV : V n R) (hl : t.length = n) (ht : ∀ v ∈ t, v < n) (hf : fresh 0 t = true) : Ev (fun k => impl_LayoutOk.f k (n : Int) (rows n R) (ints t)) true := by
  have hn := hV.le
  have h := layout_impl (n : Int) (rows n R) (ints t) (by rw [ints_len]; omega)
  rwa [layB_mk hV hl ht hf] at h
theorem searchersFor_ev (hV : V n R) (hl : t.length = n) (ht : ∀ v ∈ t, v < n) (hf : fresh 0 t = true) : Ev (fun k => impl_SearchersFor.f k (n : Int) (rows n R) (ints t)) ((mcost (sc R) 0 t 0 : Nat) : Int) := by
  obtain ⟨K, h⟩ := layout_true hV hl ht hf
  obtain ⟨K2, h2⟩ := greatest_ev (c := sc R) hV.le ht hl hf
  obtain ⟨K3, h3⟩ := searchers_ev hV (n : Int)
  refine ⟨K + K2 + K3, fun k hk => ?_⟩
  have e := h k (by omega)
  have e2 := h2 k (by omega) _ (h3 k (by omega))
  simp only at e ⊢
  unfold impl_SearchersFor.f
  rw [e, Option.bind_some, if_pos rfl, e2, Option.bind_some]
theorem bestLayout_ev (hV : V n R) : Ev (fun k => impl_BestLayout.f k (n : Int) (rows n R)) (ints (ordr n (sc R) 0), true) := by
  obtain ⟨K, h⟩ := impl_GraphOk_ev (n : Int) (rows n R)
  rw [gB_rows hV] at h
  obtain ⟨K2, h2⟩ := bestOrder_ev (l := rows n R) (sc_low hV) hV.pos hV.le
  obtain ⟨K3, h3⟩ := searchers_ev hV (n : Int)
  refine ⟨K + K2 + K3, fun k hk => ?_⟩
  have e := h k (by omega)
  have e2 := h2 k (by omega) _ (h3 k (by omega))
  simp only at e ⊢
  unfold impl_BestLayout.f
  rw [e, Option.bind_some, if_pos rfl, e2, Option.bind_some]
theorem fewest_ev (hV : V n R) : Ev (fun k => impl_FewestSearchers.f k (n : Int) (rows n R)) ((W n (sc R) 0 : Nat) : Int) := by
  obtain ⟨K, h⟩ := impl_GraphOk_ev (n : Int) (rows n R)
  rw [gB_rows hV] at h
  obtain ⟨K2, h2⟩ := bestOrder_ev (l := rows n R) (sc_low hV) hV.pos hV.le
  obtain ⟨K3, h3⟩ := searchers_ev hV (n : Int)
  refine ⟨K + K2 + K3, fun k hk => ?_⟩
  have e := h k (by omega)
  have e2 := h2 k (by omega) _ (h3 k (by omega))
  simp only at e ⊢
  unfold impl_FewestSearchers.f
  rw [e, Option.bind_some, if_pos rfl, e2, Option.bind_some]
theorem frontOf_ev (hV : V n R) {S : Nat} (hS : S < 2 ^ n) : Ev (fun k => impl_FrontOf.f k (n : Int) (rows n R) (S : Int)) ((front R S : Nat) : Int) := by
  have hn := hV.le
  have h256 := small_pow hn
  obtain ⟨K, h⟩ := impl_GraphOk_ev (n : Int) (rows n R)
  rw [gB_rows hV] at h
  obtain ⟨K2, h2⟩ := front_ev hV (n : Int) hS
  refine ⟨K + K2, fun k hk => ?_⟩
  have e := h k (by omega)
  have e2 := h2 k (by omega)
  simp only at e e2 ⊢
  unfold impl_FrontOf.f impl_SetOk.f
  rw [e, Option.bind_some, if_pos rfl, impl_all_f (by omega), Option.bind_some, impl_in_f, Option.bind_some, Option.bind_some, decide_eq_true (by omega), if_pos rfl, e2, Option.bind_some]
theorem W_pos (hV : V n R) : 1 ≤ W n (sc R) 0 ∧ W n (sc R) 0 ≤ n := by
  have hn := hV.le
  have h1 := hV.pos
  have h0 := Nat.two_pow_pos n
  obtain ⟨hl, ht, hf, hm⟩ := ordr_order (sc_low hV) hn
  constructor
  · rw [← hm]
    cases ho : ordr n (sc R) 0 with
    | nil => rw [ho] at hl; simp at hl; omega
    | cons v t => rw [mcost_cons]; unfold sc; omega
  · rw [← hm]
    exact mcost_le (fun S v hS hv hb => sc_le hV hS hv hb) _ 0 h0 ht hf
end
end Go.Proofs.Ytakgeblhdckccaa.P
