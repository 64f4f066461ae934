/- The bags of an order of elimination: the program and the reference answer alike. -/
import Derived.Test.YtijgmenpekgonaaG16J
namespace Go.Proofs.Ytijgmenpekgonaa.P
open Go.RowKit Go.Proofs.YtijgmenpekgonaaW.PrintWords Go.Proofs.YtijgmenpekgonaaW.PrintLast Go.Proofs.YtijgmenpekgonaaW.PrintMore Go.Proofs.Ytijgmenpekgonaa.Q
set_option linter.unusedVariables false

theorem eliminated_ev {n : Nat} {R : Nat → Nat} {t : List Nat} (hV : V n R) (ht : ∀ v ∈ t, v < n) (hl : t.length = n) (hf : fresh 0 t = true) : Ev (fun k => impl_Graph_eliminated.f k (n : Int) (rows n R) (ints t)) (ints (bagL n R 0 t)) := by
  have hn := hV.le
  refine Ev.late_eq 0 (fun k _ => ?_) (elim_loop hV ht hl hf)
  unfold impl_Graph_eliminated.f slices_Clone_int_int.f
  rw [if_pos (by rw [rows_len]; omega), Option.bind_some, impl_all_f (by omega), Option.bind_some, ints_len]
theorem elim_both (s : Int) (l o : List Int) (ho : o.length ≤ 4000000) : ∃ r : List Int, r.length ≤ 8 ∧ Ev (fun k => impl_EliminationBags.f k s l o) r ∧ Ev (fun k => spec_EliminationBags.f k s l o) r := by
  obtain ⟨K, h⟩ := layout_impl s l o ho
  cases hb : layB s l o with
  | false =>
    rw [hb] at h
    refine ⟨[], by simp, ⟨K, fun k hk => ?_⟩, bags_spec_none ho hb⟩
    have e := h k hk
    simp only at e ⊢
    unfold impl_EliminationBags.f
    rw [e, Option.bind_some, if_neg (by decide)]
  | true =>
    obtain ⟨n, R, t, hV, rfl, rfl, hg, rfl, hl, ht, hf⟩ := layB_cases hb
    rw [hb] at h
    obtain ⟨K2, h2⟩ := eliminated_ev hV ht hl hf
    have hn := hV.le
    refine ⟨ints (bagL n R 0 t), by rw [ints_len, bagL_len]; omega, ⟨K + K2, fun k hk => ?_⟩, bags_spec hV ht hl hf hb⟩
    have e := h k (by omega)
    have e2 := h2 k (by omega)
    simp only at e e2 ⊢
    unfold impl_EliminationBags.f
    rw [e, Option.bind_some, if_pos rfl, e2, Option.bind_some]
end Go.Proofs.Ytijgmenpekgonaa.P
