/- Whether an order is one of all vertices: the program and the reference answer alike. -/
import Derived.Test.YtakgeblhdckccaaG10J
import Derived.Test.YtakgeblhdckccaaQj0
import Derived.Test.YtakgeblhdckccaaQj5
namespace Go.Proofs.Ytakgeblhdckccaa.P
open Go.RowKit Go.Proofs.YtakgeblhdckccaaW.PrintWords Go.Proofs.YtakgeblhdckccaaW.PrintLast Go.Proofs.YtakgeblhdckccaaW.PrintMore Go.Proofs.Ytakgeblhdckccaa.Q
set_option linter.unusedVariables false

theorem setOf_ev {n : Nat} (hn : n ≤ 8) {t : List Nat} (ht : ∀ v ∈ t, v < n) (hl : t.length ≤ 4000000) : Ev (fun k => impl_setOf.f k (ints t)) ((orr 0 t : Nat) : Int) := by
  have hL : Ev (fun k => impl_setOf.l0 k ((0 : Nat) : Int) (ints t) (t.length : Int) ((0 : Nat) : Int)) ((orr 0 t : Nat) : Int) := by
    refine upto_ev (fun k i => impl_setOf.l0 k ((orr 0 (t.take i) : Nat) : Int) (ints t) (t.length : Int) (i : Int)) t.length (fun _ => True) _ ?_ ?_ 0 (Nat.zero_le _) trivial
    · intro i hi _ ih
      refine Ev.late_step 0 (fun k _ => ?_) (ih trivial)
      have hv := ht _ (getD_mem hi)
      have hS : orr 0 (t.take i) < 2 ^ n := orr_lt _ 0 (Nat.two_pow_pos n) (fun v h => ht v (List.mem_of_mem_take h))
      simp only [impl_setOf.l0]
      rw [if_pos (by omega), if_pos (by omega), if_pos (by rw [ints_len]; omega), rd_ints, impl_bit_f (by omega), Option.bind_some, or_nat (lt62 hn hS) (lt62 hn (bit_lt hv)), wrap_succ (by omega), take_snoc t hi, orr_snoc]
    · intro _
      refine Ev.one fun k => ?_
      simp only [impl_setOf.l0]
      rw [if_neg (by omega), List.take_length]
  refine Ev.late_eq 0 (fun k _ => ?_) hL
  unfold impl_setOf.f
  rw [ints_len]
  rfl
theorem layout_impl (s : Int) (l o : List Int) (ho : o.length ≤ 4000000) : Ev (fun k => impl_LayoutOk.f k s l o) (layB s l o) := by
  obtain ⟨K, h⟩ := hold_ev s l o ho
  rcases gB_cases s l with ⟨hb, _⟩ | ⟨n, R, hV, rfl, rfl, hb⟩
  · unfold layB
    rw [hb, Bool.false_and] at h ⊢
    refine ⟨K, fun k hk => ?_⟩
    have e := h k hk
    simp only at e ⊢
    unfold impl_LayoutOk.f
    rw [e, Option.bind_some, if_neg (by decide)]
  · have hn := hV.le
    unfold layB
    rw [hb, Bool.true_and] at h ⊢
    cases ha : o.all (vx (n : Int)) with
    | false =>
      rw [ha] at h
      rw [Bool.false_and, Bool.and_false]
      refine ⟨K, fun k hk => ?_⟩
      have e := h k hk
      simp only at e ⊢
      unfold impl_LayoutOk.f
      rw [e, Option.bind_some, if_neg (by decide)]
    | true =>
      rw [ha] at h
      rw [Bool.true_and]
      obtain ⟨eo, ht⟩ := ints_of ha
      generalize o.map Int.toNat = t at eo ht
      subst eo
      rw [ints_len] at ho ⊢
      by_cases hl : (t.length : Int) = (n : Int)
      · obtain ⟨K2, h2⟩ := setOf_ev hn ht ho
        rw [decide_eq_true hl, Bool.true_and]
        refine ⟨K + K2, fun k hk => ?_⟩
        have e := h k (by omega)
        have e2 := h2 k (by omega)
        simp only at e e2 ⊢
        unfold impl_LayoutOk.f
        rw [e, Option.bind_some, if_pos rfl, ints_len, if_pos hl, e2, Option.bind_some, impl_all_f (by omega), Option.bind_some]
        congr 1
        have hf := orr_full hn ht (by omega)
        rw [Bool.eq_iff_iff, beq_iff_eq, ← hf]
        omega
      · rw [decide_eq_false hl, Bool.false_and]
        refine ⟨K, fun k hk => ?_⟩
        have e := h k (by omega)
        simp only at e ⊢
        unfold impl_LayoutOk.f
        rw [e, Option.bind_some, if_pos rfl, ints_len, if_neg hl]
theorem layout_loop {n : Nat} (hn : n ≤ 8) (l o : List Int) (ho : o.length ≤ 4000000) : Ev (fun k => spec_LayoutOk.l0 k 0 o (o.length : Int) 0 (n : Int) l) (o.all (vx (n : Int)) && fresh 0 (o.map Int.toNat)) := by
  refine up_ev' (fun k i x => spec_LayoutOk.l0 k x o (o.length : Int) (i : Int) (n : Int) l) o.length (fun i x => ∃ S : Nat, x = (S : Int) ∧ S < 2 ^ n ∧ (o.all (vx (n : Int)) && fresh 0 (o.map Int.toNat)) = ((o.drop i).all (vx (n : Int)) && fresh S ((o.drop i).map Int.toNat))) _ ?_ ?_ 0 _ (Nat.zero_le _) ⟨0, rfl, Nat.two_pow_pos n, by rw [List.drop_zero]⟩
  · rintro i _ hi ⟨S, rfl, hS, hr⟩ ih
    rw [List.drop_eq_getElem_cons hi, List.all_cons, List.map_cons] at hr
    simp only [fresh] at hr
    have e : rd o (i : Int) = o[i] := by rw [rd_nat]; simp [List.getD_eq_getElem?_getD, hi]
    cases hx : vx (n : Int) o[i] with
    | false =>
      rw [hx, Bool.false_and, Bool.false_and] at hr
      rw [hr]
      refine Ev.one fun k => ?_
      simp only [spec_LayoutOk.l0]
      rw [if_pos (by omega), if_pos (by omega), if_pos (by omega), e, vertex_spec, Option.bind_some, hx, if_neg (by decide)]
    | true =>
      obtain ⟨u, hu⟩ : ∃ u : Nat, o[i] = (u : Int) := ⟨o[i].toNat, by unfold vx at hx; have := of_decide_eq_true hx; omega⟩
      have hun : u < n := by unfold vx at hx; have := of_decide_eq_true hx; omega
      rw [hx, hu, Int.toNat_natCast, Bool.true_and] at hr
      cases hb : S.testBit u with
      | true =>
        rw [hb, Bool.not_true, Bool.false_and, Bool.and_false] at hr
        rw [hr]
        refine Ev.one fun k => ?_
        simp only [spec_LayoutOk.l0]
        rw [if_pos (by omega), if_pos (by omega), if_pos (by omega), e, vertex_spec, Option.bind_some, hx, if_pos rfl, hu, spec_has_f (lt62 hn hS) (by omega), Option.bind_some, hb, if_pos rfl]
      | false =>
        rw [hb, Bool.not_false, Bool.true_and] at hr
        refine Ev.late_step 0 (fun k _ => ?_) (ih _ ⟨S ||| 2 ^ u, rfl, or_bit_lt hS hun, hr⟩)
        simp only [spec_LayoutOk.l0]
        rw [if_pos (by omega), if_pos (by omega), if_pos (by omega), e, vertex_spec, Option.bind_some, hx, if_pos rfl, hu, spec_has_f (lt62 hn hS) (by omega), Option.bind_some, hb, if_neg (by decide), if_pos (by omega), shl1 (by omega), or_nat (lt62 hn hS) (lt62 hn (bit_lt hun)), wrap_succ (by omega)]
  · rintro _ ⟨S, rfl, hS, hr⟩
    rw [hr, List.drop_length]
    refine Ev.one fun k => ?_
    simp only [spec_LayoutOk.l0]
    rw [if_neg (by omega)]
    rfl
theorem layout_spec (s : Int) (l o : List Int) (ho : o.length ≤ 4000000) : Ev (fun k => spec_LayoutOk.f k s l o) (layB s l o) := by
  obtain ⟨K, h⟩ := spec_GraphOk_ev s l
  rcases gB_cases s l with ⟨hb, _⟩ | ⟨n, R, hV, rfl, rfl, hb⟩
  · unfold layB
    rw [hb] at h ⊢
    refine ⟨K + 1, fun k hk => ?_⟩
    obtain ⟨k, rfl⟩ : ∃ m, k = m + 1 := ⟨k - 1, by omega⟩
    have e := h (k + 1) (by omega)
    simp only at e ⊢
    unfold spec_LayoutOk.f
    rw [e, Option.bind_some, if_neg (by decide)]
    simp only [spec_LayoutOk.j0]
    rw [if_pos trivial]
    rfl
  · unfold layB
    rw [hb] at h ⊢
    rw [Bool.true_and]
    by_cases hl : (o.length : Int) = (n : Int)
    · obtain ⟨K2, h2⟩ := layout_loop hV.le (rows n R) o ho
      rw [decide_eq_true hl, Bool.true_and]
      refine ⟨K + K2 + 1, fun k hk => ?_⟩
      obtain ⟨k, rfl⟩ : ∃ m, k = m + 1 := ⟨k - 1, by omega⟩
      have e := h (k + 1) (by omega)
      have e2 := h2 k (by omega)
      simp only at e e2 ⊢
      unfold spec_LayoutOk.f
      rw [e, Option.bind_some, if_pos rfl]
      simp only [spec_LayoutOk.j0]
      rw [if_neg (by rw [hl]; simp), e2]
    · rw [decide_eq_false hl, Bool.false_and]
      refine ⟨K + 1, fun k hk => ?_⟩
      obtain ⟨k, rfl⟩ : ∃ m, k = m + 1 := ⟨k - 1, by omega⟩
      have e := h (k + 1) (by omega)
      simp only at e ⊢
      unfold spec_LayoutOk.f
      rw [e, Option.bind_some, if_pos rfl]
      simp only [spec_LayoutOk.j0]
      rw [if_pos (by rw [bne_iff_ne]; exact hl)]
end Go.Proofs.Ytakgeblhdckccaa.P
