/- The decomposition for an order: the program and the reference answer alike. -/
import Derived.Test.YtakgeblhdckccaaG16J
import Derived.Test.YtakgeblhdckccaaGXJ
import Derived.Test.YtakgeblhdckccaaQj2
import Derived.Test.YtakgeblhdckccaaQj1
namespace Go.Proofs.Ytakgeblhdckccaa.P
open Go.RowKit Go.Proofs.YtakgeblhdckccaaW.PrintWords Go.Proofs.YtakgeblhdckccaaW.PrintLast Go.Proofs.YtakgeblhdckccaaW.PrintMore Go.Proofs.Ytakgeblhdckccaa.Q
set_option linter.unusedVariables false

theorem elim_ev {n : Nat} {R : Nat → Nat} {t : List Nat} (hV : V n R) (ht : ∀ v ∈ t, v < n) (hl : t.length = n) (hf : fresh 0 t = true) : Ev (fun k => impl_Graph_eliminated.f k (n : Int) (rows n R) (ints t)) (ints (bagL n R 0 t)) := by
  have hn := hV.le
  refine Ev.late_eq 0 (fun k _ => ?_) (elim_loop hV ht hl hf)
  unfold impl_Graph_eliminated.f slices_Clone_int_int.f
  rw [if_pos (by rw [rows_len]; omega), Option.bind_some, impl_all_f (by omega), Option.bind_some, ints_len]
/-- The place of the first member of b in a list, its first place being j; -1 where there is none. -/
def nx (b : Nat) : List Nat → Nat → Int
  | [], _ => -1
  | v :: u, j => if b.testBit v then (j : Int) else nx b u (j + 1)
theorem nx_cons (b v : Nat) (u : List Nat) (j : Nat) : nx b (v :: u) j = if b.testBit v then (j : Int) else nx b u (j + 1) := rfl
theorem nx_shift (b c : Nat) : ∀ (u : List Nat) (j : Nat), nx b u (j + c) = (if nx b u j ≥ 0 then nx b u j + (c : Int) else -1) ∧ (nx b u j = -1 ∨ ((j : Int) ≤ nx b u j ∧ nx b u j < (j : Int) + (u.length : Int)))
  | [], j => ⟨rfl, .inl rfl⟩
  | v :: u, j => by
    obtain ⟨h1, h2⟩ := nx_shift b c u (j + 1)
    unfold nx
    by_cases h : b.testBit v = true
    · rw [if_pos h, if_pos h, if_pos (by omega)]
      exact ⟨by omega, .inr ⟨by omega, by simp only [List.length_cons]; omega⟩⟩
    · rw [if_neg h, if_neg h, show j + c + 1 = j + 1 + c by omega]
      exact ⟨h1, by simp only [List.length_cons]; omega⟩
section
variable {n : Nat} {R : Nat → Nat} {t : List Nat}
theorem index_nx (hn : n ≤ 8) {u : List Nat} (hu : ∀ v ∈ u, v < n) (hl : u.length ≤ 8) {b : Nat} (hb : b < 2 ^ n) {k : Nat} (hk : u.length < k) : slices_IndexFunc_int_int.f k (ints u) (impl_DecompositionFor.p (b : Int)) = some (nx b u 0) := by
  have go : ∀ d k m, u.length = m + d → d < k → slices_IndexFunc_int_int.l0 k (ints u) (impl_DecompositionFor.p (b : Int)) (u.length : Int) (m : Int) = some (nx b (u.drop m) m) := by
    intro d
    induction d with
    | zero =>
      intro k m hd hk
      obtain ⟨k, rfl⟩ : ∃ q, k = q + 1 := ⟨k - 1, by omega⟩
      simp only [slices_IndexFunc_int_int.l0]
      rw [if_neg (by omega), List.drop_eq_nil_of_le (by omega)]
      rfl
    | succ d ih =>
      intro k m hd hk
      obtain ⟨k, rfl⟩ : ∃ q, k = q + 1 := ⟨k - 1, by omega⟩
      have hm : m < u.length := by omega
      have hv := hu _ (List.getElem_mem hm)
      have hr : rd (ints u) (m : Int) = ((u[m] : Nat) : Int) := by
        rw [rd_nat]
        simp [ints, List.getD_eq_getElem?_getD, hm]
      have hp : impl_DecompositionFor.p (b : Int) ((u[m] : Nat) : Int) = some (b.testBit u[m]) := impl_has_f (lt62 hn hb) (by omega)
      simp only [slices_IndexFunc_int_int.l0]
      rw [if_pos (by omega), if_pos (by omega), if_pos (by rw [ints_len]; omega), hr, hp, Option.bind_some, List.drop_eq_getElem_cons hm, wrap_succ (by omega)]
      unfold nx
      by_cases h : b.testBit u[m] = true
      · rw [if_pos h, if_pos h]
      · rw [if_neg h, if_neg h]
        exact ih k (m + 1) (by omega) (by omega)
  unfold slices_IndexFunc_int_int.f
  rw [ints_len]
  exact go u.length k 0 (by omega) hk
/-- The parents of the first i bags. -/
def pars (n : Nat) (R : Nat → Nat) (t : List Nat) (i : Nat) : List Int := (List.range i).map fun i => nx ((bagL n R 0 t).getD i 0) (t.drop (i + 1)) (i + 1)
theorem pars_len (i : Nat) : (pars n R t i).length = i := by simp [pars]
theorem pars_succ (i : Nat) : pars n R t (i + 1) = pars n R t i ++ [nx ((bagL n R 0 t).getD i 0) (t.drop (i + 1)) (i + 1)] := by
  unfold pars
  rw [List.range_succ, List.map_append]
  rfl
theorem ints_drop (t : List Nat) (i : Nat) : (ints t).drop i = ints (t.drop i) := by unfold ints; rw [List.map_drop]
theorem bag_at_lt (hV : V n R) (ht : ∀ v ∈ t, v < n) (i : Nat) : (bagL n R 0 t).getD i 0 < 2 ^ n := by
  by_cases h : i < (bagL n R 0 t).length
  · exact bagL_lt hV t 0 (Nat.two_pow_pos n) ht _ (getD_mem h)
  · rw [List.getD_eq_getElem?_getD, List.getElem?_eq_none (by omega)]
    exact Nat.two_pow_pos n
theorem decomp_impl (hV : V n R) (ht : ∀ v ∈ t, v < n) (hl : t.length = n) : Ev (fun k => impl_DecompositionFor.l0 k (ints t) (ints (bagL n R 0 t)) (t.length : Int) 0 (ints (bagL n R 0 t)) ([] : List Int)) (ints (bagL n R 0 t), pars n R t n, true) := by
  have hn := hV.le
  refine upto_ev (fun k i => impl_DecompositionFor.l0 k (ints t) (ints (bagL n R 0 t)) (t.length : Int) (i : Int) (ints (bagL n R 0 t)) (pars n R t i)) t.length (fun _ => True) _ ?_ ?_ 0 (Nat.zero_le _) trivial
  · intro i hi _ ih
    have hb := bag_at_lt hV ht i
    obtain ⟨h1, h2⟩ := nx_shift ((bagL n R 0 t).getD i 0) (i + 1) (t.drop (i + 1)) 0
    refine Ev.late_step 10 (fun k hk => ?_) (ih trivial)
    have hx := index_nx (u := t.drop (i + 1)) hn (fun v hv => ht v (List.mem_of_mem_drop hv)) (by rw [List.length_drop]; omega) hb (k := k) (by rw [List.length_drop]; omega)
    rw [Nat.zero_add] at h1
    have hd : (t.drop (i + 1)).length ≤ 8 := by rw [List.length_drop]; omega
    simp only [impl_DecompositionFor.l0]
    rw [if_pos (by omega), if_pos (by omega), if_pos (by rw [ints_len, bagL_len]; omega), wrap_succ (by omega), if_pos (by omega), if_pos (by rw [ints_len]; omega), Int.toNat_natCast, ints_drop, rd_nat]
    have hr : (ints (bagL n R 0 t)).getD i 0 = (((bagL n R 0 t).getD i 0 : Nat) : Int) := by
      have := rd_ints (bagL n R 0 t) i
      rwa [rd_nat] at this
    rw [hr, hx, Option.bind_some, pars_succ, h1]
    by_cases h : nx ((bagL n R 0 t).getD i 0) (t.drop (i + 1)) 0 ≥ 0
    · rw [if_pos h, if_pos h, if_pos (by rw [pars_len]; omega), wrap_small (by omega) (by omega)]
    · rw [if_neg h, if_neg h, if_pos (by rw [pars_len]; omega), show nx ((bagL n R 0 t).getD i 0) (t.drop (i + 1)) 0 = -1 by omega]
  · intro _
    refine Ev.one fun k => ?_
    simp only [impl_DecompositionFor.l0]
    rw [if_neg (by omega), hl]
theorem decomp_spec (hV : V n R) (ht : ∀ v ∈ t, v < n) (hl : t.length = n) : Ev (fun k => spec_DecompositionFor.l0 k (ints t) (ints (bagL n R 0 t)) (t.length : Int) 0 (ints (bagL n R 0 t)) ([] : List Int)) (ints (bagL n R 0 t), pars n R t n, true) := by
  have hn := hV.le
  refine upto_ev (fun k i => spec_DecompositionFor.l0 k (ints t) (ints (bagL n R 0 t)) (t.length : Int) (i : Int) (ints (bagL n R 0 t)) (pars n R t i)) t.length (fun _ => True) _ ?_ ?_ 0 (Nat.zero_le _) trivial
  · intro i hi _ ih
    have hb := bag_at_lt hV ht i
    have inner : ∀ d, i + d < t.length → Ev (fun k => spec_DecompositionFor.l1 k (ints t) (i : Int) (((bagL n R 0 t).getD i 0 : Nat) : Int) (nx ((bagL n R 0 t).getD i 0) (t.drop (i + d + 1)) (i + d + 1)) ((i + d : Nat) : Int) (ints (bagL n R 0 t)) (t.length : Int) (i : Int) (ints (bagL n R 0 t)) (pars n R t i)) (ints (bagL n R 0 t), pars n R t n, true) := by
      intro d
      induction d with
      | zero =>
        intro _
        refine Ev.late_step 0 (fun k _ => ?_) (ih trivial)
        simp only [spec_DecompositionFor.l1]
        rw [if_neg (by omega), if_pos (by rw [pars_len]; omega), wrap_succ (by omega), pars_succ]
      | succ d ihd =>
        intro hd
        have hj : i + (d + 1) < t.length := hd
        have hv := ht _ (List.getElem_mem hj)
        have hr : rd (ints t) ((i + (d + 1) : Nat) : Int) = ((t[i + (d + 1)] : Nat) : Int) := by
          rw [rd_ints]
          simp [List.getD_eq_getElem?_getD, hj]
        have hs := ihd (by omega)
        rw [show i + d + 1 = i + (d + 1) by omega, List.drop_eq_getElem_cons hj] at hs
        refine Ev.late_step 0 (fun k _ => ?_) hs
        simp only [spec_DecompositionFor.l1]
        rw [if_pos (by omega), if_pos (by omega), if_pos (by rw [ints_len]; omega), hr, spec_has_f (lt62 hn hb) (by omega), Option.bind_some, wrap_small (by omega) (by omega), show ((i + (d + 1) : Nat) : Int) - 1 = ((i + d : Nat) : Int) by omega, nx_cons]
        by_cases h : ((bagL n R 0 t).getD i 0).testBit t[i + (d + 1)] = true
        · rw [if_pos h, if_pos h]
        · rw [if_neg h, if_neg h]
    have h0 := inner (t.length - 1 - i) (by omega)
    rw [show i + (t.length - 1 - i) + 1 = t.length by omega, List.drop_length, show i + (t.length - 1 - i) = t.length - 1 by omega] at h0
    refine Ev.late_step 0 (fun k _ => ?_) h0
    have hr : rd (ints (bagL n R 0 t)) (i : Int) = (((bagL n R 0 t).getD i 0 : Nat) : Int) := rd_ints _ i
    simp only [spec_DecompositionFor.l0]
    rw [if_pos (by omega), if_pos (by omega), if_pos (by rw [ints_len, bagL_len]; omega), hr, ints_len, wrap_small (by omega) (by omega), show (t.length : Int) - 1 = ((t.length - 1 : Nat) : Int) by omega]
    rfl
  · intro _
    refine Ev.one fun k => ?_
    simp only [spec_DecompositionFor.l0]
    rw [if_neg (by omega), hl]
end
theorem decomp_both (s : Int) (l o : List Int) (ho : o.length ≤ 4000000) : ∃ r : List Int × List Int × Bool, r.1.length ≤ 8 ∧ r.2.1.length ≤ 8 ∧ Ev (fun k => impl_DecompositionFor.f k s l o) r ∧ Ev (fun k => spec_DecompositionFor.f k s l o) r := by
  obtain ⟨K, h⟩ := layout_impl s l o ho
  obtain ⟨K1, h1⟩ := layout_spec s l o ho
  cases hb : layB s l o with
  | false =>
    rw [hb] at h h1
    refine ⟨([], [], false), by simp, by simp, ⟨K, fun k hk => ?_⟩, ⟨K1, fun k hk => ?_⟩⟩
    · have e := h k hk
      simp only at e ⊢
      unfold impl_DecompositionFor.f
      rw [e, Option.bind_some, if_neg (by decide)]
    · have e := h1 k hk
      simp only at e ⊢
      unfold spec_DecompositionFor.f
      rw [e, Option.bind_some, if_neg (by decide)]
  | true =>
    obtain ⟨n, R, t, hV, rfl, rfl, hg, rfl, hl, ht, hf⟩ := layB_cases hb
    rw [hb] at h h1
    have hn := hV.le
    obtain ⟨K2, h2⟩ := elim_ev hV ht hl hf
    obtain ⟨K3, h3⟩ := bags_spec hV ht hl hf hb
    obtain ⟨K4, h4⟩ := decomp_impl (R := R) hV ht hl
    obtain ⟨K5, h5⟩ := decomp_spec (R := R) hV ht hl
    refine ⟨(ints (bagL n R 0 t), pars n R t n, true), by simp only; rw [ints_len, bagL_len]; omega, by simp only; rw [pars_len]; omega, ⟨K + K2 + K4, fun k hk => ?_⟩, ⟨K1 + K3 + K5, fun k hk => ?_⟩⟩
    · have e := h k (by omega)
      have e2 := h2 k (by omega)
      have e4 := h4 k (by omega)
      simp only at e e2 e4 ⊢
      unfold impl_DecompositionFor.f
      rw [e, Option.bind_some, if_pos rfl, e2, Option.bind_some, ints_len, bagL_len, e4]
    · have e := h1 k (by omega)
      have e2 := h3 k (by omega)
      have e4 := h5 k (by omega)
      simp only at e e2 e4 ⊢
      unfold spec_DecompositionFor.f
      rw [e, Option.bind_some, if_pos rfl, e2, Option.bind_some, ints_len, bagL_len, e4]
end Go.Proofs.Ytakgeblhdckccaa.P
